/-
  THE WALKS of the codec's writer: bit, number, rice.
-/
import Derived.Test.YtfoiadlaekknpaaLoose
import Derived.Test.YtfoiadlaekknpaaBits
import Derived.LoopTactic
import Derived.Laws.OwnMore
namespace Go.Proofs.Ytfoiadlaekknpaa.Co
open Go.RowKit

def byteV (L : List Bool) (i : Nat) : List Value := [.int .u8 (byteOf L i)]
theorem byteV_len (L : List Bool) (i : Nat) : (byteV L i).length = 1 := rfl
/-- A writer in memory, made at or above block base: what has been written; v: its bytes. -/
structure Wr (base : Nat) (w : World) (bw : Nat) (L : List Bool) (v : Value) : Prop where
  blk : w.heap[bw]? = some (.cells #[v, .int .i64 ((8 * nb L - L.length : Nat) : Int)] 36 (0, 0))
  own : w.ownsRow base 5 1 v (nb L) (rowsOf (byteV L) (nb L))
  lo : base ≤ bw
/-- What a writer's step leaves alone: all below base; whatever holds no bytes and is not the writer itself. -/
structure Grew (base bw : Nat) (w w' : World) : Prop where
  os : w'.os = w.os
  tape : w'.tape = w.tape
  output : w'.output = w.output
  size : w.heap.size ≤ w'.heap.size
  low : ∀ k, k < base → w'.heap[k]? = w.heap[k]?
  typ : ∀ k c t m, w.heap[k]? = some (.cells c t m) → t ≠ 5 → k ≠ bw → w'.heap[k]? = some (.cells c t m)
theorem Grew.refl (base bw : Nat) (w : World) : Grew base bw w w := ⟨rfl, rfl, rfl, Nat.le_refl _, fun _ _ => rfl, fun _ _ _ _ h _ _ => h⟩
theorem Grew.trans {base bw : Nat} {w w1 w2 : World} (h1 : Grew base bw w w1) (h2 : Grew base bw w1 w2) : Grew base bw w w2 :=
  ⟨h2.os.trans h1.os, h2.tape.trans h1.tape, h2.output.trans h1.output, Nat.le_trans h1.size h2.size, fun k hk => (h2.low k hk).trans (h1.low k hk), fun k c t m hk ht hb => h2.typ k c t m (h1.typ k c t m hk ht hb) ht hb⟩
theorem Grew.below {base bw : Nat} {w w' : World} (h : Grew base bw w w') : Below base w w' := ⟨h.os, h.tape, h.output, h.size, h.low⟩
theorem Grew.of_below {base bw : Nat} {w w' : World} (h : Below w.heap.size w w') (hb : base ≤ w.heap.size) : Grew base bw w w' :=
  ⟨h.os, h.tape, h.output, h.size, fun k hk => h.block k (by omega), fun k c t m hk _ _ => (h.block k (Array.getElem?_eq_some_iff.1 hk).1).trans hk⟩
theorem Grew.set {base bw : Nat} {w : World} {i : Nat} {u : Value} (hb : base ≤ bw) : Grew base bw w (w.setCell ⟨bw, i, none⟩ u) :=
  ⟨rfl, rfl, rfl, by simp, fun k hk => heap_setCell_other w ⟨bw, i, none⟩ k u (by show k ≠ bw; omega), fun k c t m h _ hne => (heap_setCell_other w ⟨bw, i, none⟩ k u hne).trans h⟩
theorem Grew.own {base bw g j : Nat} {w : World} {u : Value} {cur : Array Value} (hg : w.heap[g]? = some (.cells cur 5 (0, 0))) (hb : base ≤ g) : Grew base bw w (w.setCell ⟨g, j, none⟩ u) :=
  ⟨rfl, rfl, rfl, by simp, fun k hk => heap_setCell_other w ⟨g, j, none⟩ k u (by show k ≠ g; omega), fun k c t m h ht _ => (heap_setCell_other w ⟨g, j, none⟩ k u (by
    intro e; simp only at e; subst e; rw [hg] at h; simp only [Option.some.injEq, Obj.cells.injEq] at h; exact ht h.2.1.symm)).trans h⟩
theorem Grew.grown {base bw : Nat} {w w' : World} {v : Value} {c : Nat} {xs : List Value} (h : w.ownsRow base 5 1 v c xs) (hg : w.grownBy w' v.ownBlock) (hb : base ≤ w.heap.size) : Grew base bw w w' := by
  refine ⟨hg.os, hg.tape, hg.output, hg.size, fun k hk => hg.block k (by omega) fun e => by have := (h.lt k e.symm).1; omega, fun k c t m hk ht _ => ?_⟩
  rw [hg.block k (Array.getElem?_eq_some_iff.1 hk).1 fun e => ?_]
  · exact hk
  · rcases h.2 with ⟨rfl, _⟩ | ⟨g, cap, cur, rfl, _, hgg, _⟩
    · simp [Value.ownBlock] at e
    · simp only [Value.ownBlock, Option.some.injEq] at e
      subst e
      rw [hgg] at hk
      simp only [Option.some.injEq, Obj.cells.injEq] at hk
      exact ht hk.2.1.symm
theorem own_block {w : World} {base : Nat} {e : TypeId} {s : Nat} {v : Value} {c : Nat} {xs : List Value} (h : w.ownsRow base e s v c xs) {b : Nat} {z : Array Value} {t : TypeId} {m : Nat × Nat} (hb : w.heap[b]? = some (.cells z t m)) (ht : t ≠ e) : v.ownBlock ≠ some b := by
  rcases h.2 with ⟨rfl, _⟩ | ⟨g, cap, cur, rfl, _, hgg, _⟩
  · simp [Value.ownBlock]
  · intro he
    simp only [Value.ownBlock, Option.some.injEq] at he
    subst he
    rw [hgg] at hb
    simp only [Option.some.injEq, Obj.cells.injEq] at hb
    exact ht hb.2.1.symm
theorem blk_cell {w : World} {b : Nat} {z : Array Value} {t : TypeId} (h : w.heap[b]? = some (.cells z t (0, 0))) (i : Nat) (u : Value) (hi : z[i]? = some u) : w.cell? ⟨b, i, none⟩ = some u := new_cell h i u hi
theorem blk_free {w : World} {b : Nat} {z : Array Value} {t : TypeId} (h : w.heap[b]? = some (.cells z t (0, 0))) (i : Nat) : w.frozen? ⟨b, i, none⟩ = false := new_free h i
theorem blk_lt {w : World} {b : Nat} {o : Obj} (h : w.heap[b]? = some o) : b < w.heap.size := (Array.getElem?_eq_some_iff.1 h).1
theorem own_slice {w : World} {base : Nat} {e : TypeId} {s : Nat} {v : Value} {c : Nat} {xs : List Value} (h : w.ownsRow base e s v c xs) (hc : 0 < c) : ∃ g cap cur, v = .slice (some ⟨g, 0, none⟩) c cap ∧ base ≤ g ∧ w.heap[g]? = some (.cells cur e (0, 0)) := by
  rcases h.2 with ⟨_, h0⟩ | ⟨g, cap, cur, rfl, hb, hg, _⟩
  · omega
  · exact ⟨g, cap, cur, rfl, by assumption, hg⟩
theorem own_set {w : World} {base : Nat} {e : TypeId} {s : Nat} {v : Value} {c : Nat} {xs : List Value} (h : w.ownsRow base e s v c xs) {b i : Nat} {u : Value} (hb : v.ownBlock ≠ some b) : (w.setCell ⟨b, i, none⟩ u).ownsRow base e s v c xs :=
  h.kept (row := some b) ⟨rfl, rfl, rfl, by simp, fun k _ hk => heap_setCell_other w ⟨b, i, none⟩ k u (fun e => hk (by simp [e]))⟩ (.inr hb)
theorem blk_set {w : World} {b i : Nat} {z : Array Value} {t : TypeId} {u : Value} (h : w.heap[b]? = some (.cells z t (0, 0))) : (w.setCell ⟨b, i, none⟩ u).heap[b]? = some (.cells (z.setIfInBounds i u) t (0, 0)) :=
  heap_setCell_same w b i z t u h
theorem blk_other {w : World} {b g i : Nat} {u : Value} {o : Obj} (h : w.heap[b]? = some o) (hne : b ≠ g) : (w.setCell ⟨g, i, none⟩ u).heap[b]? = some o :=
  (heap_setCell_other w ⟨g, i, none⟩ b u hne).trans h
theorem blk_below {w w' : World} {b : Nat} {o : Obj} (h : w.heap[b]? = some o) (hb : Below w.heap.size w w') : w'.heap[b]? = some o := (hb.block b (blk_lt h)).trans h

theorem rows1_set {f f' : Nat → List Value} {u : Value} (hf : ∀ i, (f i).length = 1) : ∀ {c i : Nat}, i < c → f' i = [u] → (∀ j, j ≠ i → f' j = f j) → (rowsOf f c).set i u = rowsOf f' c
  | c + 1, i, hi, hu, ho => by
    have hlen := rowsOf_length hf c
    rw [rowsOf, rowsOf]
    by_cases h : i = c
    · subst h
      rw [List.set_append_right _ _ (by omega), rowsOf_congr (f := f') (g := f) fun j hj => ho j (by omega), hu, show i - (rowsOf f i).length = 0 by omega]
      have := hf i
      match hfi : f i, this with
      | [x], _ => rfl
    · rw [List.set_append_left _ _ (by omega), rows1_set hf (show i < c by omega) hu ho, ho c (by omega)]

/-- The numbers behind one bit. -/
structure Step (L : List Bool) (b : Bool) (c : Nat) (f : Nat) : Prop where
  at_ : L.length / 8 = c - 1
  pos : 1 ≤ c
  f1 : 1 ≤ f
  f8 : f ≤ 8
  free : 8 * nb (L ++ [b]) - (L ++ [b]).length = f - 1
  cnt : nb (L ++ [b]) = c
  mod : 8 - L.length % 8 = f
theorem step_in {L : List Bool} {b : Bool} (h : L.length % 8 ≠ 0) : Step L b (nb L) (8 * nb L - L.length) := by
  unfold nb
  refine ⟨by omega, by omega, by omega, by omega, ?_, ?_, by omega⟩
  · unfold nb; simp only [List.length_append, List.length_cons, List.length_nil]; omega
  · unfold nb; simp only [List.length_append, List.length_cons, List.length_nil]; omega
theorem step_new {L : List Bool} {b : Bool} (h : L.length % 8 = 0) : Step L b (nb L + 1) 8 := by
  unfold nb
  refine ⟨by omega, by omega, by omega, by omega, ?_, ?_, by omega⟩
  · unfold nb; simp only [List.length_append, List.length_cons, List.length_nil]; omega
  · unfold nb; simp only [List.length_append, List.length_cons, List.length_nil]; omega
theorem byte_new {L : List Bool} (h : L.length % 8 = 0) : byteOf L (nb L) = 0 := by
  unfold byteOf nb
  rw [byteP_end (k := 0) (by omega) (by omega)]; rfl
theorem or_value {L : List Bool} {b : Bool} {c f : Nat} (h : Step L b c f) :
    Go.bits .or .u8 (byteOf L (c - 1) : Int) (wrap64 (bi b * 2 ^ (f - 1)) % 256) = (byteOf (L ++ [b]) (c - 1) : Int) := by
  obtain ⟨y, h1, h2⟩ := byteOf_form L
  have := h.f1; have := h.f8
  rw [← h.at_, byteOf_at, h1, h.mod]
  have e : wrap64 (bi b * 2 ^ (f - 1)) % 256 = if b then ((2 ^ (f - 1) : Nat) : Int) else 0 := by
    have hf : f = 1 ∨ f = 2 ∨ f = 3 ∨ f = 4 ∨ f = 5 ∨ f = 6 ∨ f = 7 ∨ f = 8 := by omega
    cases b <;> rcases hf with rfl | rfl | rfl | rfl | rfl | rfl | rfl | rfl <;> decide +kernel
  rw [e, show 7 - L.length % 8 = f - 1 by have := h.mod; omega]
  refine or_bit f h.f1 h.f8 b y ?_
  rwa [show 8 - f = L.length % 8 by have := h.mod; omega]

/-- Behind the bit's own store. -/
theorem Wr.stored {W3 wd : World} {base bw g c cap f : Nat} {L : List Bool} {b : Bool} (h : Step L b c f)
    (hblk : W3.heap[bw]? = some (.cells #[.slice (some ⟨g, 0, none⟩) c cap, .int .i64 ((f - 1 : Nat) : Int)] 36 (0, 0)))
    (hown : W3.ownsRow base 5 1 (.slice (some ⟨g, 0, none⟩) c cap) c (rowsOf (byteV L) c)) (hlo : base ≤ bw) (hbd : Below W3.heap.size W3 wd) :
    Wr base (wd.setCell ⟨g, c - 1, none⟩ (.int .u8 (byteOf (L ++ [b]) (c - 1) : Int))) bw (L ++ [b]) (.slice (some ⟨g, 0, none⟩) c cap) := by
  have hp := h.pos
  have hne : bw ≠ g := fun e => own_block hown hblk (by decide) (by simp [Value.ownBlock, e])
  refine ⟨?_, ?_, hlo⟩
  · rw [h.free]; exact blk_other (blk_below hblk hbd) hne
  · rw [h.cnt]
    have h1 := ((own_below hown hbd).stored (c - 1) (.int .u8 (byteOf (L ++ [b]) (c - 1) : Int))).1
    rwa [rows1_set (byteV_len L) (f' := byteV (L ++ [b])) (by omega) rfl fun j hj => by unfold byteV; rw [byteOf_other (by rw [h.at_]; exact hj)]] at h1

def BitPost (base bw : Nat) (w : World) (L : List Bool) (e : Ending) (w' : World) : Prop := e = .returned (.tuple #[]) ∧ ∃ v', Wr base w' bw L v' ∧ Grew base bw w w'
theorem bitPost {base bw : Nat} {w w' : World} {v' : Value} {L : List Bool} (h1 : Wr base w' bw L v') (h2 : Grew base bw w w') : BitPost base bw w L (.returned (.tuple #[])) w' := ⟨rfl, v', h1, h2⟩

theorem own_at {w : World} {base : Nat} {e : TypeId} {s g c cap : Nat} {xs : List Value} (h : w.ownsRow base e s (.slice (some ⟨g, 0, none⟩) c cap) c xs) : w.heap[g]? = some (.cells (Classical.choose (show ∃ cur, w.heap[g]? = some (.cells cur e (0, 0)) by
    rcases h.2 with ⟨h', _⟩ | ⟨g', cap', cur, h', _, hgg, _⟩
    · simp at h'
    · simp only [Value.slice.injEq, Option.some.injEq, Addr.mk.injEq, and_true, true_and] at h'
      obtain ⟨rfl, rfl⟩ := h'
      exact ⟨cur, hgg⟩)) e (0, 0)) := Classical.choose_spec (p := fun cur => w.heap[g]? = some (.cells cur e (0, 0))) _
theorem own_byte {w : World} {base g c cap : Nat} {L : List Bool} (h : w.ownsRow base 5 1 (.slice (some ⟨g, 0, none⟩) c cap) c (rowsOf (byteV L) c)) (hc : 1 ≤ c) : w.cell? ⟨g, c - 1, none⟩ = some (.int .u8 (byteOf L (c - 1) : Int)) := by
  rw [h.cellAt (c - 1) (by omega)]
  have := rowsOf_get (byteV_len L) (c := c) (i := c - 1) (j := 0) (by omega) (by omega)
  rw [Nat.mul_one, Nat.add_zero] at this
  exact this

set_option maxHeartbeats 2000000 in
theorem bit_in (base bw : Nat) (L : List Bool) (b : Bool) (v : Value) (w : World) (h : Wr base w bw L v) (hL : L.length ≤ 1000000000) (hm : L.length % 8 ≠ 0) :
    Calls Try.prog 28 #[.pointer (some ⟨bw, 0, none⟩), .int .i64 (bi b)] w (BitPost base bw w (L ++ [b])) := by
  have hs : Step L b (nb L) (8 * nb L - L.length) := step_in hm
  have hblk := h.blk
  have hown := h.own
  have hcb : nb L ≤ 200000000 := by unfold nb; omega
  generalize hc : nb L = c at hs hblk hown hcb
  generalize hf : 8 * c - L.length = f at hs hblk
  have hp := hs.pos; have hf1 := hs.f1; have hf8 := hs.f8
  obtain ⟨g, cap, cur, rfl, hbg, hg⟩ := own_slice hown (by omega)
  have hno := own_block hown hblk (by decide)
  have c0 := blk_cell hblk 0 _ rfl
  have c1 := blk_cell hblk 1 _ rfl
  have z0 := blk_free hblk 0
  have z1 := blk_free hblk 1
  have hbw := blk_lt hblk
  have hb3 := blk_set (i := 1) (u := .int .i64 ((f - 1 : Nat) : Int)) hblk
  have ho3 := own_set (i := 1) (u := .int .i64 ((f - 1 : Nat) : Int)) hown hno
  have hg3 : Grew base bw w (w.setCell ⟨bw, 1, none⟩ (.int .i64 ((f - 1 : Nat) : Int))) := Grew.set h.lo
  have d0 := own_byte ho3 hp
  have d1 := ho3.frozenAt (c - 1)
  have e0 : ((f : Int) == 0) = false := by simp; omega
  have e1 : (f : Int) - 1 = ((f - 1 : Nat) : Int) := by omega
  have e2 : (0 : Int) ≤ (c : Int) - 1 := by omega
  have e3 : (c : Int) - 1 < c := by omega
  have e4 : ((c : Int) - 1).toNat = c - 1 := by omega
  have HV := Lib.hid (or_value hs)
  have hbb : 0 ≤ bi b ∧ bi b ≤ 1 := by cases b <;> simp [bi]
  clear hc hf hm hL hg hno
  go_enter Try.func28, Try.ntmps28
  go_wp2
  generalize hW : w.setCell ⟨bw, 1, none⟩ (.int .i64 ((f - 1 : Nat) : Int)) = W3 at *
  have c0' := blk_cell hb3 0 _ rfl
  have c1' := blk_cell hb3 1 _ rfl
  simp at c0' c1'
  have hbw3 := blk_lt hb3
  have hg3' : g < W3.heap.size := World.block_lt_of_cell? W3 _ d0
  clear c0 c1 z0 z1 hW
  have hE := Ext.cells W3
  refine wp_region_ext_tail 21 (by kernel_rfl) (by kernel_rfl) ?_
  simp only [List.take_succ_cons, List.take_zero, List.drop_succ_cons, List.drop_zero]
  repeat go_big_quiet_step ((fail))
  refine wpQuiet_nil ?_
  rintro wd ⟨⟨_, hbd⟩, rfl⟩
  have q1 := cell_then d0 hbd
  have q2 := (hbd.frozen (p := ⟨g, c - 1, none⟩) hg3').trans d1
  clear hE
  go_wp2
  go_end0
  rw [HV.out]
  exact bitPost (Wr.stored hs hb3 ho3 h.lo hbd) ((hg3.trans (Grew.of_below hbd (Nat.le_trans h.lo (Nat.le_of_lt hbw3)))).trans (Grew.own (blk_below (own_at ho3) hbd) hbg))

theorem Try.infoByte : (Try.prog.info? 5).map (fun i => (i.zero, i.size, i.bytes)) = some (some (.int .u8 0), 1, 1) := by kernel_rfl

set_option maxHeartbeats 2000000 in
theorem bit_new (base bw : Nat) (L : List Bool) (b : Bool) (v : Value) (w : World) (h : Wr base w bw L v) (hL : L.length ≤ 1000000000) (hm : L.length % 8 = 0) :
    Calls Try.prog 28 #[.pointer (some ⟨bw, 0, none⟩), .int .i64 (bi b)] w (BitPost base bw w (L ++ [b])) := by
  obtain ⟨i0, hi, hz0, hz1, hz2⟩ := info_parts Try.infoByte
  have hs : Step L b (nb L + 1) 8 := step_new hm
  have hblk := h.blk
  have hown := h.own
  have hcb : nb L ≤ 200000000 := by unfold nb; omega
  have hlo := h.lo
  have hz : 8 * nb L - L.length = 0 := by unfold nb; omega
  rw [hz] at hblk
  have hrow : rowsOf (byteV L) (nb L) ++ [.int .u8 0] = rowsOf (byteV L) (nb L + 1) := by rw [rowsOf]; unfold byteV; rw [byte_new hm]; rfl
  have HR := Lib.hid hrow
  clear hz hrow
  generalize hc : nb L = c at hs hblk hown hcb HR
  have c0 := blk_cell hblk 0 _ rfl
  have c1 := blk_cell hblk 1 _ rfl
  have z0 := blk_free hblk 0
  have z1 := blk_free hblk 1
  have hbw := blk_lt hblk
  have HV := Lib.hid (or_value hs)
  have hbb : 0 ≤ bi b ∧ bi b ≤ 1 := by cases b <;> simp [bi]
  clear hc hm hL
  go_enter Try.func28, Try.ntmps28
  go_wp2_with (at_builtin; (refine wpList_append_own _ rfl _ _ 34 rfl base 5 i0 _ 1 1 Try.underlying34 hi hz0 hz1 hz2 rfl (by decide) _ _ _ rfl (own_below hown ?_) ⟨w.heap.size, 0, none⟩ 1 1 [.int .u8 0] rfl rfl ?_ ?_ ?_ ?_ ?_ ?_; exact (by repeat (first | exact Below.refl _ _ | assumption | refine below_drewN ?_ _ | refine Below.drew ?_ | refine below_new ?_ _ | refine Below.setCell ?_ (by first | omega | (simp <;> omega)) _ | refine below_then (by assumption) ?_)); exact news_cells (by simp); simp [Value.oneCell']; (unfold maxLen; omega); omega; (simp; omega); intro v9 wa hown1 hgrow _; rw [HR.out] at hown1; obtain ⟨g, cap, cur, rfl, hbg, hg⟩ := own_slice hown1 (by omega); have hba := hgrow.block bw (by simp; omega) (Ne.symm (own_block hown hblk (by decide))); have hba2 := hba.trans (blk_below hblk (below_new (Below.refl _ _) _)); have a0 := blk_cell hba2 0 _ rfl; have a1 := blk_cell hba2 1 _ rfl; have y0 := blk_free hba2 0; have y1 := blk_free hba2 1))
  have hb3 : (((wa.setCell ⟨bw, 0, none⟩ (.slice (some ⟨g, 0, none⟩) (c + 1) cap)).setCell ⟨bw, 1, none⟩ (.int .i64 8)).setCell ⟨bw, 1, none⟩ (.int .i64 7)).heap[bw]? =
      some (.cells #[.slice (some ⟨g, 0, none⟩) (c + 1) cap, .int .i64 ((8 - 1 : Nat) : Int)] 36 (0, 0)) := blk_set (blk_set (blk_set hba2))
  have hno := own_block hown1 hba2 (by decide)
  have ho3 := own_set (i := 1) (u := .int .i64 7) (own_set (i := 1) (u := .int .i64 8) (own_set (i := 0) (u := .slice (some ⟨g, 0, none⟩) (c + 1) cap) hown1 hno) hno) hno
  have hg3 : Grew base bw w (((wa.setCell ⟨bw, 0, none⟩ (.slice (some ⟨g, 0, none⟩) (c + 1) cap)).setCell ⟨bw, 1, none⟩ (.int .i64 8)).setCell ⟨bw, 1, none⟩ (.int .i64 7)) :=
    ((((Grew.of_below (below_new (Below.refl _ _) _) (by omega)).trans (Grew.grown (own_below hown (below_new (Below.refl _ _) _)) hgrow (by simp; omega))).trans (Grew.set h.lo)).trans (Grew.set h.lo)).trans (Grew.set h.lo)
  have d0 := own_byte ho3 (by omega)
  have d1 := ho3.frozenAt (c + 1 - 1)
  rw [Nat.add_sub_cancel] at d0 d1 HV
  have e2 : (0 : Int) ≤ (c : Int) := by omega
  generalize hW : ((wa.setCell ⟨bw, 0, none⟩ (.slice (some ⟨g, 0, none⟩) (c + 1) cap)).setCell ⟨bw, 1, none⟩ (.int .i64 8)).setCell ⟨bw, 1, none⟩ (.int .i64 7) = W3 at *
  have c0' := blk_cell hb3 0 _ rfl
  have c1' : W3.cell? ⟨bw, 1, none⟩ = some (.int .i64 7) := blk_cell hb3 1 _ rfl
  simp at c0'
  have hbw3 := blk_lt hb3
  have hg3' : g < W3.heap.size := World.block_lt_of_cell? W3 _ d0
  clear c0 c1 z0 z1 a0 a1 y0 y1 hW hba hba2 hg
  have hE := Ext.cells W3
  refine wp_region_ext_tail 21 (by kernel_rfl) (by kernel_rfl) ?_
  simp only [List.take_succ_cons, List.take_zero, List.drop_succ_cons, List.drop_zero]
  repeat go_big_quiet_step ((fail))
  refine wpQuiet_nil ?_
  rintro wd ⟨⟨_, hbd⟩, rfl⟩
  have q1 := cell_then d0 hbd
  have q2 := (hbd.frozen (p := ⟨g, c, none⟩) hg3').trans d1
  clear hE
  go_wp2
  go_end0
  rw [show bi b * 128 = wrap64 (bi b * 2 ^ (8 - 1)) % 256 by cases b <;> decide +kernel, HV.out]
  have hw := Wr.stored hs hb3 ho3 h.lo hbd
  rw [Nat.add_sub_cancel] at hw
  exact bitPost hw ((hg3.trans (Grew.of_below hbd (Nat.le_trans h.lo (Nat.le_of_lt hbw3)))).trans (Grew.own (blk_below (own_at ho3) hbd) hbg))
theorem bit_any (base bw : Nat) (L : List Bool) (b : Bool) (v : Value) (w : World) (h : Wr base w bw L v) (hL : L.length ≤ 1000000000) :
    Calls Try.prog 28 #[.pointer (some ⟨bw, 0, none⟩), .int .i64 (bi b)] w (BitPost base bw w (L ++ [b])) := by
  by_cases hm : L.length % 8 = 0
  · exact bit_new base bw L b v w h hL hm
  · exact bit_in base bw L b v w h hL hm

theorem bit_one (base bw : Nat) (L : List Bool) (v : Value) (w : World) (h : Wr base w bw L v) (hL : L.length ≤ 1000000000) :
    Calls Try.prog 28 #[.pointer (some ⟨bw, 0, none⟩), .int .i64 1] w (BitPost base bw w (L ++ [true])) := bit_any base bw L true v w h hL
theorem bit_zero (base bw : Nat) (L : List Bool) (v : Value) (w : World) (h : Wr base w bw L v) (hL : L.length ≤ 1000000000) :
    Calls Try.prog 28 #[.pointer (some ⟨bw, 0, none⟩), .int .i64 0] w (BitPost base bw w (L ++ [false])) := bit_any base bw L false v w h hL

set_option maxHeartbeats 2000000 in
theorem number_any (base bw : Nat) (n : Int) (k : Nat) (L : List Bool) (v : Value) (w : World) (h : Wr base w bw L v) (hL : L.length + k ≤ 1000000000) (hn : 0 ≤ n ∧ n ≤ 9223372036854775807) (hk : k ≤ 63) :
    Calls Try.prog 13 #[.pointer (some ⟨bw, 0, none⟩), .int .i64 n, .int .i64 k] w (BitPost base bw w (L ++ bitsOf n k)) := by
  have hk' : (k : Int) ≤ 63 := by omega
  go_enter Try.func13, Try.ntmps13
  go_wp2
  go_loopw [6] (fun v6 wr => ∃ (i : Nat) (M : List Bool) (u : Value), v6 = .int .i64 ((i : Int) - 1) ∧ i ≤ k ∧ Wr base wr bw M u ∧ M.length ≤ L.length + k ∧ Hid (M ++ bitsOf n i = L ++ bitsOf n k) ∧ M.length + i = L.length + k ∧ Grew base bw w wr) (fun v6 _ => (intOf v6 + 1).toNat)
  case atStart => exact ⟨k, L, v, rfl, by omega, h, by omega, rfl, rfl, Grew.refl _ _ _⟩
  case round =>
    obtain ⟨i, M, u, rfl, hik, hM, hMl, HB, hML, hG⟩ := hrel
    by_cases hi : 1 ≤ i
    · obtain ⟨j, rfl⟩ : ∃ j, i = j + 1 := ⟨i - 1, by omega⟩
      have e1 : ((j + 1 : Nat) : Int) - 1 = (j : Int) := by omega
      have e2 : (0 : Int) ≤ j := by omega
      have e3 : (j : Int) ≤ 64 := by omega
      have hM2 : M.length ≤ 1000000000 := by omega
      have HA := Lib.hid (and_bit n j)
      have HN := Lib.hid (show (M ++ [decide (n / 2 ^ j % 2 = 1)]) ++ bitsOf n j = L ++ bitsOf n k by rw [← HB.out, List.append_assoc]; rfl)
      clear HB
      rw [e1]
      go_wp2_with (go_at_call 28; rw [HA.out]; (with_reducible refine (bit_any base bw M _ u _ hM hM2).mono ?_); rintro e w1 ⟨rfl, u1, hM1, hG1⟩)
      go_roundw
      case rel => exact ⟨j, _, u1, rfl, by omega, hM1, (by rw [List.length_append, List.length_singleton]; omega), HN, (by rw [List.length_append, List.length_singleton]; omega), hG.trans hG1⟩
      case measure => simp [intOf]
    · obtain rfl : i = 0 := by omega
      have HE := Lib.hid (show M = L ++ bitsOf n k by have := HB.out; rwa [bitsOf, List.append_nil] at this)
      clear HB
      go_wp2
      go_end0
      exact bitPost (HE.out ▸ hM) hG

set_option maxHeartbeats 2000000 in
theorem rice_any (base bw : Nat) (n : Int) (k : Nat) (L : List Bool) (v : Value) (w : World) (h : Wr base w bw L v) (hn : 0 ≤ n ∧ n ≤ 9223372036854775807) (hL : (L.length : Int) + n / 2 ^ k + 1 + k ≤ 1000000000) (hk : k ≤ 15) :
    Calls Try.prog 31 #[.pointer (some ⟨bw, 0, none⟩), .int .i64 n, .int .i64 k] w (BitPost base bw w (L ++ riceBits k n)) := by
  have hk' : (k : Int) ≤ 15 := by omega
  have hq : 0 ≤ n / 2 ^ k := Int.ediv_nonneg hn.1 (Int.le_of_lt (Int.pow_pos (by omega)))
  obtain ⟨q, hqq⟩ : ∃ q : Nat, n / 2 ^ k = (q : Int) := ⟨(n / 2 ^ k).toNat, by omega⟩
  have HQ := Lib.hid hqq
  have HF := Lib.hid (show riceBits k n = List.replicate q true ++ [false] ++ bitsOf n k by unfold riceBits; rw [hqq]; rfl)
  rw [hqq] at hL
  have hqb : (q : Int) ≤ 1000000000 := by omega
  go_enter Try.func31, Try.ntmps31
  go_wp2
  go_loopw [9] (fun v9 wr => ∃ (i : Nat) (u : Value), v9 = .int .i64 (i : Int) ∧ i ≤ q ∧ Wr base wr bw (L ++ List.replicate i true) u ∧ Grew base bw w wr) (fun v9 _ => q - (intOf v9).toNat)
  case atStart => exact ⟨0, v, rfl, by omega, by simpa using h, Grew.refl _ _ _⟩
  case round =>
    obtain ⟨i, u, rfl, hiq, hM, hG⟩ := hrel
    have hM2 : (L ++ List.replicate i true).length ≤ 1000000000 := by simp; omega
    by_cases hi : i < q
    · have hi' : (i : Int) < q := by omega
      have HN := Lib.hid (show (L ++ List.replicate i true) ++ [true] = L ++ List.replicate (i + 1) true by rw [List.append_assoc, List.replicate_succ'])
      go_wp2_with (go_at_call 28; (with_reducible refine (bit_one base bw _ u _ hM hM2).mono ?_); rintro e w1 ⟨rfl, u1, hM1, hG1⟩)
      go_roundw
      case rel => exact ⟨i + 1, u1, by go_num, by omega, HN.out ▸ hM1, hG.trans hG1⟩
      case measure => simp [intOf]; omega
    · obtain rfl : i = q := by omega
      have hM3 : (L ++ List.replicate i true ++ [false]).length + k ≤ 1000000000 := by simp; omega
      have HE := Lib.hid (show L ++ List.replicate i true ++ [false] ++ bitsOf n k = L ++ riceBits k n by rw [HF.out]; simp [List.append_assoc])
      go_wp2_with (first
        | (go_at_call 28; (with_reducible refine (bit_zero base bw _ u _ hM hM2).mono ?_); rintro e w1 ⟨rfl, u1, hM1, hG1⟩)
        | (go_at_call 13; (with_reducible refine (number_any base bw n k _ u1 _ hM1 hM3 hn (by omega)).mono ?_); rintro e w2 ⟨rfl, u2, hM4, hG2⟩))
      go_end0
      exact bitPost (HE.out ▸ hM4) ((hG.trans hG1).trans hG2)
end Go.Proofs.Ytfoiadlaekknpaa.Co
