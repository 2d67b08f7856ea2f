/-
  THE WALK of codec.Encode.
-/
import Derived.Test.YtfoiadlaekknpaaFrameW
namespace Go.Proofs.Ytfoiadlaekknpaa.Co
open Go.RowKit

def EncPost (w : World) (l : List Int) (e : Ending) (w' : World) : Prop := e = .returned (.tuple #[.string (enc l).1, .int .i64 (enc l).2]) ∧ Below w.heap.size w w'
theorem encPost {w w' : World} {l : List Int} {s : ByteArray} {c : Int} (h : enc l = (s, c)) (hb : Below w.heap.size w w') : EncPost w l (.returned (.tuple #[.string s, .int .i64 c])) w' := ⟨by rw [h], hb⟩

set_option maxHeartbeats 1000000 in
theorem encode_many (p : Option Addr) (l : List Int) (cap : Nat) (w : World) (h : 1048576 < l.length) (hl : l.length ≤ 9223372036854775807) :
    Calls Try.prog 7 #[.slice p l.length cap] w (EncPost w l) := by
  have HV := Lib.hid (show enc l = (⟨#[]⟩, 5) by unfold enc; rw [if_pos h])
  have h' : (1048576 : Int) < l.length := by omega
  go_enter Try.func7, Try.ntmps7
  go_wp2
  go_ret2
  exact encPost HV.out (Below.refl _ _)

set_option maxHeartbeats 4000000 in
theorem encode_bad (p : Option Addr) (l : List Int) (cap : Nat) (w : World) (h : l.length ≤ 1048576) (hc : Cells w p l) (hs : ¬ Small l) :
    Calls Try.prog 7 #[.slice p l.length cap] w (EncPost w l) := by
  have HV := Lib.hid (show enc l = (⟨#[]⟩, 3) by unfold enc; rw [if_neg (by omega), if_neg (by rw [smallB_iff]; exact hs)])
  have h' : ¬ (1048576 : Int) < l.length := by omega
  have HS := Lib.hid hs
  clear hs
  go_enter Try.func7, Try.ntmps7
  go_wp2
  go_loop [13] (fun v13 => ∃ k : Nat, v13 = .int .i64 k ∧ k ≤ l.length ∧ Hid (∀ i, i < k → -32768 ≤ X l i ∧ X l i ≤ 32767)) (fun v13 => l.length - (intOf v13).toNat)
  case atStart => exact ⟨0, rfl, by omega, fun i hi => absurd hi (by omega)⟩
  case round =>
    obtain ⟨k, rfl, hk, HK⟩ := hrel
    by_cases hkt : k < l.length
    · obtain ⟨b, o, rfl, hcell⟩ := hc (by omega)
      have c1 := hcell k hkt
      have e1 : (k : Int) < l.length := by omega
      clear hcell
      by_cases q : X l k < -32768
      · go_wp2
        go_ret2
        exact encPost HV.out (Below.refl _ _)
      · by_cases q2 : 32767 < X l k
        · go_wp2
          go_ret2
          exact encPost HV.out (Below.refl _ _)
        · have HN := Lib.hid (show ∀ i, i < k + 1 → -32768 ≤ X l i ∧ X l i ≤ 32767 from fun i hi => by
            by_cases hik : i = k
            · subst hik; omega
            · exact HK.out i (by omega))
          clear HK
          go_wp2
          go_round
          case rel => exact ⟨k + 1, by go_num, by omega, HN⟩
          case measure => simp [intOf]; omega
    · exact absurd (small_X.2 fun i hi => HK.out i (by omega)) HS.out

theorem wr_new {w : World} {t : TypeId} (ht : t = 36) : Wr w.heap.size (w.alloc (.cells #[.slice none 0 0, .int .i64 0] t)) w.heap.size [] (.slice none 0 0) := by
  subst ht
  exact ⟨by show (w.heap.push _)[w.heap.size]? = _; simp [nb], World.ownsRow_nil _ _ _ _, Nat.le_refl _⟩
theorem low_frame {base : Nat} {w : World} {p : Option Addr} {l : List Int} {b o : Nat} (h : Low base w p l) (hp : p = some ⟨b, o, none⟩) {t : Nat} (ht : 256 * t < l.length) : Low base w (some ⟨b, o + 256 * t, none⟩) (fr l t) := by
  obtain ⟨b', o', hp', hc⟩ := h.cells (by omega)
  rw [hp] at hp'
  simp only [Option.some.injEq, Addr.mk.injEq, and_true] at hp'
  obtain ⟨rfl, rfl⟩ := hp'
  refine ⟨fun _ => ⟨b, o + 256 * t, rfl, fun i hi => ?_⟩, fun a ha _ => ?_⟩
  · have := fr_length l t
    rw [X_fr hi, Nat.add_assoc]
    exact hc (256 * t + i) (by omega)
  · simp only [Option.some.injEq] at ha
    subst ha
    exact (show b < base from h.low _ hp (by omega))

theorem frame_as (base bw : Nat) (p : Option Addr) (l : List Int) (N cap : Nat) (hN : l.length = N) (L : List Bool) (v : Value) (w : World) (h : Wr base w bw L v) (hc : Low base w p l) (hl : l.length ≤ 256) (hs : Small l) (hL : L.length ≤ 500000000) (hbase : base ≤ w.heap.size) :
    Calls Try.prog 14 #[.pointer (some ⟨bw, 0, none⟩), .slice p N cap] w (BitPost base bw w (L ++ bestBits l)) := hN ▸ frame_any base bw p l cap L v w h hc hl hs hL hbase
theorem own_bytes {w : World} {base g c cap : Nat} {L : List Bool} (h : w.ownsRow base 5 1 (.slice (some ⟨g, 0, none⟩) c cap) c (rowsOf (byteV L) c)) (hc : c = nb L) :
    ∀ i, i < c → w.cell? ⟨g, 0 + i, none⟩ = some (.int .u8 ((packN L).getD i 0)) := fun i hi => by
  rw [Nat.zero_add, h.cellAt i (by omega)]
  have := rowsOf_get (byteV_len L) (c := c) (i := i) (j := 0) hi (by omega)
  rw [Nat.mul_one, Nat.add_zero] at this
  rw [this]
  unfold packN byteV
  rw [List.getD_eq_getElem?_getD, List.getElem?_map, List.getElem?_range (by omega)]
  rfl

set_option maxHeartbeats 8000000 in
theorem encode_ok (p : Option Addr) (l : List Int) (cap : Nat) (w : World) (h : l.length ≤ 1048576) (hcap : l.length ≤ cap) (hcm : cap ≤ 9223372036854775807) (hc : Low w.heap.size w p l) (hs : Small l) :
    Calls Try.prog 7 #[.slice p l.length cap] w (EncPost w l) := by
  have HV := Lib.hid (show enc l = (packS (encBits l), 0) by unfold enc; rw [if_neg (by omega), if_pos (smallB_iff.2 hs)])
  have h' : ¬ (1048576 : Int) < l.length := by omega
  have HS := Lib.hid hs
  clear hs
  go_enter Try.func7, Try.ntmps7
  go_wp2
  go_loop [13] (fun v13 => ∃ k : Nat, v13 = .int .i64 k ∧ k ≤ l.length) (fun v13 => l.length - (intOf v13).toNat)
  case atStart => exact ⟨0, rfl, by omega⟩
  case round =>
    obtain ⟨k, rfl, hk⟩ := hrel
    by_cases hkt : k < l.length
    · obtain ⟨b, o, rfl, hcell⟩ := hc.cells (by omega)
      have c1 := hcell k hkt
      have e1 : (k : Int) < l.length := by omega
      have x1 := X_bd HS.out k
      clear hcell
      go_wp2
      go_round
      case rel => exact ⟨k + 1, by go_num, by omega⟩
      case measure => simp [intOf]; omega
    · have e1 : ¬ (k : Int) < l.length := by omega
      go_wp2_with (go_at_call 13; (with_reducible refine (number_as w.heap.size w.heap.size (l.length : Int) 24 24 rfl [] (.slice none 0 0) _ (wr_new rfl) (by simp) (by omega) (by omega)).mono ?_); rintro e w1 ⟨rfl, u1, hM1, hG1⟩)
      have hGw : Grew w.heap.size w.heap.size w w1 := (Grew.of_below (below_new (Below.refl _ _) _) (Nat.le_refl _)).trans hG1
      clear hG1
      go_loopw [7] (fun v7 wr => ∃ (t : Nat) (u : Value), v7 = .int .i64 ((256 * t : Nat) : Int) ∧ 256 * t ≤ l.length + 255 ∧ Wr w.heap.size wr w.heap.size (bitsOf l.length 24 ++ encTo l t) u ∧ Grew w.heap.size w.heap.size w wr) (fun v7 _ => l.length + 256 - (intOf v7).toNat)
      case atStart => exact ⟨0, u1, rfl, by omega, by simpa [encTo] using hM1, hGw⟩
      case round =>
        obtain ⟨t, u, rfl, ht, hM, hG⟩ := hrel
        have hlen : (bitsOf l.length 24 ++ encTo l t).length ≤ 100000000 := by
          have := encTo_le HS.out t
          rw [List.length_append, bitsOf_length]; omega
        by_cases htl : 256 * t < l.length
        · obtain ⟨b, o, rfl, hcell⟩ := hc.cells (by omega)
          clear hcell
          have e2 : ((256 * t : Nat) : Int) < l.length := by omega
          have e3 : 256 * (t : Int) < l.length := by omega
          have hlf := low_frame (hc.below hG.below) rfl htl
          have hfl := fr_length l t
          have HN := Lib.hid (show bitsOf l.length 24 ++ encTo l t ++ bestBits (fr l t) = bitsOf l.length 24 ++ encTo l (t + 1) by rw [encTo, List.append_assoc])
          have hbs : w.heap.size ≤ wr.heap.size := hG.size
          by_cases hm : 256 * t + 256 ≤ l.length
          · have f1 : (256 : Int) * t + 256 ≤ l.length := by omega
            go_wp2_with (go_at_call 14; (with_reducible refine (frame_as w.heap.size w.heap.size _ (fr l t) 256 _ (by omega) _ u _ hM hlf (by omega) (HS.out.frame t) (by omega) hbs).mono ?_); rintro e w2 ⟨rfl, u2, hM2, hG2⟩)
            go_roundw
            case rel => exact ⟨t + 1, u2, (by congr 1 <;> omega), by omega, HN.out ▸ hM2, hG.trans hG2⟩
            case measure => simp [intOf]; omega
          · have f1 : ¬ (256 : Int) * t + 256 ≤ l.length := by omega
            go_wp2_with (go_at_call 14; (with_reducible refine (frame_as w.heap.size w.heap.size _ (fr l t) (l.length - 256 * t) _ (by omega) _ u _ hM hlf (by omega) (HS.out.frame t) (by omega) hbs).mono ?_); rintro e w2 ⟨rfl, u2, hM2, hG2⟩)
            go_roundw
            case rel => exact ⟨t + 1, u2, (by congr 1 <;> omega), by omega, HN.out ▸ hM2, hG.trans hG2⟩
            case measure => simp [intOf]; omega
        · have e2 : ¬ 256 * (t : Int) < l.length := by omega
          have HT := Lib.hid (show bitsOf l.length 24 ++ encTo l t = encBits l by unfold encBits; rw [show (l.length + 255) / 256 = t by omega])
          have hnb : 0 < nb (bitsOf l.length 24 ++ encTo l t) := by unfold nb; rw [List.length_append, bitsOf_length]; omega
          have hown := hM.own
          have hblk := hM.blk
          obtain ⟨g, capg, cur, rfl, _, _⟩ := own_slice hown hnb
          have c0 := blk_cell hblk 0 _ rfl
          rw [HT.out] at hown c0
          have kc := run_convert_bytes_arg (P := Try.prog) wr 34 5 Try.underlying34 Try.underlying5 g 0 (nb (encBits l)) capg (packN (encBits l)) (by unfold packN; simp) (own_bytes hown rfl) 9 Try.underlying9
          clear hblk hown hM
          go_wp2
          go_ret2
          exact encPost HV.out hG.below
theorem encode_any (p : Option Addr) (l : List Int) (cap : Nat) (w : World) (hcap : l.length ≤ cap) (hcm : cap ≤ 9223372036854775807) (hc : Cells w p l) :
    Calls Try.prog 7 #[.slice p l.length cap] w (EncPost w l) := by
  by_cases h : 1048576 < l.length
  · exact encode_many p l cap w h (by omega)
  · by_cases hs : Small l
    · exact encode_ok p l cap w (by omega) hcap hcm ⟨hc, fun a ha hn => by
        obtain ⟨b, o, hp, hcell⟩ := hc hn
        rw [ha] at hp
        simp only [Option.some.injEq] at hp
        subst hp
        exact World.block_lt_of_cell? w _ (hcell 0 hn)⟩ hs
    · exact encode_bad p l cap w (by omega) hc hs
end Go.Proofs.Ytfoiadlaekknpaa.Co
