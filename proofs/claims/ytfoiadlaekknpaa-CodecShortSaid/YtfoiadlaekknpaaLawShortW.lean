/-
  THE WALK of the law CodecShort.
-/
import Derived.Test.YtfoiadlaekknpaaRefLongW
namespace Go.Proofs.Ytfoiadlaekknpaa.Co
open Go.RowKit

theorem encode_as (p : Option Addr) (l : List Int) (N cap : Nat) (hN : l.length = N) (w : World) (hcap : l.length ≤ cap) (hcm : cap ≤ 9223372036854775807) (hc : Cells w p l) {s : ByteArray} {c : Int} (k : enc l = (s, c)) :
    Calls Try.prog 7 #[.slice p N cap] w fun e w' => e = .returned (.tuple #[.string s, .int .i64 c]) ∧ Below w.heap.size w w' := by
  subst hN
  have := encode_any p l cap w hcap hcm hc
  unfold EncPost at this
  rw [k] at this
  exact this
theorem enc_nil : enc [] = (packS (encBits []), 0) := by unfold enc; rw [if_neg (by simp), if_pos (by rfl)]
theorem nil_size : (packS (encBits [])).size = 3 := by rw [packS_size]; rfl

set_option maxHeartbeats 1000000 in
theorem alive_any (w : World) : Calls Try.prog 6 #[] w fun e w' => e = .returned (.bool true) ∧ Below w.heap.size w w' := by
  obtain ⟨s, hs⟩ : ∃ s, packS (encBits []) = s := ⟨_, rfl⟩
  have H := Lib.hid (show enc [] = (s, 0) by rw [enc_nil, hs])
  have hz : s.size = 3 := by rw [← hs]; exact nil_size
  have hcn : ∀ w, Cells w none [] := fun w h => absurd h (by simp)
  have hn : ([] : List Int).length = 0 := rfl
  have hn1 : ([] : List Int).length ≤ 0 := by simp
  have hn2 : (0 : Nat) ≤ 9223372036854775807 := by omega
  have HN := Lib.hid hn
  clear hs hn
  go_enter Try.func6, Try.ntmps6
  go_wp2_with (go_at_call 7; (with_reducible refine (encode_as none [] 0 0 HN.out _ hn1 hn2 (hcn _) H.out).mono ?_); rintro e w1 ⟨rfl, hb1⟩)
  go_ret
  exact ⟨rfl, hb1⟩

/-- What frames take by one order and key. -/
def sumLong (l : List Int) (o k : Nat) : Nat → Int
  | 0 => 0
  | t + 1 => sumLong l o k t + (6 + long (fr l t) o k)
theorem sumLong_ge {l : List Int} (h : Small l) {o k : Nat} (ho : o ≤ 3) (hk : k ≤ 15) : ∀ t, ((encTo l t).length : Int) ≤ sumLong l o k t
  | 0 => by simp [encTo, sumLong]
  | t + 1 => by
    have := sumLong_ge h ho hk t
    have h1 := bestBits_length (h.frame t)
    have h2 := best_le (h.frame t) ho hk
    rw [encTo, List.length_append, sumLong, Int.natCast_add]
    omega
theorem enc_ok {l : List Int} {s : ByteArray} (k : enc l = (s, 0)) : l.length ≤ 1048576 ∧ Small l ∧ s = packS (encBits l) := by
  unfold enc at k
  split at k
  · simp at k
  · split at k
    · rename_i h1 h2
      simp only [Prod.mk.injEq, and_true] at k
      exact ⟨by omega, smallB_iff.1 h2, k.symm⟩
    · simp at k
theorem cells_frame {w : World} {l : List Int} {b o : Nat} (h : Cells w (some ⟨b, o, none⟩) l) {t : Nat} (ht : 256 * t < l.length) : Cells w (some ⟨b, o + 256 * t, none⟩) (fr l t) := fun _ => by
  obtain ⟨b', o', hp', hc⟩ := h (by omega)
  simp only [Option.some.injEq, Addr.mk.injEq, and_true] at hp'
  obtain ⟨rfl, rfl⟩ := hp'
  refine ⟨b, o + 256 * t, rfl, fun i hi => ?_⟩
  have := fr_length l t
  rw [X_fr hi, Nat.add_assoc]
  exact hc (256 * t + i) (by omega)
theorem long_as (p : Option Addr) (l : List Int) (N cap o k : Nat) (hN : l.length = N) (w : World) (h : Cells w p l) (hl : l.length ≤ 256) (ho3 : o ≤ 3) (hk15 : k ≤ 15) (hs : Small l) :
    Calls Try.prog 8 #[.slice p N cap, .int .i64 o, .int .i64 k] w fun e w' => e = .returned (.int .i64 (6 + long l o k)) ∧ Below w.heap.size w w' := hN ▸ ref_long_any p l cap o k w h hl ho3 hk15 hs

set_option maxHeartbeats 2000000 in
theorem short_bad (p : Option Addr) (l : List Int) (cap : Nat) (o k : Int) (w : World) (hcap : l.length ≤ cap) (hcm : cap ≤ 9223372036854775807) (hc : Cells w p l) {s : ByteArray} {c : Int} (H : Hid (enc l = (s, c)))
    (q : (c != 0) = true ∨ (c != 0) = false ∧ o < 0 ∨ (c != 0) = false ∧ ¬ o < 0 ∧ 3 < o ∨ (c != 0) = false ∧ ¬ o < 0 ∧ ¬ 3 < o ∧ k < 0 ∨ (c != 0) = false ∧ ¬ o < 0 ∧ ¬ 3 < o ∧ ¬ k < 0 ∧ 15 < k) :
    Calls Try.prog 3 #[.slice p l.length cap, .int .i64 o, .int .i64 k] w fun e w' => e = .returned (.bool true) ∧ Below w.heap.size w w' := by
  rcases q with q | ⟨q, q1⟩ | ⟨q, q1, q2⟩ | ⟨q, q1, q2, q3⟩ | ⟨q, q1, q2, q3, q4⟩
  all_goals
    go_enter Try.func3, Try.ntmps3
    go_wp2_with (first
      | (go_at_call 6; (with_reducible refine (alive_any _).mono ?_); rintro e w1 ⟨rfl, hb1⟩; have hc1 := hc.below hb1)
      | (go_at_call 7; (with_reducible refine (encode_as p l _ cap rfl _ hcap hcm hc1 H.out).mono ?_); rintro e w2 ⟨rfl, hb2⟩))
    go_ret
    exact ⟨rfl, below_then hb2 hb1⟩

set_option maxHeartbeats 4000000 in
theorem short_good (p : Option Addr) (l : List Int) (cap o k : Nat) (w : World) (hcap : l.length ≤ cap) (hcm : cap ≤ 9223372036854775807) (hc : Cells w p l) (ho3 : o ≤ 3) (hk15 : k ≤ 15) {s : ByteArray} (H : Hid (enc l = (s, 0))) :
    Calls Try.prog 3 #[.slice p l.length cap, .int .i64 o, .int .i64 k] w fun e w' => e = .returned (.bool true) ∧ Below w.heap.size w w' := by
  obtain ⟨hl, hsm, hse⟩ := enc_ok H.out
  have HS := Lib.hid hsm
  have HE := Lib.hid (show s.size = nb (encBits l) by rw [hse, packS_size])
  have hsz : s.size ≤ 1000000000 := by
    rw [HE.out]; unfold nb encBits
    have := encTo_le hsm ((l.length + 255) / 256)
    rw [List.length_append, bitsOf_length]; omega
  have ho' : (o : Int) ≤ 3 := by omega
  have hk' : (k : Int) ≤ 15 := by omega
  clear hse hsm
  go_enter Try.func3, Try.ntmps3
  go_wp2_with (first
    | (go_at_call 6; (with_reducible refine (alive_any _).mono ?_); rintro e w1 ⟨rfl, hb1⟩; have hc1 := hc.below hb1)
    | (go_at_call 7; (with_reducible refine (encode_as p l _ cap rfl _ hcap hcm hc1 H.out).mono ?_); rintro e w2 ⟨rfl, hb2⟩))
  have hc2 := hc1.below hb2
  have hB2 : Below w.heap.size w w2 := below_then hb2 hb1
  clear hc1 hb1 hb2
  go_loopw [9, 10] (fun v9 v10 wr => ∃ (t : Nat) (n : Int), v9 = .int .i64 n ∧ v10 = .int .i64 ((256 * t : Nat) : Int) ∧ 256 * t ≤ l.length + 255 ∧ 0 ≤ n ∧ n ≤ 24 + 200000000 * t ∧ Hid (n = 24 + sumLong l o k t) ∧ Below w2.heap.size w2 wr) (fun _ v10 _ => l.length + 256 - (intOf v10).toNat)
  case atStart => exact ⟨0, 24, rfl, rfl, by omega, by omega, by omega, rfl, Below.refl _ _⟩
  case round =>
    obtain ⟨t, n, rfl, rfl, ht, hn0, hn1, HN, hbr⟩ := hrel
    by_cases htl : 256 * t < l.length
    · obtain ⟨b, off, rfl, _⟩ := hc2 (by omega)
      have hcf := (cells_frame hc2 htl).below hbr
      have hfl := fr_length l t
      have hlb := long_bd (HS.out.frame t) o hk15
      have e2 : 256 * (t : Int) < l.length := by omega
      have HM := Lib.hid (show n + (6 + long (fr l t) o k) = 24 + sumLong l o k (t + 1) by rw [HN.out, sumLong]; omega)
      have hlb1 : 0 ≤ 6 + long (fr l t) o k := by omega
      have hlb2 : 6 + long (fr l t) o k ≤ 200000000 := by omega
      clear HN hlb
      by_cases hm : 256 < l.length - 256 * t
      · have f1 : (256 : Int) < ((l.length - 256 * t : Nat) : Int) := by omega
        have f2 : (256 : Nat) ≤ cap - 256 * t := by omega
        go_wp2_with (go_at_call 8; (with_reducible refine (long_as _ (fr l t) 256 _ o k (by omega) _ hcf (by omega) ho3 hk15 (HS.out.frame t)).mono ?_); rintro e w3 ⟨rfl, hb3⟩)
        go_roundw
        case rel => exact ⟨t + 1, _, rfl, (by congr 1 <;> omega), by omega, by omega, by omega, HM, below_then hb3 hbr⟩
        case measure => simp [intOf]; omega
      · have f1 : ¬ (256 : Int) < ((l.length - 256 * t : Nat) : Int) := by omega
        go_wp2_with (go_at_call 8; (with_reducible refine (long_as _ (fr l t) (l.length - 256 * t) _ o k (by omega) _ hcf (by omega) ho3 hk15 (HS.out.frame t)).mono ?_); rintro e w3 ⟨rfl, hb3⟩)
        go_roundw
        case rel => exact ⟨t + 1, _, rfl, (by congr 1 <;> omega), by omega, by omega, by omega, HM, below_then hb3 hbr⟩
        case measure => simp [intOf]; omega
    · have e2 : ¬ 256 * (t : Int) < l.length := by omega
      have hT : (s.size : Int) ≤ (n + 7) / 8 := by
        have h1 := sumLong_ge HS.out ho3 hk15 t
        rw [HE.out, HN.out]
        unfold nb encBits
        rw [show (l.length + 255) / 256 = t by omega, List.length_append, bitsOf_length]
        omega
      clear HN
      go_wp2
      go_ret
      exact ⟨ret_bool (by simp [hT]), below_then hbr hB2⟩

theorem law_short (p : Option Addr) (l : List Int) (cap : Nat) (o k : Int) (w : World) (hcap : l.length ≤ cap) (hcm : cap ≤ 9223372036854775807) (hc : Cells w p l) :
    Calls Try.prog 3 #[.slice p l.length cap, .int .i64 o, .int .i64 k] w fun e w' => e = .returned (.bool true) ∧ Below w.heap.size w w' := by
  obtain ⟨s, c, H⟩ : ∃ s c, enc l = (s, c) := ⟨_, _, rfl⟩
  by_cases z : c = 0
  · subst z
    by_cases q : o < 0 ∨ 3 < o ∨ k < 0 ∨ 15 < k
    · refine short_bad p l cap o k w hcap hcm hc H ?_
      have : (((0 : Int) != 0) = false) := rfl
      by_cases q1 : o < 0
      · exact .inr (.inl ⟨rfl, q1⟩)
      · by_cases q2 : 3 < o
        · exact .inr (.inr (.inl ⟨rfl, q1, q2⟩))
        · by_cases q3 : k < 0
          · exact .inr (.inr (.inr (.inl ⟨rfl, q1, q2, q3⟩)))
          · exact .inr (.inr (.inr (.inr ⟨rfl, q1, q2, q3, by omega⟩)))
    · obtain ⟨o, rfl⟩ : ∃ o' : Nat, o = o' := ⟨o.toNat, by omega⟩
      obtain ⟨k, rfl⟩ : ∃ k' : Nat, k = k' := ⟨k.toNat, by omega⟩
      exact short_good p l cap o k w hcap hcm hc (by omega) (by omega) H
  · exact short_bad p l cap o k w hcap hcm hc H (.inl (by simpa using z))
end Go.Proofs.Ytfoiadlaekknpaa.Co
