/-
  THE DOCUMENT's TEXTS: digits, pitches printed: walks. (Printed by wip/pm.) | THE DOCUMENT's TEXTS: numbers, intervals written: walks. (Printed by wip/pm.)
-/
import Derived.Test.YtlngkiipgkociaaGreatDoorJLawPTexts3
import Derived.Test.YtlngkiipgkociaaGreatDoorJLawPTexts4
namespace Go.Proofs.YtlngkiipgkociaaGreatDoor.Pm
open Go Go.Proofs.YtlngkiipgkociaaGreatDoor.Pi

theorem ref_abs_pc (n : Int) (h1 : -9223372036854775808 < n) (h2 : n ≤ 9223372036854775807) : PC Tryz.prog 33 [iv n] [] (iv (n.natAbs : Int)) [] :=
  pc_flat (fn_ok Tryz.func33 (by kernel_rfl) (by kernel_rfl)) rfl rfl fun w => (abs_any n w h1 h2).mono fun _ w' ⟨e1, e2⟩ => ⟨e1, e2 ▸ RowKit.Below.refl _ _⟩
theorem white_pc (n : Int) (h0 : -1000 ≤ n) (h1 : n ≤ 1000) : PC Tryz.prog 23 [iv n] [] (iv (white n)) [] :=
  pc_flat (fn_ok Tryz.func23 (by kernel_rfl) (by kernel_rfl)) rfl rfl fun w => (white_any n w h0 h1).mono fun _ w' ⟨e1, e2⟩ => ⟨e1, e2 ▸ RowKit.Below.refl _ _⟩
set_option maxRecDepth 100000 in
set_option maxHeartbeats 4000000 in
theorem digits_step (n : Int) (h0 : -9223372036854775807 ≤ n) (h1 : n ≤ 9223372036854775807) (ih : ∀ m : Int, 0 ≤ m → m ≤ 9223372036854775807 → (n < 0 ∨ m < n) → PC Tryz.prog 16 [iv m] [] (sv (st (Lib.itoa m))) []) : PC Tryz.prog 16 [(iv n)] [] (sv (st (Lib.itoa n))) [] := by
  refine pc_intro Tryz.func16 rfl (by kernel_rfl) (Nat.le_of_ble_eq_true rfl) (by kernel_rfl) (l0 := [ps 0 (iv n)]) rfl (fun c0 Bor hc0 => ?_)
  refine T_seq ?_
  refine T_r mixed [] [ps 0 (iv n)] (obs_nil) ?_
  refine T_seq <| T_seq ?_
  refine T_r mixed [] [ps 0 (iv n), ps 4 (bv (decide (n < 0)))] (obs_nil) ?_
  by_cases h1 : n < 0
  · refine T_th (decide_eq_true h1) ?_
    refine T_seq ?_
    have hl1 := Lib.itoa_length_le (0 - n) (by omega) (by omega)
    refine T_r mixed [(2, .call [] [(iv (0 - n))] [] (sv (st (Lib.itoa (0 - n)))) []), (3, .val (.av (.string (st (([45] : List UInt8) ++ (Lib.itoa (0 - n)))))))] [ps 2 (sv (st (([45] : List UInt8) ++ (Lib.itoa (0 - n)))))] (obs_cons (by simp only [InK]; omega : InK .i64 (0 - n)) (obs_cons (ih (0 - n) (by omega) (by omega) (.inl (by omega))) (obs_cons (rfl : Ren0 40 [(iv (0 - n))]) (obs_cons (by first | omega | (simp only [List.length_append, List.length_cons, List.length_nil]; omega) : ((([45] : List UInt8).length + (Lib.itoa (0 - n)).length : Nat) : Int) ≤ 9223372036854775807) (obs_cons (st_app _ _ : st ([45] : List UInt8) ++ st (Lib.itoa (0 - n)) = st (([45] : List UInt8) ++ (Lib.itoa (0 - n)))) obs_nil))))) ?_
    rw [← itoa_min h1]
    exact T_ret fun cx_ a_ hI_ => rt hc0 [ps 2 (sv (st (([45] : List UInt8) ++ (Lib.itoa (0 - n)))))] [] hI_
  refine T_el (decide_eq_false h1) ?_
  refine T_skip <| T_seq <| T_seq ?_
  refine T_r mixed [] [ps 0 (iv n), ps 10 (bv (decide (n < 10)))] (obs_nil) ?_
  by_cases h2 : n < 10
  · refine T_th (decide_eq_true h2) ?_
    refine T_seq ?_
    refine T_r mixed [(4, .val (.av (.string (st [UInt8.ofNat (48 + n).toNat]))))] [ps 2 (sv (st [UInt8.ofNat (48 + n).toNat]))] (obs_cons (by simp only [InK]; omega : InK .i64 (48 + n)) (obs_cons (by simp only [InK]; omega : InK .u8 (48 + n)) (obs_cons (⟨Nat.le_refl 1, Nat.le_refl 1, bytes_one (by omega) (by omega)⟩ : 0 < 1 ∧ 0 + 1 ≤ ([(.av (.int .u8 (48 + n)))] : List PV).length ∧ (([(.av (.int .u8 (48 + n)))] : List PV).drop 0).take 1 = bytesPV (st [UInt8.ofNat (48 + n).toNat])) obs_nil))) ?_
    rw [itoa_dig (by omega) h2]
    exact T_ret fun cx_ a_ hI_ => rt hc0 [ps 2 (sv (st [UInt8.ofNat (48 + n).toNat]))] [] hI_
  refine T_el (decide_eq_false h2) ?_
  refine T_skip <| T_seq ?_
  have hq := quo_bd h2
  have hl1 := Lib.itoa_length_le (n.tdiv 10) (by omega) (by omega)
  have hl2 := Lib.itoa_length_le (n.tmod 10) (by omega) (by omega)
  refine T_r mixed [(2, .call [] [(iv ((n).tdiv 10))] [] (sv (st (Lib.itoa ((n).tdiv 10)))) []), (5, .call [] [(iv ((n).tmod 10))] [] (sv (st (Lib.itoa ((n).tmod 10)))) []), (6, .val (.av (.string (st ((Lib.itoa ((n).tdiv 10)) ++ (Lib.itoa ((n).tmod 10)))))))] [ps 2 (sv (st ((Lib.itoa ((n).tdiv 10)) ++ (Lib.itoa ((n).tmod 10)))))] (obs_cons (by decide : 10 ≠ (0 : Int)) (obs_cons (by simp only [InK]; omega : InK .i64 ((n).tdiv 10)) (obs_cons (ih ((n).tdiv 10) (by omega) (by omega) (.inr (by omega))) (obs_cons (rfl : Ren0 56 [(iv ((n).tdiv 10))]) (obs_cons (by decide : 10 ≠ (0 : Int)) (obs_cons (ih ((n).tmod 10) (by omega) (by omega) (.inr (by omega))) (obs_cons (rfl : Ren0 80 [(iv ((n).tmod 10))]) (obs_cons (by first | omega | (simp only [List.length_append, List.length_cons, List.length_nil]; omega) : (((Lib.itoa ((n).tdiv 10)).length + (Lib.itoa ((n).tmod 10)).length : Nat) : Int) ≤ 9223372036854775807) (obs_cons (st_app _ _ : st (Lib.itoa ((n).tdiv 10)) ++ st (Lib.itoa ((n).tmod 10)) = st ((Lib.itoa ((n).tdiv 10)) ++ (Lib.itoa ((n).tmod 10)))) obs_nil))))))))) ?_
  rw [← itoa_app h2]
  exact T_ret fun cx_ a_ hI_ => rt hc0 [ps 2 (sv (st ((Lib.itoa ((n).tdiv 10)) ++ (Lib.itoa ((n).tmod 10)))))] [] hI_
theorem digits_nat : ∀ (u : Nat), ∀ n : Int, 0 ≤ n → n ≤ 9223372036854775807 → n.toNat < u → PC Tryz.prog 16 [iv n] [] (sv (st (Lib.itoa n))) []
  | 0, n, _, _, h => by omega
  | u + 1, n, h0, h1, h => digits_step n (by omega) h1 fun m a b c => digits_nat u m a b (by omega)
theorem digits_pc (n : Int) (h0 : -9223372036854775807 ≤ n) (h1 : n ≤ 9223372036854775807) : PC Tryz.prog 16 [iv n] [] (sv (st (Lib.itoa n))) [] :=
  digits_step n h0 h1 fun m a b _ => digits_nat (m.toNat + 1) m a b (by omega)
set_option maxRecDepth 100000 in
set_option maxHeartbeats 4000000 in
theorem letter_pc (k : Nat) (hk : k < 7) : PC Tryz.prog 15 [(nv k)] [] (sv (st ((letB.drop k).take 1))) [] := by
  refine pc_intro Tryz.func15 rfl (by kernel_rfl) (Nat.le_of_ble_eq_true rfl) (by kernel_rfl) (l0 := [ps 0 (nv k)]) rfl (fun c0 Bor hc0 => ?_)
  refine T_seq ?_
  refine T_r mixed [] [ps 0 (nv k)] (obs_nil) ?_
  refine T_seq ?_
  by_cases h1 : k = 0
  · refine T_r mixed [(2, .nat 0)] [ps 2 (sv (st ([67] : List UInt8)))] (obs_cons (by omega : (0 : Int) ≤ ((k : Nat) : Int) ∧ ((k : Nat) : Int) < ((7 : Nat) : Int)) (obs_cons (by omega : 0 + (((k : Nat) : Int) : Int).toNat * 1 = 0) obs_nil)) ?_
    rw [show (letB.drop k).take 1 = _ from congrArg (fun z => (letB.drop z).take 1) h1]
    exact T_ret fun cx_ a_ hI_ => rt hc0 [ps 2 (sv (st ([67] : List UInt8)))] [] hI_
  by_cases h2 : k = 1
  · refine T_r mixed [(2, .nat 1)] [ps 2 (sv (st ([68] : List UInt8)))] (obs_cons (by omega : (0 : Int) ≤ ((k : Nat) : Int) ∧ ((k : Nat) : Int) < ((7 : Nat) : Int)) (obs_cons (by omega : 0 + (((k : Nat) : Int) : Int).toNat * 1 = 1) obs_nil)) ?_
    rw [show (letB.drop k).take 1 = _ from congrArg (fun z => (letB.drop z).take 1) h2]
    exact T_ret fun cx_ a_ hI_ => rt hc0 [ps 2 (sv (st ([68] : List UInt8)))] [] hI_
  by_cases h3 : k = 2
  · refine T_r mixed [(2, .nat 2)] [ps 2 (sv (st ([69] : List UInt8)))] (obs_cons (by omega : (0 : Int) ≤ ((k : Nat) : Int) ∧ ((k : Nat) : Int) < ((7 : Nat) : Int)) (obs_cons (by omega : 0 + (((k : Nat) : Int) : Int).toNat * 1 = 2) obs_nil)) ?_
    rw [show (letB.drop k).take 1 = _ from congrArg (fun z => (letB.drop z).take 1) h3]
    exact T_ret fun cx_ a_ hI_ => rt hc0 [ps 2 (sv (st ([69] : List UInt8)))] [] hI_
  by_cases h4 : k = 3
  · refine T_r mixed [(2, .nat 3)] [ps 2 (sv (st ([70] : List UInt8)))] (obs_cons (by omega : (0 : Int) ≤ ((k : Nat) : Int) ∧ ((k : Nat) : Int) < ((7 : Nat) : Int)) (obs_cons (by omega : 0 + (((k : Nat) : Int) : Int).toNat * 1 = 3) obs_nil)) ?_
    rw [show (letB.drop k).take 1 = _ from congrArg (fun z => (letB.drop z).take 1) h4]
    exact T_ret fun cx_ a_ hI_ => rt hc0 [ps 2 (sv (st ([70] : List UInt8)))] [] hI_
  by_cases h5 : k = 4
  · refine T_r mixed [(2, .nat 4)] [ps 2 (sv (st ([71] : List UInt8)))] (obs_cons (by omega : (0 : Int) ≤ ((k : Nat) : Int) ∧ ((k : Nat) : Int) < ((7 : Nat) : Int)) (obs_cons (by omega : 0 + (((k : Nat) : Int) : Int).toNat * 1 = 4) obs_nil)) ?_
    rw [show (letB.drop k).take 1 = _ from congrArg (fun z => (letB.drop z).take 1) h5]
    exact T_ret fun cx_ a_ hI_ => rt hc0 [ps 2 (sv (st ([71] : List UInt8)))] [] hI_
  by_cases h6 : k = 5
  · refine T_r mixed [(2, .nat 5)] [ps 2 (sv (st ([65] : List UInt8)))] (obs_cons (by omega : (0 : Int) ≤ ((k : Nat) : Int) ∧ ((k : Nat) : Int) < ((7 : Nat) : Int)) (obs_cons (by omega : 0 + (((k : Nat) : Int) : Int).toNat * 1 = 5) obs_nil)) ?_
    rw [show (letB.drop k).take 1 = _ from congrArg (fun z => (letB.drop z).take 1) h6]
    exact T_ret fun cx_ a_ hI_ => rt hc0 [ps 2 (sv (st ([65] : List UInt8)))] [] hI_
  by_cases h7 : k = 6
  · refine T_r mixed [(2, .nat 6)] [ps 2 (sv (st ([66] : List UInt8)))] (obs_cons (by omega : (0 : Int) ≤ ((k : Nat) : Int) ∧ ((k : Nat) : Int) < ((7 : Nat) : Int)) (obs_cons (by omega : 0 + (((k : Nat) : Int) : Int).toNat * 1 = 6) obs_nil)) ?_
    rw [show (letB.drop k).take 1 = _ from congrArg (fun z => (letB.drop z).take 1) h7]
    exact T_ret fun cx_ a_ hI_ => rt hc0 [ps 2 (sv (st ([66] : List UInt8)))] [] hI_
  · exfalso; omega
set_option maxRecDepth 100000 in
set_option maxHeartbeats 4000000 in
theorem ref_print_pc (l a o : Int) (ia : Pi.I64 a) : PC Tryz.prog 5 [(.agg [(iv l), (iv a), (iv o)])] [] (.tup [(sv (st ((printS l a o).1))), (iv ((printS l a o).2))]) [] := by
  unfold Pi.I64 at ia
  refine pc_intro Tryz.func5 rfl (by kernel_rfl) (Nat.le_of_ble_eq_true rfl) (by kernel_rfl) (l0 := [ps 0 (.agg [(iv l), (iv a), (iv o)])]) rfl (fun c0 Bor hc0 => ?_)
  refine T_seq ?_
  refine T_r mixed [] [ps 1 (.opt 0 0), pb 0 23 [(iv l), (iv a), (iv o)]] (obs_nil) ?_
  refine T_seq <| T_seq ?_
  refine T_r mixed [(1, .call [] [(.agg [(iv l), (iv a), (iv o)])] [] (bv (Pi.rightB l a o)) [])] [ps 1 (.opt 0 0), ps 6 (bv (!(Pi.rightB l a o))), pb 0 23 [(iv l), (iv a), (iv o)]] (obs_cons (ref_pright_pc l a o (by unfold Pi.I64; omega)) (obs_cons (rfl : Ren0 32 [(.agg [(iv l), (iv a), (iv o)])]) obs_nil)) ?_
  by_cases h1 : (Pi.rightB l a o) = true
  · refine T_el (congrArg Bool.not h1) ?_
    refine T_skip <| T_seq ?_
    have hr := Pi.rightB_iff.1 h1
    have hl1 := letter_len l
    have hl2 := itoa_len (o := o) (by omega) (by omega)
    by_cases h2 : a + 3 = 0
    · refine T_rd mixed [(2, .call [] [(nv l.toNat)] [] (sv (st ((letB.drop l.toNat).take 1))) []), (7, .nat 0), (9, .val (.av (.string (st (((letB.drop l.toNat).take 1) ++ ([240, 157, 132, 171, 226, 153, 173] : List UInt8)))))), (12, .call [] [(iv o)] [] (sv (st (Lib.itoa o))) []), (13, .val (.av (.string (st ((((letB.drop l.toNat).take 1) ++ ([240, 157, 132, 171, 226, 153, 173] : List UInt8)) ++ (Lib.itoa o))))))] [[], [0], [0, 1], [], [], [4], [4, 5], [3, 4, 5, 6], [3, 4, 5, 6, 7], [0, 1, 2, 3, 4, 5, 6, 7, 8], [], [10], [0, 1, 2, 10, 11], [0, 1, 2, 3, 4, 5, 6, 7, 8, 9, 10, 11, 12], [0, 1, 2, 3, 4, 5, 6, 7, 8, 9, 10, 11, 12, 13], [0, 1, 2, 3, 4, 5, 6, 7, 8, 9, 10, 11, 12, 13, 14]] [([14], [2]), ([16], [1, 14]), ([18], [16]), ([20, 145], []), ([22], [2]), ([24], [1, 22]), ([26], [24]), ([28], [20, 26]), ([30], [28, 145]), ([32], [18, 30]), ([34], [2]), ([36], [1, 34]), ([38], [36]), ([40], [32, 38]), ([4], [40]), ([6], [])] [ps 2 (sv (st ((((letB.drop l.toNat).take 1) ++ ([240, 157, 132, 171, 226, 153, 173] : List UInt8)) ++ (Lib.itoa o)))), ps 3 (iv 0)] (obs_cons (letter_pc l.toNat (by omega)) (obs_cons (congrArg (fun z => [iv z]) (show l = ((l.toNat : Nat) : Int) from by omega) : [(iv l)] = renL (sigi [] 64) [(nv l.toNat)]) (obs_cons (by simp only [InK]; omega : InK .i64 (a + 3)) (obs_cons (by omega : (0 : Int) ≤ (a + 3) ∧ (a + 3) < ((7 : Nat) : Int)) (obs_cons (by omega : 0 + ((a + 3) : Int).toNat * 1 = 0) (obs_cons (by first | omega | (simp only [List.length_append, List.length_cons, List.length_nil]; omega) : ((((letB.drop l.toNat).take 1).length + ([240, 157, 132, 171, 226, 153, 173] : List UInt8).length : Nat) : Int) ≤ 9223372036854775807) (obs_cons (st_app _ _ : st ((letB.drop l.toNat).take 1) ++ st ([240, 157, 132, 171, 226, 153, 173] : List UInt8) = st (((letB.drop l.toNat).take 1) ++ ([240, 157, 132, 171, 226, 153, 173] : List UInt8))) (obs_cons (digits_pc o (by omega) (by omega)) (obs_cons (rfl : Ren0 144 [(iv o)]) (obs_cons (by first | omega | (simp only [List.length_append, List.length_cons, List.length_nil]; omega) : (((((letB.drop l.toNat).take 1) ++ ([240, 157, 132, 171, 226, 153, 173] : List UInt8)).length + (Lib.itoa o).length : Nat) : Int) ≤ 9223372036854775807) (obs_cons (st_app _ _ : st (((letB.drop l.toNat).take 1) ++ ([240, 157, 132, 171, 226, 153, 173] : List UInt8)) ++ st (Lib.itoa o) = st ((((letB.drop l.toNat).take 1) ++ ([240, 157, 132, 171, 226, 153, 173] : List UInt8)) ++ (Lib.itoa o))) obs_nil))))))))))) ?_
      rw [printS_at (l := l) (a := a) (o := o) (S := [240, 157, 132, 171, 226, 153, 173]) h1 (by rw [show a = -3 from by omega]; rfl)]
      exact T_ret fun cx_ a_ hI_ => rt hc0 [ps 2 (sv (st ((((letB.drop l.toNat).take 1) ++ ([240, 157, 132, 171, 226, 153, 173] : List UInt8)) ++ (Lib.itoa o)))), ps 3 (iv 0)] [] hI_
    by_cases h3 : a + 3 = 1
    · refine T_rd mixed [(2, .call [] [(nv l.toNat)] [] (sv (st ((letB.drop l.toNat).take 1))) []), (7, .nat 1), (9, .val (.av (.string (st (((letB.drop l.toNat).take 1) ++ ([240, 157, 132, 171] : List UInt8)))))), (12, .call [] [(iv o)] [] (sv (st (Lib.itoa o))) []), (13, .val (.av (.string (st ((((letB.drop l.toNat).take 1) ++ ([240, 157, 132, 171] : List UInt8)) ++ (Lib.itoa o))))))] [[], [0], [0, 1], [], [], [4], [4, 5], [3, 4, 5, 6], [3, 4, 5, 6, 7], [0, 1, 2, 3, 4, 5, 6, 7, 8], [], [10], [0, 1, 2, 10, 11], [0, 1, 2, 3, 4, 5, 6, 7, 8, 9, 10, 11, 12], [0, 1, 2, 3, 4, 5, 6, 7, 8, 9, 10, 11, 12, 13], [0, 1, 2, 3, 4, 5, 6, 7, 8, 9, 10, 11, 12, 13, 14]] [([14], [2]), ([16], [1, 14]), ([18], [16]), ([20, 145], []), ([22], [2]), ([24], [1, 22]), ([26], [24]), ([28], [20, 26]), ([30], [28, 145]), ([32], [18, 30]), ([34], [2]), ([36], [1, 34]), ([38], [36]), ([40], [32, 38]), ([4], [40]), ([6], [])] [ps 2 (sv (st ((((letB.drop l.toNat).take 1) ++ ([240, 157, 132, 171] : List UInt8)) ++ (Lib.itoa o)))), ps 3 (iv 0)] (obs_cons (letter_pc l.toNat (by omega)) (obs_cons (congrArg (fun z => [iv z]) (show l = ((l.toNat : Nat) : Int) from by omega) : [(iv l)] = renL (sigi [] 64) [(nv l.toNat)]) (obs_cons (by simp only [InK]; omega : InK .i64 (a + 3)) (obs_cons (by omega : (0 : Int) ≤ (a + 3) ∧ (a + 3) < ((7 : Nat) : Int)) (obs_cons (by omega : 0 + ((a + 3) : Int).toNat * 1 = 1) (obs_cons (by first | omega | (simp only [List.length_append, List.length_cons, List.length_nil]; omega) : ((((letB.drop l.toNat).take 1).length + ([240, 157, 132, 171] : List UInt8).length : Nat) : Int) ≤ 9223372036854775807) (obs_cons (st_app _ _ : st ((letB.drop l.toNat).take 1) ++ st ([240, 157, 132, 171] : List UInt8) = st (((letB.drop l.toNat).take 1) ++ ([240, 157, 132, 171] : List UInt8))) (obs_cons (digits_pc o (by omega) (by omega)) (obs_cons (rfl : Ren0 144 [(iv o)]) (obs_cons (by first | omega | (simp only [List.length_append, List.length_cons, List.length_nil]; omega) : (((((letB.drop l.toNat).take 1) ++ ([240, 157, 132, 171] : List UInt8)).length + (Lib.itoa o).length : Nat) : Int) ≤ 9223372036854775807) (obs_cons (st_app _ _ : st (((letB.drop l.toNat).take 1) ++ ([240, 157, 132, 171] : List UInt8)) ++ st (Lib.itoa o) = st ((((letB.drop l.toNat).take 1) ++ ([240, 157, 132, 171] : List UInt8)) ++ (Lib.itoa o))) obs_nil))))))))))) ?_
      rw [printS_at (l := l) (a := a) (o := o) (S := [240, 157, 132, 171]) h1 (by rw [show a = -2 from by omega]; rfl)]
      exact T_ret fun cx_ a_ hI_ => rt hc0 [ps 2 (sv (st ((((letB.drop l.toNat).take 1) ++ ([240, 157, 132, 171] : List UInt8)) ++ (Lib.itoa o)))), ps 3 (iv 0)] [] hI_
    by_cases h4 : a + 3 = 2
    · refine T_rd mixed [(2, .call [] [(nv l.toNat)] [] (sv (st ((letB.drop l.toNat).take 1))) []), (7, .nat 2), (9, .val (.av (.string (st (((letB.drop l.toNat).take 1) ++ ([226, 153, 173] : List UInt8)))))), (12, .call [] [(iv o)] [] (sv (st (Lib.itoa o))) []), (13, .val (.av (.string (st ((((letB.drop l.toNat).take 1) ++ ([226, 153, 173] : List UInt8)) ++ (Lib.itoa o))))))] [[], [0], [0, 1], [], [], [4], [4, 5], [3, 4, 5, 6], [3, 4, 5, 6, 7], [0, 1, 2, 3, 4, 5, 6, 7, 8], [], [10], [0, 1, 2, 10, 11], [0, 1, 2, 3, 4, 5, 6, 7, 8, 9, 10, 11, 12], [0, 1, 2, 3, 4, 5, 6, 7, 8, 9, 10, 11, 12, 13], [0, 1, 2, 3, 4, 5, 6, 7, 8, 9, 10, 11, 12, 13, 14]] [([14], [2]), ([16], [1, 14]), ([18], [16]), ([20, 145], []), ([22], [2]), ([24], [1, 22]), ([26], [24]), ([28], [20, 26]), ([30], [28, 145]), ([32], [18, 30]), ([34], [2]), ([36], [1, 34]), ([38], [36]), ([40], [32, 38]), ([4], [40]), ([6], [])] [ps 2 (sv (st ((((letB.drop l.toNat).take 1) ++ ([226, 153, 173] : List UInt8)) ++ (Lib.itoa o)))), ps 3 (iv 0)] (obs_cons (letter_pc l.toNat (by omega)) (obs_cons (congrArg (fun z => [iv z]) (show l = ((l.toNat : Nat) : Int) from by omega) : [(iv l)] = renL (sigi [] 64) [(nv l.toNat)]) (obs_cons (by simp only [InK]; omega : InK .i64 (a + 3)) (obs_cons (by omega : (0 : Int) ≤ (a + 3) ∧ (a + 3) < ((7 : Nat) : Int)) (obs_cons (by omega : 0 + ((a + 3) : Int).toNat * 1 = 2) (obs_cons (by first | omega | (simp only [List.length_append, List.length_cons, List.length_nil]; omega) : ((((letB.drop l.toNat).take 1).length + ([226, 153, 173] : List UInt8).length : Nat) : Int) ≤ 9223372036854775807) (obs_cons (st_app _ _ : st ((letB.drop l.toNat).take 1) ++ st ([226, 153, 173] : List UInt8) = st (((letB.drop l.toNat).take 1) ++ ([226, 153, 173] : List UInt8))) (obs_cons (digits_pc o (by omega) (by omega)) (obs_cons (rfl : Ren0 144 [(iv o)]) (obs_cons (by first | omega | (simp only [List.length_append, List.length_cons, List.length_nil]; omega) : (((((letB.drop l.toNat).take 1) ++ ([226, 153, 173] : List UInt8)).length + (Lib.itoa o).length : Nat) : Int) ≤ 9223372036854775807) (obs_cons (st_app _ _ : st (((letB.drop l.toNat).take 1) ++ ([226, 153, 173] : List UInt8)) ++ st (Lib.itoa o) = st ((((letB.drop l.toNat).take 1) ++ ([226, 153, 173] : List UInt8)) ++ (Lib.itoa o))) obs_nil))))))))))) ?_
      rw [printS_at (l := l) (a := a) (o := o) (S := [226, 153, 173]) h1 (by rw [show a = -1 from by omega]; rfl)]
      exact T_ret fun cx_ a_ hI_ => rt hc0 [ps 2 (sv (st ((((letB.drop l.toNat).take 1) ++ ([226, 153, 173] : List UInt8)) ++ (Lib.itoa o)))), ps 3 (iv 0)] [] hI_
    by_cases h5 : a + 3 = 3
    · refine T_rd mixed [(2, .call [] [(nv l.toNat)] [] (sv (st ((letB.drop l.toNat).take 1))) []), (7, .nat 3), (9, .val (.av (.string (st (((letB.drop l.toNat).take 1) ++ ([] : List UInt8)))))), (12, .call [] [(iv o)] [] (sv (st (Lib.itoa o))) []), (13, .val (.av (.string (st ((((letB.drop l.toNat).take 1) ++ ([] : List UInt8)) ++ (Lib.itoa o))))))] [[], [0], [0, 1], [], [], [4], [4, 5], [3, 4, 5, 6], [3, 4, 5, 6, 7], [0, 1, 2, 3, 4, 5, 6, 7, 8], [], [10], [0, 1, 2, 10, 11], [0, 1, 2, 3, 4, 5, 6, 7, 8, 9, 10, 11, 12], [0, 1, 2, 3, 4, 5, 6, 7, 8, 9, 10, 11, 12, 13], [0, 1, 2, 3, 4, 5, 6, 7, 8, 9, 10, 11, 12, 13, 14]] [([14], [2]), ([16], [1, 14]), ([18], [16]), ([20, 145], []), ([22], [2]), ([24], [1, 22]), ([26], [24]), ([28], [20, 26]), ([30], [28, 145]), ([32], [18, 30]), ([34], [2]), ([36], [1, 34]), ([38], [36]), ([40], [32, 38]), ([4], [40]), ([6], [])] [ps 2 (sv (st ((((letB.drop l.toNat).take 1) ++ ([] : List UInt8)) ++ (Lib.itoa o)))), ps 3 (iv 0)] (obs_cons (letter_pc l.toNat (by omega)) (obs_cons (congrArg (fun z => [iv z]) (show l = ((l.toNat : Nat) : Int) from by omega) : [(iv l)] = renL (sigi [] 64) [(nv l.toNat)]) (obs_cons (by simp only [InK]; omega : InK .i64 (a + 3)) (obs_cons (by omega : (0 : Int) ≤ (a + 3) ∧ (a + 3) < ((7 : Nat) : Int)) (obs_cons (by omega : 0 + ((a + 3) : Int).toNat * 1 = 3) (obs_cons (by first | omega | (simp only [List.length_append, List.length_cons, List.length_nil]; omega) : ((((letB.drop l.toNat).take 1).length + ([] : List UInt8).length : Nat) : Int) ≤ 9223372036854775807) (obs_cons (st_app _ _ : st ((letB.drop l.toNat).take 1) ++ st ([] : List UInt8) = st (((letB.drop l.toNat).take 1) ++ ([] : List UInt8))) (obs_cons (digits_pc o (by omega) (by omega)) (obs_cons (rfl : Ren0 144 [(iv o)]) (obs_cons (by first | omega | (simp only [List.length_append, List.length_cons, List.length_nil]; omega) : (((((letB.drop l.toNat).take 1) ++ ([] : List UInt8)).length + (Lib.itoa o).length : Nat) : Int) ≤ 9223372036854775807) (obs_cons (st_app _ _ : st (((letB.drop l.toNat).take 1) ++ ([] : List UInt8)) ++ st (Lib.itoa o) = st ((((letB.drop l.toNat).take 1) ++ ([] : List UInt8)) ++ (Lib.itoa o))) obs_nil))))))))))) ?_
      rw [printS_at (l := l) (a := a) (o := o) (S := []) h1 (by rw [show a = 0 from by omega]; rfl)]
      exact T_ret fun cx_ a_ hI_ => rt hc0 [ps 2 (sv (st ((((letB.drop l.toNat).take 1) ++ ([] : List UInt8)) ++ (Lib.itoa o)))), ps 3 (iv 0)] [] hI_
    by_cases h6 : a + 3 = 4
    · refine T_rd mixed [(2, .call [] [(nv l.toNat)] [] (sv (st ((letB.drop l.toNat).take 1))) []), (7, .nat 4), (9, .val (.av (.string (st (((letB.drop l.toNat).take 1) ++ ([226, 153, 175] : List UInt8)))))), (12, .call [] [(iv o)] [] (sv (st (Lib.itoa o))) []), (13, .val (.av (.string (st ((((letB.drop l.toNat).take 1) ++ ([226, 153, 175] : List UInt8)) ++ (Lib.itoa o))))))] [[], [0], [0, 1], [], [], [4], [4, 5], [3, 4, 5, 6], [3, 4, 5, 6, 7], [0, 1, 2, 3, 4, 5, 6, 7, 8], [], [10], [0, 1, 2, 10, 11], [0, 1, 2, 3, 4, 5, 6, 7, 8, 9, 10, 11, 12], [0, 1, 2, 3, 4, 5, 6, 7, 8, 9, 10, 11, 12, 13], [0, 1, 2, 3, 4, 5, 6, 7, 8, 9, 10, 11, 12, 13, 14]] [([14], [2]), ([16], [1, 14]), ([18], [16]), ([20, 145], []), ([22], [2]), ([24], [1, 22]), ([26], [24]), ([28], [20, 26]), ([30], [28, 145]), ([32], [18, 30]), ([34], [2]), ([36], [1, 34]), ([38], [36]), ([40], [32, 38]), ([4], [40]), ([6], [])] [ps 2 (sv (st ((((letB.drop l.toNat).take 1) ++ ([226, 153, 175] : List UInt8)) ++ (Lib.itoa o)))), ps 3 (iv 0)] (obs_cons (letter_pc l.toNat (by omega)) (obs_cons (congrArg (fun z => [iv z]) (show l = ((l.toNat : Nat) : Int) from by omega) : [(iv l)] = renL (sigi [] 64) [(nv l.toNat)]) (obs_cons (by simp only [InK]; omega : InK .i64 (a + 3)) (obs_cons (by omega : (0 : Int) ≤ (a + 3) ∧ (a + 3) < ((7 : Nat) : Int)) (obs_cons (by omega : 0 + ((a + 3) : Int).toNat * 1 = 4) (obs_cons (by first | omega | (simp only [List.length_append, List.length_cons, List.length_nil]; omega) : ((((letB.drop l.toNat).take 1).length + ([226, 153, 175] : List UInt8).length : Nat) : Int) ≤ 9223372036854775807) (obs_cons (st_app _ _ : st ((letB.drop l.toNat).take 1) ++ st ([226, 153, 175] : List UInt8) = st (((letB.drop l.toNat).take 1) ++ ([226, 153, 175] : List UInt8))) (obs_cons (digits_pc o (by omega) (by omega)) (obs_cons (rfl : Ren0 144 [(iv o)]) (obs_cons (by first | omega | (simp only [List.length_append, List.length_cons, List.length_nil]; omega) : (((((letB.drop l.toNat).take 1) ++ ([226, 153, 175] : List UInt8)).length + (Lib.itoa o).length : Nat) : Int) ≤ 9223372036854775807) (obs_cons (st_app _ _ : st (((letB.drop l.toNat).take 1) ++ ([226, 153, 175] : List UInt8)) ++ st (Lib.itoa o) = st ((((letB.drop l.toNat).take 1) ++ ([226, 153, 175] : List UInt8)) ++ (Lib.itoa o))) obs_nil))))))))))) ?_
      rw [printS_at (l := l) (a := a) (o := o) (S := [226, 153, 175]) h1 (by rw [show a = 1 from by omega]; rfl)]
      exact T_ret fun cx_ a_ hI_ => rt hc0 [ps 2 (sv (st ((((letB.drop l.toNat).take 1) ++ ([226, 153, 175] : List UInt8)) ++ (Lib.itoa o)))), ps 3 (iv 0)] [] hI_
    by_cases h7 : a + 3 = 5
    · refine T_rd mixed [(2, .call [] [(nv l.toNat)] [] (sv (st ((letB.drop l.toNat).take 1))) []), (7, .nat 5), (9, .val (.av (.string (st (((letB.drop l.toNat).take 1) ++ ([240, 157, 132, 170] : List UInt8)))))), (12, .call [] [(iv o)] [] (sv (st (Lib.itoa o))) []), (13, .val (.av (.string (st ((((letB.drop l.toNat).take 1) ++ ([240, 157, 132, 170] : List UInt8)) ++ (Lib.itoa o))))))] [[], [0], [0, 1], [], [], [4], [4, 5], [3, 4, 5, 6], [3, 4, 5, 6, 7], [0, 1, 2, 3, 4, 5, 6, 7, 8], [], [10], [0, 1, 2, 10, 11], [0, 1, 2, 3, 4, 5, 6, 7, 8, 9, 10, 11, 12], [0, 1, 2, 3, 4, 5, 6, 7, 8, 9, 10, 11, 12, 13], [0, 1, 2, 3, 4, 5, 6, 7, 8, 9, 10, 11, 12, 13, 14]] [([14], [2]), ([16], [1, 14]), ([18], [16]), ([20, 145], []), ([22], [2]), ([24], [1, 22]), ([26], [24]), ([28], [20, 26]), ([30], [28, 145]), ([32], [18, 30]), ([34], [2]), ([36], [1, 34]), ([38], [36]), ([40], [32, 38]), ([4], [40]), ([6], [])] [ps 2 (sv (st ((((letB.drop l.toNat).take 1) ++ ([240, 157, 132, 170] : List UInt8)) ++ (Lib.itoa o)))), ps 3 (iv 0)] (obs_cons (letter_pc l.toNat (by omega)) (obs_cons (congrArg (fun z => [iv z]) (show l = ((l.toNat : Nat) : Int) from by omega) : [(iv l)] = renL (sigi [] 64) [(nv l.toNat)]) (obs_cons (by simp only [InK]; omega : InK .i64 (a + 3)) (obs_cons (by omega : (0 : Int) ≤ (a + 3) ∧ (a + 3) < ((7 : Nat) : Int)) (obs_cons (by omega : 0 + ((a + 3) : Int).toNat * 1 = 5) (obs_cons (by first | omega | (simp only [List.length_append, List.length_cons, List.length_nil]; omega) : ((((letB.drop l.toNat).take 1).length + ([240, 157, 132, 170] : List UInt8).length : Nat) : Int) ≤ 9223372036854775807) (obs_cons (st_app _ _ : st ((letB.drop l.toNat).take 1) ++ st ([240, 157, 132, 170] : List UInt8) = st (((letB.drop l.toNat).take 1) ++ ([240, 157, 132, 170] : List UInt8))) (obs_cons (digits_pc o (by omega) (by omega)) (obs_cons (rfl : Ren0 144 [(iv o)]) (obs_cons (by first | omega | (simp only [List.length_append, List.length_cons, List.length_nil]; omega) : (((((letB.drop l.toNat).take 1) ++ ([240, 157, 132, 170] : List UInt8)).length + (Lib.itoa o).length : Nat) : Int) ≤ 9223372036854775807) (obs_cons (st_app _ _ : st (((letB.drop l.toNat).take 1) ++ ([240, 157, 132, 170] : List UInt8)) ++ st (Lib.itoa o) = st ((((letB.drop l.toNat).take 1) ++ ([240, 157, 132, 170] : List UInt8)) ++ (Lib.itoa o))) obs_nil))))))))))) ?_
      rw [printS_at (l := l) (a := a) (o := o) (S := [240, 157, 132, 170]) h1 (by rw [show a = 2 from by omega]; rfl)]
      exact T_ret fun cx_ a_ hI_ => rt hc0 [ps 2 (sv (st ((((letB.drop l.toNat).take 1) ++ ([240, 157, 132, 170] : List UInt8)) ++ (Lib.itoa o)))), ps 3 (iv 0)] [] hI_
    by_cases h8 : a + 3 = 6
    · refine T_rd mixed [(2, .call [] [(nv l.toNat)] [] (sv (st ((letB.drop l.toNat).take 1))) []), (7, .nat 6), (9, .val (.av (.string (st (((letB.drop l.toNat).take 1) ++ ([240, 157, 132, 170, 226, 153, 175] : List UInt8)))))), (12, .call [] [(iv o)] [] (sv (st (Lib.itoa o))) []), (13, .val (.av (.string (st ((((letB.drop l.toNat).take 1) ++ ([240, 157, 132, 170, 226, 153, 175] : List UInt8)) ++ (Lib.itoa o))))))] [[], [0], [0, 1], [], [], [4], [4, 5], [3, 4, 5, 6], [3, 4, 5, 6, 7], [0, 1, 2, 3, 4, 5, 6, 7, 8], [], [10], [0, 1, 2, 10, 11], [0, 1, 2, 3, 4, 5, 6, 7, 8, 9, 10, 11, 12], [0, 1, 2, 3, 4, 5, 6, 7, 8, 9, 10, 11, 12, 13], [0, 1, 2, 3, 4, 5, 6, 7, 8, 9, 10, 11, 12, 13, 14]] [([14], [2]), ([16], [1, 14]), ([18], [16]), ([20, 145], []), ([22], [2]), ([24], [1, 22]), ([26], [24]), ([28], [20, 26]), ([30], [28, 145]), ([32], [18, 30]), ([34], [2]), ([36], [1, 34]), ([38], [36]), ([40], [32, 38]), ([4], [40]), ([6], [])] [ps 2 (sv (st ((((letB.drop l.toNat).take 1) ++ ([240, 157, 132, 170, 226, 153, 175] : List UInt8)) ++ (Lib.itoa o)))), ps 3 (iv 0)] (obs_cons (letter_pc l.toNat (by omega)) (obs_cons (congrArg (fun z => [iv z]) (show l = ((l.toNat : Nat) : Int) from by omega) : [(iv l)] = renL (sigi [] 64) [(nv l.toNat)]) (obs_cons (by simp only [InK]; omega : InK .i64 (a + 3)) (obs_cons (by omega : (0 : Int) ≤ (a + 3) ∧ (a + 3) < ((7 : Nat) : Int)) (obs_cons (by omega : 0 + ((a + 3) : Int).toNat * 1 = 6) (obs_cons (by first | omega | (simp only [List.length_append, List.length_cons, List.length_nil]; omega) : ((((letB.drop l.toNat).take 1).length + ([240, 157, 132, 170, 226, 153, 175] : List UInt8).length : Nat) : Int) ≤ 9223372036854775807) (obs_cons (st_app _ _ : st ((letB.drop l.toNat).take 1) ++ st ([240, 157, 132, 170, 226, 153, 175] : List UInt8) = st (((letB.drop l.toNat).take 1) ++ ([240, 157, 132, 170, 226, 153, 175] : List UInt8))) (obs_cons (digits_pc o (by omega) (by omega)) (obs_cons (rfl : Ren0 144 [(iv o)]) (obs_cons (by first | omega | (simp only [List.length_append, List.length_cons, List.length_nil]; omega) : (((((letB.drop l.toNat).take 1) ++ ([240, 157, 132, 170, 226, 153, 175] : List UInt8)).length + (Lib.itoa o).length : Nat) : Int) ≤ 9223372036854775807) (obs_cons (st_app _ _ : st (((letB.drop l.toNat).take 1) ++ ([240, 157, 132, 170, 226, 153, 175] : List UInt8)) ++ st (Lib.itoa o) = st ((((letB.drop l.toNat).take 1) ++ ([240, 157, 132, 170, 226, 153, 175] : List UInt8)) ++ (Lib.itoa o))) obs_nil))))))))))) ?_
      rw [printS_at (l := l) (a := a) (o := o) (S := [240, 157, 132, 170, 226, 153, 175]) h1 (by rw [show a = 3 from by omega]; rfl)]
      exact T_ret fun cx_ a_ hI_ => rt hc0 [ps 2 (sv (st ((((letB.drop l.toNat).take 1) ++ ([240, 157, 132, 170, 226, 153, 175] : List UInt8)) ++ (Lib.itoa o)))), ps 3 (iv 0)] [] hI_
    · exfalso; omega
  refine T_th (congrArg Bool.not (Bool.eq_false_iff.2 h1)) ?_
  refine T_seq ?_
  refine T_r mixed [] [ps 2 (sv (st ([] : List UInt8))), ps 3 (iv 2)] (obs_nil) ?_
  rw [printS_no (l := l) (a := a) (o := o) h1]
  exact T_ret fun cx_ a_ hI_ => rt hc0 [ps 2 (sv (st ([] : List UInt8))), ps 3 (iv 2)] [] hI_
set_option maxRecDepth 100000 in
set_option maxHeartbeats 4000000 in
theorem starts_pc (s : List UInt8) (n : Nat) (t : List UInt8) (hs : s.length ≤ 140737488355328) (hn : n ≤ 140737488355328) (hl : t.length ≤ 100) (ht : t ≠ []) : PC Tryz.prog 32 [(sv (st s)), (nv n), (sv (st t))] [] (bv (Lib.hasPrefix (s.drop n) t)) [] := by
  refine pc_intro Tryz.func32 rfl (by kernel_rfl) (Nat.le_of_ble_eq_true rfl) (by kernel_rfl) (l0 := [ps 0 (sv (st s)), ps 1 (nv n), ps 2 (sv (st t))]) rfl (fun c0 Bor hc0 => ?_)
  refine T_seq ?_
  refine T_r mixed [] [ps 0 (sv (st s)), ps 1 (nv n), ps 2 (sv (st t))] (obs_nil) ?_
  refine T_seq ?_
  by_cases h1 : (((n : Nat) : Int) + ((t.length : Nat) : Int)) ≤ ((s.length : Nat) : Int)
  · refine T_r mixed [(8, .gd true (.no)), (9, .gd true (.no)), (10, .gd true (.no)), (11, .gd true (.no)), (12, .gd true (.no)), (13, .gd true (.no)), (14, .gd true (.val (.av (.string (st ((s.drop n).take t.length)))))), (15, .gd true (.no)), (16, .gd true (.val (.av (.bool (decide (((s.drop n).take t.length) = t)))))), (17, .yes true)] [ps 6 (bv (decide (((s.drop n).take t.length) = t)))] (obs_cons (by simp only [InK]; omega : InK .i64 (((n : Nat) : Int) + ((t.length : Nat) : Int))) (obs_cons (decide_eq_true h1) (obs_cons (decide_eq_true h1) (obs_cons (decide_eq_true h1) (obs_cons (decide_eq_true h1) (obs_cons (decide_eq_true h1) (obs_cons (decide_eq_true h1) (obs_cons (by simp only [InK]; omega : InK .i64 (((n : Nat) : Int) + ((t.length : Nat) : Int))) (obs_cons (decide_eq_true h1) (obs_cons (by first | omega | (simp only [List.length_cons, List.length_nil, List.length_drop, List.length_append, List.length_take]; omega) : (0 : Int) ≤ ((n : Nat) : Int) ∧ ((n : Nat) : Int) ≤ (((n : Nat) : Int) + ((t.length : Nat) : Int)) ∧ (((n : Nat) : Int) + ((t.length : Nat) : Int)) ≤ ((s.length : Nat) : Int)) (obs_cons (by rw [st_cut]; congr 2; omega : (st s).extract (((n : Nat) : Int) : Int).toNat ((((n : Nat) : Int) + ((t.length : Nat) : Int)) : Int).toNat = st ((s.drop n).take t.length)) (obs_cons (decide_eq_true h1) (obs_cons (decide_eq_true h1) (obs_cons (st_eq _ _ : ((st ((s.drop n).take t.length)).toList == (st t).toList) = decide (((s.drop n).take t.length) = t)) (obs_cons (decide_eq_true h1) obs_nil))))))))))))))) ?_
    refine T_wk (Wk.eq (show _ = [ps 6 (bv (Lib.hasPrefix (s.drop n) t))] from by rw [show decide (((s.drop n).take t.length) = t) = Lib.hasPrefix (s.drop n) t from by rw [Bool.eq_iff_iff, decide_eq_true_iff, ← starts_pre ht]; exact ⟨fun c => ⟨by omega, c⟩, fun c => c.2⟩])) ?_
    exact T_ret fun cx_ a_ hI_ => rt hc0 [ps 6 (bv (Lib.hasPrefix (s.drop n) t))] [] hI_
  refine T_r mixed [(8, .gd false .no), (9, .gd false .no), (10, .gd false .no), (11, .gd false .no), (12, .gd false .no), (13, .gd false .no), (14, .gd false .no), (15, .gd false .no), (16, .gd false .no), (17, .yes false)] [ps 6 (bv false)] (obs_cons (by simp only [InK]; omega : InK .i64 (((n : Nat) : Int) + ((t.length : Nat) : Int))) (obs_cons (decide_eq_false h1) (obs_cons (decide_eq_false h1) (obs_cons (decide_eq_false h1) (obs_cons (decide_eq_false h1) (obs_cons (decide_eq_false h1) (obs_cons (decide_eq_false h1) (obs_cons (decide_eq_false h1) (obs_cons (decide_eq_false h1) (obs_cons (decide_eq_false h1) (obs_cons (decide_eq_false h1) obs_nil))))))))))) ?_
  rw [starts_short (s := s) (t := t) (n := n) ht (by omega)]
  exact T_ret fun cx_ a_ hI_ => rt hc0 [ps 6 (bv false)] [] hI_
set_option maxRecDepth 100000 in
set_option maxHeartbeats 4000000 in
theorem times_pc (c : UInt8) (n : Int) (h0 : 0 ≤ n) (h1 : n ≤ 1000) : PC Tryz.prog 24 [(sv (st [c])), (iv n)] [] (sv (st (Lib.repeatL [c] n.toNat))) [] := by
  refine pc_intro Tryz.func24 rfl (by kernel_rfl) (Nat.le_of_ble_eq_true rfl) (by kernel_rfl) (l0 := [ps 0 (sv (st [c])), ps 1 (iv n)]) rfl (fun c0 Bor hc0 => ?_)
  refine T_seq ?_
  refine T_r mixed [] [ps 0 (sv (st [c])), ps 1 (iv n)] (obs_nil) ?_
  refine T_seq ?_
  refine T_r mixed [] [ps 0 (sv (st [c])), ps 1 (iv n), ps 5 (sv (st ([] : List UInt8)))] (obs_nil) ?_
  refine T_seq <| T_seq ?_
  refine T_r mixed [] [ps 0 (sv (st [c])), ps 1 (iv n), ps 5 (sv (st ([] : List UInt8))), ps 6 (iv 0)] (obs_nil) ?_
  refine T_block ?_
  refine T_loop (α := {x : Nat // ((x : Nat) : Int) ≤ n}) (fun x => [ps 0 (sv (st [c])), ps 1 (iv n), ps 5 (sv (st (Lib.repeatL [c] x.1))), ps 6 (nv x.1)]) (fun x => n.toNat - x.1) 0 ⟨0, by show ((0 : Nat) : Int) ≤ n; omega⟩ (Wk.ren2 [ps 0 (sv (st [c])), ps 1 (iv n), ps 5 (sv (st (Lib.repeatL [c] 0))), ps 6 (nv 0)] 0 hc0 [] rfl rfl (by kernel_rfl) (by kernel_rfl)) ?_
  rintro ⟨k, hk⟩
  refine T_seq <| T_seq ?_
  refine T_r mixed [] [ps 0 (sv (st [c])), ps 1 (iv n), ps 5 (sv (st (Lib.repeatL [c] k))), ps 6 (nv k), ps 9 (bv (decide (((k : Nat) : Int) < n)))] (obs_nil) ?_
  by_cases h1 : ((k : Nat) : Int) < n
  · refine T_th (decide_eq_true h1) ?_
    refine T_skip <| T_seq <| T_block ?_
    have hl := rep_len c k
    refine T_r mixed [(2, .val (.av (.string (st ((Lib.repeatL [c] k) ++ [c])))))] [ps 0 (sv (st [c])), ps 1 (iv n), ps 5 (sv (st ((Lib.repeatL [c] k) ++ [c]))), ps 6 (nv k)] (obs_cons (by first | omega | (simp only [List.length_append, List.length_cons, List.length_nil]; omega) : (((Lib.repeatL [c] k).length + [c].length : Nat) : Int) ≤ 9223372036854775807) (obs_cons (st_app _ _ : st (Lib.repeatL [c] k) ++ st [c] = st ((Lib.repeatL [c] k) ++ [c])) obs_nil)) ?_
    refine T_blk ?_
    refine T_r mixed [] [ps 0 (sv (st [c])), ps 1 (iv n), ps 5 (sv (st ((Lib.repeatL [c] k) ++ [c]))), ps 6 (iv (((k : Nat) : Int) + 1))] (obs_cons (by simp only [InK]; omega : InK .i64 (((k : Nat) : Int) + 1)) obs_nil) ?_
    exact T_back ⟨k + 1, by show ((k + 1 : Nat) : Int) ≤ n; omega⟩ (Wk.trans (Wk.eq (show _ = [ps 0 (sv (st [c])), ps 1 (iv n), ps 5 (sv (st (Lib.repeatL [c] (k + 1)))), ps 6 (nv (k + 1))] from by rw [← rep_snoc]; rfl)) (Wk.ren2 [ps 0 (sv (st [c])), ps 1 (iv n), ps 5 (sv (st (Lib.repeatL [c] (k + 1)))), ps 6 (nv (k + 1))] 0 hc0 [] rfl rfl (by kernel_rfl) (by kernel_rfl))) (show n.toNat - (k + 1) < n.toNat - k from by show n.toNat - (k + 1) < n.toNat - k; omega)
  refine T_el (decide_eq_false h1) ?_
  refine T_break rfl rfl ?_
  refine T_seq ?_
  refine T_r mixed [] [ps 4 (sv (st (Lib.repeatL [c] k)))] (obs_nil) ?_
  rw [show n.toNat = k from by omega]
  exact T_ret fun cx_ a_ hI_ => rt hc0 [ps 4 (sv (st (Lib.repeatL [c] k)))] [] hI_
end Go.Proofs.YtlngkiipgkociaaGreatDoor.Pm
namespace Go.Proofs.YtlngkiipgkociaaGreatDoor.Pm
open Go Go.Proofs.YtlngkiipgkociaaGreatDoor.Pi

set_option maxRecDepth 100000 in
set_option maxHeartbeats 4000000 in
theorem ref_number_pc (s : List UInt8) (hs : s.length ≤ 140737488355328) : PC Tryz.prog 34 [(sv (st s))] [] (.tup [(iv ((numS s).1)), (bv ((numS s).2))]) [] := by
  refine pc_intro Tryz.func34 rfl (by kernel_rfl) (Nat.le_of_ble_eq_true rfl) (by kernel_rfl) (l0 := [ps 0 (sv (st s))]) rfl (fun c0 Bor hc0 => ?_)
  refine T_seq ?_
  refine T_r mixed [] [ps 0 (sv (st s))] (obs_nil) ?_
  refine T_seq ?_
  refine T_r mixed [] [ps 0 (sv (st s)), ps 4 (iv 0)] (obs_nil) ?_
  refine T_seq <| T_seq ?_
  by_cases h1 : 0 < ((s.length : Nat) : Int)
  · refine T_r mixed [(4, .gd true (.no)), (5, .gd true (.no)), (6, .gd true (.no)), (7, .yes true)] [ps 0 (sv (st s)), ps 4 (iv 0), ps 14 (bv (decide ((((s.getD 0 0).toNat : Nat) : Int) = 45)))] (obs_cons (decide_eq_true h1) (obs_cons (decide_eq_true h1) (obs_cons (by first | omega | (simp only [List.length_cons, List.length_nil, List.length_drop, List.length_append, List.length_take]; omega) : (0 : Int) ≤ 0 ∧ 0 < ((s.length : Nat) : Int)) (obs_cons (decide_eq_true h1) (obs_cons (decide_eq_true h1) obs_nil))))) ?_
    by_cases h2 : (((s.getD 0 0).toNat : Nat) : Int) = 45
    · refine T_th (decide_eq_true h2) ?_
      refine T_r mixed [] [ps 0 (sv (st s)), ps 4 (iv 1)] (obs_nil) ?_
      refine T_seq ?_
      refine T_r mixed [] [ps 0 (sv (st s)), ps 4 (iv 1), ps 5 (iv 0)] (obs_nil) ?_
      refine T_seq <| T_seq ?_
      have hi : ((1 : Nat) = 1 ∧ Lib.hasPrefix s [45] = true) ∨ ((1 : Nat) = 0 ∧ Lib.hasPrefix s [45] = false) := .inl ⟨rfl, (by rw [min_head (by omega)]; exact decide_eq_true h2)⟩
      refine T_r mixed [] [ps 0 (sv (st s)), ps 4 (iv 1), ps 5 (iv 0), ps 6 (iv 1)] (obs_nil) ?_
      refine T_block ?_
      refine T_loop (α := {x : Nat × Int // 1 ≤ x.1 ∧ x.1 ≤ s.length ∧ (∀ b ∈ (s.take x.1).drop 1, b ∈ digs) ∧ x.2 = decW 0 ((s.take x.1).drop 1)}) (fun x => [ps 0 (sv (st s)), ps 4 (iv 1), ps 5 (iv x.1.2), ps 6 (nv x.1.1)]) (fun x => s.length - x.1.1) 0 ⟨(1, 0), ⟨Nat.le_refl _, by show 1 ≤ s.length; omega, by show ∀ b ∈ (s.take 1).drop 1, b ∈ digs; rw [List.drop_eq_nil_of_le (show (s.take 1).length ≤ 1 from by rw [List.length_take]; omega)]; simp, by show 0 = decW 0 ((s.take 1).drop 1); rw [List.drop_eq_nil_of_le (show (s.take 1).length ≤ 1 from by rw [List.length_take]; omega)]; rfl⟩⟩ (Wk.ren2 [ps 0 (sv (st s)), ps 4 (iv 1), ps 5 (iv (0 : Int)), ps 6 (nv 1)] 0 hc0 [] rfl rfl (by kernel_rfl) (by kernel_rfl)) ?_
      rintro ⟨⟨k, n⟩, ⟨hk1, hk2, hd, hn⟩⟩
      dsimp only at hk1 hk2 hd hn
      refine T_seq <| T_seq ?_
      refine T_r mixed [] [ps 0 (sv (st s)), ps 4 (iv 1), ps 5 (iv n), ps 6 (nv k), ps 19 (bv (decide (((k : Nat) : Int) < ((s.length : Nat) : Int))))] (obs_nil) ?_
      by_cases h3 : ((k : Nat) : Int) < ((s.length : Nat) : Int)
      · refine T_th (decide_eq_true h3) ?_
        refine T_skip <| T_seq <| T_block <| T_seq <| T_seq ?_
        by_cases h4 : (((s.getD k 0).toNat : Nat) : Int) < 48
        · refine T_r mixed [(5, .gd true .no), (6, .gd true .no), (7, .gd true .no), (8, .gd true .no), (9, .yes true)] [ps 0 (sv (st s)), ps 4 (iv 1), ps 5 (iv n), ps 6 (nv k), ps 31 (bv true)] (obs_cons (by first | omega | (simp only [List.length_cons, List.length_nil, List.length_drop, List.length_append, List.length_take]; omega) : (0 : Int) ≤ ((k : Nat) : Int) ∧ ((k : Nat) : Int) < ((s.length : Nat) : Int)) (obs_cons (decide_eq_true h4) (obs_cons (decide_eq_true h4) (obs_cons (decide_eq_true h4) (obs_cons (decide_eq_true h4) (obs_cons (decide_eq_true h4) obs_nil)))))) ?_
          refine T_then (b := true) rfl rfl ?_
          refine T_seq ?_
          refine T_r mixed [] [ps 2 (iv 0), ps 3 (bv false)] (obs_nil) ?_
          rw [refnum_byte (s := s) (i := 1) (k := k) hi hk1 (by omega) (nodig (.inl h4))]
          exact T_ret fun cx_ a_ hI_ => loop_ret (rt hc0 [ps 2 (iv 0), ps 3 (bv false)] [] hI_)
        refine T_r mixed [(5, .gd false (.no)), (6, .gd false (.no)), (7, .gd false (.no)), (8, .gd false (.no)), (9, .yes false)] [ps 0 (sv (st s)), ps 4 (iv 1), ps 5 (iv n), ps 6 (nv k), ps 31 (bv (decide (57 < (((s.getD k 0).toNat : Nat) : Int))))] (obs_cons (by first | omega | (simp only [List.length_cons, List.length_nil, List.length_drop, List.length_append, List.length_take]; omega) : (0 : Int) ≤ ((k : Nat) : Int) ∧ ((k : Nat) : Int) < ((s.length : Nat) : Int)) (obs_cons (decide_eq_false h4) (obs_cons (decide_eq_false h4) (obs_cons (decide_eq_false h4) (obs_cons (by first | omega | (simp only [List.length_cons, List.length_nil, List.length_drop, List.length_append, List.length_take]; omega) : (0 : Int) ≤ ((k : Nat) : Int) ∧ ((k : Nat) : Int) < ((s.length : Nat) : Int)) (obs_cons (decide_eq_false h4) (obs_cons (decide_eq_false h4) obs_nil))))))) ?_
        by_cases h5 : 57 < (((s.getD k 0).toNat : Nat) : Int)
        · refine T_th (decide_eq_true h5) ?_
          refine T_seq ?_
          refine T_r mixed [] [ps 2 (iv 0), ps 3 (bv false)] (obs_nil) ?_
          rw [refnum_byte (s := s) (i := 1) (k := k) hi hk1 (by omega) (nodig (.inr h5))]
          exact T_ret fun cx_ a_ hI_ => loop_ret (rt hc0 [ps 2 (iv 0), ps 3 (bv false)] [] hI_)
        refine T_el (decide_eq_false h5) ?_
        refine T_skip ?_
        refine T_r mixed [(1, .wrap), (5, .wrap), (6, .wrap), (7, .wrap)] [ps 0 (sv (st s)), ps 4 (iv 1), ps 5 (iv (IntKind.wrap .i64 ((IntKind.wrap .i64 (10 * n)) + (IntKind.wrap .i64 (IntKind.wrap .u8 ((((s.getD k 0).toNat : Nat) : Int) - 48)))))), ps 6 (nv k)] (obs_cons (by first | omega | (simp only [List.length_cons, List.length_nil, List.length_drop, List.length_append, List.length_take]; omega) : (0 : Int) ≤ ((k : Nat) : Int) ∧ ((k : Nat) : Int) < ((s.length : Nat) : Int)) obs_nil) ?_
        refine T_blk ?_
        refine T_r mixed [] [ps 0 (sv (st s)), ps 4 (iv 1), ps 5 (iv (IntKind.wrap .i64 ((IntKind.wrap .i64 (10 * n)) + (IntKind.wrap .i64 (IntKind.wrap .u8 ((((s.getD k 0).toNat : Nat) : Int) - 48)))))), ps 6 (iv (((k : Nat) : Int) + 1))] (obs_cons (by simp only [InK]; omega : InK .i64 (((k : Nat) : Int) + 1)) obs_nil) ?_
        have hts := take_snoc (s := s) hk1 (by omega)
        exact T_back ⟨(k + 1, decW1 n (s.getD k 0)), ⟨by show 1 ≤ k + 1; omega, by show k + 1 ≤ s.length; omega, by show ∀ b ∈ (s.take (k + 1)).drop 1, b ∈ digs; rw [hts]; intro b hb; rcases List.mem_append.1 hb with hb | hb; exact hd b hb; rw [List.mem_singleton.1 hb]; exact isdig h4 h5, by show decW1 n (s.getD k 0) = decW 0 ((s.take (k + 1)).drop 1); rw [hts, decW_snoc, ← hn]⟩⟩ (Wk.trans (Wk.eq (show _ = [ps 0 (sv (st s)), ps 4 (iv 1), ps 5 (iv (decW1 n (s.getD k 0))), ps 6 (nv (k + 1))] from by rfl)) (Wk.ren2 [ps 0 (sv (st s)), ps 4 (iv 1), ps 5 (iv (decW1 n (s.getD k 0))), ps 6 (nv (k + 1))] 0 hc0 [] rfl rfl (by kernel_rfl) (by kernel_rfl))) (show s.length - (k + 1) < s.length - k from by show s.length - (k + 1) < s.length - k; omega)
      refine T_el (decide_eq_false h3) ?_
      refine T_break rfl rfl ?_
      refine T_seq <| T_seq ?_
      have hk3 : k = s.length := by omega
      rw [hk3, List.take_length] at hd hn
      by_cases h6 : (((s.length : Nat) : Int) - 1) < 1
      · refine T_r mixed [(6, .gd true .no), (7, .gd true .no), (8, .gd true .no), (9, .gd true .no), (10, .gd true .no), (11, .yes true), (13, .gd true .no), (14, .gd true .no), (15, .gd true .no), (16, .gd true .no), (17, .gd true .no), (27, .gd true .no)] [ps 4 (iv 1), ps 5 (iv n), ps 68 (bv true)] (obs_cons (by simp only [InK]; omega : InK .i64 (((s.length : Nat) : Int) - 1)) (obs_cons (decide_eq_true h6) (obs_cons (decide_eq_true h6) (obs_cons (decide_eq_true h6) (obs_cons (decide_eq_true h6) (obs_cons (decide_eq_true h6) (obs_cons (decide_eq_true h6) (obs_cons (rfl : true = true) (obs_cons (rfl : true = true) (obs_cons (rfl : true = true) (obs_cons (rfl : true = true) (obs_cons (rfl : true = true) (obs_cons (rfl : true = true) obs_nil))))))))))))) ?_
        refine T_then (b := true) rfl rfl ?_
        refine T_seq ?_
        refine T_r mixed [] [ps 2 (iv 0), ps 3 (bv false)] (obs_nil) ?_
        rw [refnum_bad (s := s) (i := 1) hi (.inl (by omega))]
        exact T_ret fun cx_ a_ hI_ => rt hc0 [ps 2 (iv 0), ps 3 (bv false)] [] hI_
      by_cases h7 : 4 < (((s.length : Nat) : Int) - 1)
      · refine T_r mixed [(6, .gd false (.no)), (7, .gd false (.no)), (8, .gd false (.no)), (9, .gd false (.no)), (10, .gd false (.no)), (11, .yes false), (13, .gd true .no), (14, .gd true .no), (15, .gd true .no), (16, .gd true .no), (17, .gd true .no), (27, .gd true .no), (28, .yes true)] [ps 4 (iv 1), ps 5 (iv n), ps 68 (bv true)] (obs_cons (by simp only [InK]; omega : InK .i64 (((s.length : Nat) : Int) - 1)) (obs_cons (decide_eq_false h6) (obs_cons (decide_eq_false h6) (obs_cons (decide_eq_false h6) (obs_cons (decide_eq_false h6) (obs_cons (by simp only [InK]; omega : InK .i64 (((s.length : Nat) : Int) - 1)) (obs_cons (decide_eq_false h6) (obs_cons (decide_eq_false h6) (obs_cons (decide_eq_true h7) (obs_cons (decide_eq_true h7) (obs_cons (decide_eq_true h7) (obs_cons (decide_eq_true h7) (obs_cons (decide_eq_true h7) (obs_cons (decide_eq_true h7) (obs_cons (decide_eq_true h7) obs_nil))))))))))))))) ?_
        refine T_then (b := true) rfl rfl ?_
        refine T_seq ?_
        refine T_r mixed [] [ps 2 (iv 0), ps 3 (bv false)] (obs_nil) ?_
        rw [refnum_bad (s := s) (i := 1) hi (.inr (.inl (by omega)))]
        exact T_ret fun cx_ a_ hI_ => rt hc0 [ps 2 (iv 0), ps 3 (bv false)] [] hI_
      by_cases h8 : (((s.getD 1 0).toNat : Nat) : Int) = 48
      · by_cases h9 : 1 < (((s.length : Nat) : Int) - 1)
        · refine T_r mixed [(6, .gd false (.no)), (7, .gd false (.no)), (8, .gd false (.no)), (9, .gd false (.no)), (10, .gd false (.no)), (11, .yes false), (13, .gd false (.no)), (14, .gd false (.no)), (15, .gd false (.no)), (16, .gd false (.no)), (17, .gd false (.no)), (18, .gd true (.no)), (19, .gd true (.no)), (20, .gd true (.no)), (21, .gd true (.no)), (22, .gd true (.no)), (23, .gd true (.no)), (24, .gd true .no), (25, .gd true .no), (26, .gd true (.yes true)), (27, .gd false (.yes true)), (28, .yes false)] [ps 4 (iv 1), ps 5 (iv n), ps 68 (bv true)] (obs_cons (by simp only [InK]; omega : InK .i64 (((s.length : Nat) : Int) - 1)) (obs_cons (decide_eq_false h6) (obs_cons (decide_eq_false h6) (obs_cons (decide_eq_false h6) (obs_cons (decide_eq_false h6) (obs_cons (by simp only [InK]; omega : InK .i64 (((s.length : Nat) : Int) - 1)) (obs_cons (decide_eq_false h6) (obs_cons (decide_eq_false h6) (obs_cons (decide_eq_false h7) (obs_cons (decide_eq_false h7) (obs_cons (decide_eq_false h7) (obs_cons (by first | omega | (simp only [List.length_cons, List.length_nil, List.length_drop, List.length_append, List.length_take]; omega) : (0 : Int) ≤ 1 ∧ 1 < ((s.length : Nat) : Int)) (obs_cons (decide_eq_false h7) (obs_cons (decide_eq_false h7) (obs_cons (decide_eq_true h8) (obs_cons (decide_eq_true h8) (obs_cons (decide_eq_true h8) (obs_cons (decide_eq_true h8) (obs_cons (by simp only [InK]; omega : InK .i64 (((s.length : Nat) : Int) - 1)) (obs_cons (decide_eq_true h8) (obs_cons (decide_eq_true h8) (obs_cons (decide_eq_true h9) (obs_cons (decide_eq_true h9) (obs_cons (decide_eq_true h8) (obs_cons (decide_eq_true h9) (obs_cons (decide_eq_false h7) (obs_cons (decide_eq_true h8) (obs_cons (decide_eq_false h7) obs_nil)))))))))))))))))))))))))))) ?_
          refine T_then (b := true) rfl rfl ?_
          refine T_seq ?_
          refine T_r mixed [] [ps 2 (iv 0), ps 3 (bv false)] (obs_nil) ?_
          rw [refnum_bad (s := s) (i := 1) hi (.inr (.inr ⟨h8, by omega⟩))]
          exact T_ret fun cx_ a_ hI_ => rt hc0 [ps 2 (iv 0), ps 3 (bv false)] [] hI_
        refine T_r mixed [(6, .gd false (.no)), (7, .gd false (.no)), (8, .gd false (.no)), (9, .gd false (.no)), (10, .gd false (.no)), (11, .yes false), (13, .gd false (.no)), (14, .gd false (.no)), (15, .gd false (.no)), (16, .gd false (.no)), (17, .gd false (.no)), (18, .gd true (.no)), (19, .gd true (.no)), (20, .gd true (.no)), (21, .gd true (.no)), (22, .gd true (.no)), (23, .gd true (.no)), (24, .gd false (.no)), (25, .gd false (.no)), (26, .gd true (.yes false)), (27, .gd false (.yes true)), (28, .yes false)] [ps 4 (iv 1), ps 5 (iv n), ps 68 (bv true)] (obs_cons (by simp only [InK]; omega : InK .i64 (((s.length : Nat) : Int) - 1)) (obs_cons (decide_eq_false h6) (obs_cons (decide_eq_false h6) (obs_cons (decide_eq_false h6) (obs_cons (decide_eq_false h6) (obs_cons (by simp only [InK]; omega : InK .i64 (((s.length : Nat) : Int) - 1)) (obs_cons (decide_eq_false h6) (obs_cons (decide_eq_false h6) (obs_cons (decide_eq_false h7) (obs_cons (decide_eq_false h7) (obs_cons (decide_eq_false h7) (obs_cons (by first | omega | (simp only [List.length_cons, List.length_nil, List.length_drop, List.length_append, List.length_take]; omega) : (0 : Int) ≤ 1 ∧ 1 < ((s.length : Nat) : Int)) (obs_cons (decide_eq_false h7) (obs_cons (decide_eq_false h7) (obs_cons (decide_eq_true h8) (obs_cons (decide_eq_true h8) (obs_cons (decide_eq_true h8) (obs_cons (decide_eq_true h8) (obs_cons (by simp only [InK]; omega : InK .i64 (((s.length : Nat) : Int) - 1)) (obs_cons (decide_eq_true h8) (obs_cons (decide_eq_true h8) (obs_cons (decide_eq_false h9) (obs_cons (decide_eq_false h9) (obs_cons (decide_eq_true h8) (obs_cons (decide_eq_false h9) (obs_cons (decide_eq_false h7) (obs_cons (decide_eq_true h8) (obs_cons (decide_eq_false h7) obs_nil)))))))))))))))))))))))))))) ?_
        refine T_then (b := true) rfl rfl ?_
        refine T_seq ?_
        refine T_r mixed [] [ps 2 (iv 0), ps 3 (bv false)] (obs_nil) ?_
        rw [refnum_bad (s := s) (i := 1) hi (.inr (.inr ⟨h8, by omega⟩))]
        exact T_ret fun cx_ a_ hI_ => rt hc0 [ps 2 (iv 0), ps 3 (bv false)] [] hI_
      refine T_r mixed [(6, .gd false (.no)), (7, .gd false (.no)), (8, .gd false (.no)), (9, .gd false (.no)), (10, .gd false (.no)), (11, .yes false), (13, .gd false (.no)), (14, .gd false (.no)), (15, .gd false (.no)), (16, .gd false (.no)), (17, .gd false (.no)), (18, .gd false .no), (19, .gd false .no), (20, .gd false .no), (21, .gd false .no), (22, .gd false .no), (23, .gd false .no), (26, .gd false .no), (27, .gd false (.yes false)), (28, .yes false)] [ps 4 (iv 1), ps 5 (iv n), ps 68 (bv false)] (obs_cons (by simp only [InK]; omega : InK .i64 (((s.length : Nat) : Int) - 1)) (obs_cons (decide_eq_false h6) (obs_cons (decide_eq_false h6) (obs_cons (decide_eq_false h6) (obs_cons (decide_eq_false h6) (obs_cons (by simp only [InK]; omega : InK .i64 (((s.length : Nat) : Int) - 1)) (obs_cons (decide_eq_false h6) (obs_cons (decide_eq_false h6) (obs_cons (decide_eq_false h7) (obs_cons (decide_eq_false h7) (obs_cons (decide_eq_false h7) (obs_cons (by first | omega | (simp only [List.length_cons, List.length_nil, List.length_drop, List.length_append, List.length_take]; omega) : (0 : Int) ≤ 1 ∧ 1 < ((s.length : Nat) : Int)) (obs_cons (decide_eq_false h7) (obs_cons (decide_eq_false h7) (obs_cons (decide_eq_false h8) (obs_cons (decide_eq_false h8) (obs_cons (decide_eq_false h8) (obs_cons (decide_eq_false h8) (obs_cons (decide_eq_false h8) (obs_cons (decide_eq_false h8) (obs_cons (decide_eq_false h8) (obs_cons (decide_eq_false h7) (obs_cons (decide_eq_false h8) (obs_cons (decide_eq_false h7) obs_nil)))))))))))))))))))))))) ?_
      refine T_else (b := false) rfl rfl ?_
      refine T_skip <| T_seq <| T_seq ?_
      refine T_r mixed [] [ps 5 (iv n), ps 70 (bv true)] (obs_nil) ?_
      refine T_then (b := true) rfl rfl ?_
      have hb := num_bd2 (i := 1) hn hd (by omega) (by omega)
      refine T_r mixed [] [ps 5 (iv (0 - n))] (obs_cons (by simp only [InK]; omega : InK .i64 (0 - n)) obs_nil) ?_
      refine T_seq ?_
      refine T_r mixed [] [ps 2 (iv (0 - n)), ps 3 (bv true)] (obs_nil) ?_
      rw [refnum_ok (s := s) (i := 1) hi hn hd (by omega) (by omega) (fun c => h8 c.1), if_pos rfl]
      exact T_ret fun cx_ a_ hI_ => rt hc0 [ps 2 (iv (0 - n)), ps 3 (bv true)] [] hI_
    refine T_el (decide_eq_false h2) ?_
    refine T_skip <| T_seq ?_
    refine T_r mixed [] [ps 0 (sv (st s)), ps 4 (iv 0), ps 5 (iv 0)] (obs_nil) ?_
    refine T_seq <| T_seq ?_
    have hi : ((0 : Nat) = 1 ∧ Lib.hasPrefix s [45] = true) ∨ ((0 : Nat) = 0 ∧ Lib.hasPrefix s [45] = false) := .inr ⟨rfl, (by rw [min_head (by omega)]; exact decide_eq_false h2)⟩
    refine T_r mixed [] [ps 0 (sv (st s)), ps 4 (iv 0), ps 5 (iv 0), ps 6 (iv 0)] (obs_nil) ?_
    refine T_block ?_
    refine T_loop (α := {x : Nat × Int // 0 ≤ x.1 ∧ x.1 ≤ s.length ∧ (∀ b ∈ (s.take x.1).drop 0, b ∈ digs) ∧ x.2 = decW 0 ((s.take x.1).drop 0)}) (fun x => [ps 0 (sv (st s)), ps 4 (iv 0), ps 5 (iv x.1.2), ps 6 (nv x.1.1)]) (fun x => s.length - x.1.1) 0 ⟨(0, 0), ⟨Nat.le_refl _, by show 0 ≤ s.length; omega, by show ∀ b ∈ (s.take 0).drop 0, b ∈ digs; rw [List.drop_eq_nil_of_le (show (s.take 0).length ≤ 0 from by rw [List.length_take]; omega)]; simp, by show 0 = decW 0 ((s.take 0).drop 0); rw [List.drop_eq_nil_of_le (show (s.take 0).length ≤ 0 from by rw [List.length_take]; omega)]; rfl⟩⟩ (Wk.ren2 [ps 0 (sv (st s)), ps 4 (iv 0), ps 5 (iv (0 : Int)), ps 6 (nv 0)] 0 hc0 [] rfl rfl (by kernel_rfl) (by kernel_rfl)) ?_
    rintro ⟨⟨k, n⟩, ⟨hk1, hk2, hd, hn⟩⟩
    dsimp only at hk1 hk2 hd hn
    refine T_seq <| T_seq ?_
    refine T_r mixed [] [ps 0 (sv (st s)), ps 4 (iv 0), ps 5 (iv n), ps 6 (nv k), ps 19 (bv (decide (((k : Nat) : Int) < ((s.length : Nat) : Int))))] (obs_nil) ?_
    by_cases h10 : ((k : Nat) : Int) < ((s.length : Nat) : Int)
    · refine T_th (decide_eq_true h10) ?_
      refine T_skip <| T_seq <| T_block <| T_seq <| T_seq ?_
      by_cases h11 : (((s.getD k 0).toNat : Nat) : Int) < 48
      · refine T_r mixed [(5, .gd true .no), (6, .gd true .no), (7, .gd true .no), (8, .gd true .no), (9, .yes true)] [ps 0 (sv (st s)), ps 4 (iv 0), ps 5 (iv n), ps 6 (nv k), ps 31 (bv true)] (obs_cons (by first | omega | (simp only [List.length_cons, List.length_nil, List.length_drop, List.length_append, List.length_take]; omega) : (0 : Int) ≤ ((k : Nat) : Int) ∧ ((k : Nat) : Int) < ((s.length : Nat) : Int)) (obs_cons (decide_eq_true h11) (obs_cons (decide_eq_true h11) (obs_cons (decide_eq_true h11) (obs_cons (decide_eq_true h11) (obs_cons (decide_eq_true h11) obs_nil)))))) ?_
        refine T_then (b := true) rfl rfl ?_
        refine T_seq ?_
        refine T_r mixed [] [ps 2 (iv 0), ps 3 (bv false)] (obs_nil) ?_
        rw [refnum_byte (s := s) (i := 0) (k := k) hi hk1 (by omega) (nodig (.inl h11))]
        exact T_ret fun cx_ a_ hI_ => loop_ret (rt hc0 [ps 2 (iv 0), ps 3 (bv false)] [] hI_)
      refine T_r mixed [(5, .gd false (.no)), (6, .gd false (.no)), (7, .gd false (.no)), (8, .gd false (.no)), (9, .yes false)] [ps 0 (sv (st s)), ps 4 (iv 0), ps 5 (iv n), ps 6 (nv k), ps 31 (bv (decide (57 < (((s.getD k 0).toNat : Nat) : Int))))] (obs_cons (by first | omega | (simp only [List.length_cons, List.length_nil, List.length_drop, List.length_append, List.length_take]; omega) : (0 : Int) ≤ ((k : Nat) : Int) ∧ ((k : Nat) : Int) < ((s.length : Nat) : Int)) (obs_cons (decide_eq_false h11) (obs_cons (decide_eq_false h11) (obs_cons (decide_eq_false h11) (obs_cons (by first | omega | (simp only [List.length_cons, List.length_nil, List.length_drop, List.length_append, List.length_take]; omega) : (0 : Int) ≤ ((k : Nat) : Int) ∧ ((k : Nat) : Int) < ((s.length : Nat) : Int)) (obs_cons (decide_eq_false h11) (obs_cons (decide_eq_false h11) obs_nil))))))) ?_
      by_cases h12 : 57 < (((s.getD k 0).toNat : Nat) : Int)
      · refine T_th (decide_eq_true h12) ?_
        refine T_seq ?_
        refine T_r mixed [] [ps 2 (iv 0), ps 3 (bv false)] (obs_nil) ?_
        rw [refnum_byte (s := s) (i := 0) (k := k) hi hk1 (by omega) (nodig (.inr h12))]
        exact T_ret fun cx_ a_ hI_ => loop_ret (rt hc0 [ps 2 (iv 0), ps 3 (bv false)] [] hI_)
      refine T_el (decide_eq_false h12) ?_
      refine T_skip ?_
      refine T_r mixed [(1, .wrap), (5, .wrap), (6, .wrap), (7, .wrap)] [ps 0 (sv (st s)), ps 4 (iv 0), ps 5 (iv (IntKind.wrap .i64 ((IntKind.wrap .i64 (10 * n)) + (IntKind.wrap .i64 (IntKind.wrap .u8 ((((s.getD k 0).toNat : Nat) : Int) - 48)))))), ps 6 (nv k)] (obs_cons (by first | omega | (simp only [List.length_cons, List.length_nil, List.length_drop, List.length_append, List.length_take]; omega) : (0 : Int) ≤ ((k : Nat) : Int) ∧ ((k : Nat) : Int) < ((s.length : Nat) : Int)) obs_nil) ?_
      refine T_blk ?_
      refine T_r mixed [] [ps 0 (sv (st s)), ps 4 (iv 0), ps 5 (iv (IntKind.wrap .i64 ((IntKind.wrap .i64 (10 * n)) + (IntKind.wrap .i64 (IntKind.wrap .u8 ((((s.getD k 0).toNat : Nat) : Int) - 48)))))), ps 6 (iv (((k : Nat) : Int) + 1))] (obs_cons (by simp only [InK]; omega : InK .i64 (((k : Nat) : Int) + 1)) obs_nil) ?_
      have hts := take_snoc (s := s) hk1 (by omega)
      exact T_back ⟨(k + 1, decW1 n (s.getD k 0)), ⟨by show 0 ≤ k + 1; omega, by show k + 1 ≤ s.length; omega, by show ∀ b ∈ (s.take (k + 1)).drop 0, b ∈ digs; rw [hts]; intro b hb; rcases List.mem_append.1 hb with hb | hb; exact hd b hb; rw [List.mem_singleton.1 hb]; exact isdig h11 h12, by show decW1 n (s.getD k 0) = decW 0 ((s.take (k + 1)).drop 0); rw [hts, decW_snoc, ← hn]⟩⟩ (Wk.trans (Wk.eq (show _ = [ps 0 (sv (st s)), ps 4 (iv 0), ps 5 (iv (decW1 n (s.getD k 0))), ps 6 (nv (k + 1))] from by rfl)) (Wk.ren2 [ps 0 (sv (st s)), ps 4 (iv 0), ps 5 (iv (decW1 n (s.getD k 0))), ps 6 (nv (k + 1))] 0 hc0 [] rfl rfl (by kernel_rfl) (by kernel_rfl))) (show s.length - (k + 1) < s.length - k from by show s.length - (k + 1) < s.length - k; omega)
    refine T_el (decide_eq_false h10) ?_
    refine T_break rfl rfl ?_
    refine T_seq <| T_seq ?_
    have hk3 : k = s.length := by omega
    rw [hk3, List.take_length] at hd hn
    by_cases h13 : (((s.length : Nat) : Int) - 0) < 1
    · refine T_r mixed [(6, .gd true .no), (7, .gd true .no), (8, .gd true .no), (9, .gd true .no), (10, .gd true .no), (11, .yes true), (13, .gd true .no), (14, .gd true .no), (15, .gd true .no), (16, .gd true .no), (17, .gd true .no), (27, .gd true .no)] [ps 4 (iv 0), ps 5 (iv n), ps 68 (bv true)] (obs_cons (by simp only [InK]; omega : InK .i64 (((s.length : Nat) : Int) - 0)) (obs_cons (decide_eq_true h13) (obs_cons (decide_eq_true h13) (obs_cons (decide_eq_true h13) (obs_cons (decide_eq_true h13) (obs_cons (decide_eq_true h13) (obs_cons (decide_eq_true h13) (obs_cons (rfl : true = true) (obs_cons (rfl : true = true) (obs_cons (rfl : true = true) (obs_cons (rfl : true = true) (obs_cons (rfl : true = true) (obs_cons (rfl : true = true) obs_nil))))))))))))) ?_
      refine T_then (b := true) rfl rfl ?_
      refine T_seq ?_
      refine T_r mixed [] [ps 2 (iv 0), ps 3 (bv false)] (obs_nil) ?_
      rw [refnum_bad (s := s) (i := 0) hi (.inl (by omega))]
      exact T_ret fun cx_ a_ hI_ => rt hc0 [ps 2 (iv 0), ps 3 (bv false)] [] hI_
    by_cases h14 : 4 < (((s.length : Nat) : Int) - 0)
    · refine T_r mixed [(6, .gd false (.no)), (7, .gd false (.no)), (8, .gd false (.no)), (9, .gd false (.no)), (10, .gd false (.no)), (11, .yes false), (13, .gd true .no), (14, .gd true .no), (15, .gd true .no), (16, .gd true .no), (17, .gd true .no), (27, .gd true .no), (28, .yes true)] [ps 4 (iv 0), ps 5 (iv n), ps 68 (bv true)] (obs_cons (by simp only [InK]; omega : InK .i64 (((s.length : Nat) : Int) - 0)) (obs_cons (decide_eq_false h13) (obs_cons (decide_eq_false h13) (obs_cons (decide_eq_false h13) (obs_cons (decide_eq_false h13) (obs_cons (by simp only [InK]; omega : InK .i64 (((s.length : Nat) : Int) - 0)) (obs_cons (decide_eq_false h13) (obs_cons (decide_eq_false h13) (obs_cons (decide_eq_true h14) (obs_cons (decide_eq_true h14) (obs_cons (decide_eq_true h14) (obs_cons (decide_eq_true h14) (obs_cons (decide_eq_true h14) (obs_cons (decide_eq_true h14) (obs_cons (decide_eq_true h14) obs_nil))))))))))))))) ?_
      refine T_then (b := true) rfl rfl ?_
      refine T_seq ?_
      refine T_r mixed [] [ps 2 (iv 0), ps 3 (bv false)] (obs_nil) ?_
      rw [refnum_bad (s := s) (i := 0) hi (.inr (.inl (by omega)))]
      exact T_ret fun cx_ a_ hI_ => rt hc0 [ps 2 (iv 0), ps 3 (bv false)] [] hI_
    by_cases h15 : (((s.getD 0 0).toNat : Nat) : Int) = 48
    · by_cases h16 : 1 < (((s.length : Nat) : Int) - 0)
      · refine T_r mixed [(6, .gd false (.no)), (7, .gd false (.no)), (8, .gd false (.no)), (9, .gd false (.no)), (10, .gd false (.no)), (11, .yes false), (13, .gd false (.no)), (14, .gd false (.no)), (15, .gd false (.no)), (16, .gd false (.no)), (17, .gd false (.no)), (18, .gd true (.no)), (19, .gd true (.no)), (20, .gd true (.no)), (21, .gd true (.no)), (22, .gd true (.no)), (23, .gd true (.no)), (24, .gd true .no), (25, .gd true .no), (26, .gd true (.yes true)), (27, .gd false (.yes true)), (28, .yes false)] [ps 4 (iv 0), ps 5 (iv n), ps 68 (bv true)] (obs_cons (by simp only [InK]; omega : InK .i64 (((s.length : Nat) : Int) - 0)) (obs_cons (decide_eq_false h13) (obs_cons (decide_eq_false h13) (obs_cons (decide_eq_false h13) (obs_cons (decide_eq_false h13) (obs_cons (by simp only [InK]; omega : InK .i64 (((s.length : Nat) : Int) - 0)) (obs_cons (decide_eq_false h13) (obs_cons (decide_eq_false h13) (obs_cons (decide_eq_false h14) (obs_cons (decide_eq_false h14) (obs_cons (decide_eq_false h14) (obs_cons (by first | omega | (simp only [List.length_cons, List.length_nil, List.length_drop, List.length_append, List.length_take]; omega) : (0 : Int) ≤ 0 ∧ 0 < ((s.length : Nat) : Int)) (obs_cons (decide_eq_false h14) (obs_cons (decide_eq_false h14) (obs_cons (decide_eq_true h15) (obs_cons (decide_eq_true h15) (obs_cons (decide_eq_true h15) (obs_cons (decide_eq_true h15) (obs_cons (by simp only [InK]; omega : InK .i64 (((s.length : Nat) : Int) - 0)) (obs_cons (decide_eq_true h15) (obs_cons (decide_eq_true h15) (obs_cons (decide_eq_true h16) (obs_cons (decide_eq_true h16) (obs_cons (decide_eq_true h15) (obs_cons (decide_eq_true h16) (obs_cons (decide_eq_false h14) (obs_cons (decide_eq_true h15) (obs_cons (decide_eq_false h14) obs_nil)))))))))))))))))))))))))))) ?_
        refine T_then (b := true) rfl rfl ?_
        refine T_seq ?_
        refine T_r mixed [] [ps 2 (iv 0), ps 3 (bv false)] (obs_nil) ?_
        rw [refnum_bad (s := s) (i := 0) hi (.inr (.inr ⟨h15, by omega⟩))]
        exact T_ret fun cx_ a_ hI_ => rt hc0 [ps 2 (iv 0), ps 3 (bv false)] [] hI_
      refine T_r mixed [(6, .gd false (.no)), (7, .gd false (.no)), (8, .gd false (.no)), (9, .gd false (.no)), (10, .gd false (.no)), (11, .yes false), (13, .gd false (.no)), (14, .gd false (.no)), (15, .gd false (.no)), (16, .gd false (.no)), (17, .gd false (.no)), (18, .gd true (.no)), (19, .gd true (.no)), (20, .gd true (.no)), (21, .gd true (.no)), (22, .gd true (.no)), (23, .gd true (.no)), (24, .gd false (.no)), (25, .gd false (.no)), (26, .gd true (.yes false)), (27, .gd false (.yes true)), (28, .yes false)] [ps 4 (iv 0), ps 5 (iv n), ps 68 (bv false)] (obs_cons (by simp only [InK]; omega : InK .i64 (((s.length : Nat) : Int) - 0)) (obs_cons (decide_eq_false h13) (obs_cons (decide_eq_false h13) (obs_cons (decide_eq_false h13) (obs_cons (decide_eq_false h13) (obs_cons (by simp only [InK]; omega : InK .i64 (((s.length : Nat) : Int) - 0)) (obs_cons (decide_eq_false h13) (obs_cons (decide_eq_false h13) (obs_cons (decide_eq_false h14) (obs_cons (decide_eq_false h14) (obs_cons (decide_eq_false h14) (obs_cons (by first | omega | (simp only [List.length_cons, List.length_nil, List.length_drop, List.length_append, List.length_take]; omega) : (0 : Int) ≤ 0 ∧ 0 < ((s.length : Nat) : Int)) (obs_cons (decide_eq_false h14) (obs_cons (decide_eq_false h14) (obs_cons (decide_eq_true h15) (obs_cons (decide_eq_true h15) (obs_cons (decide_eq_true h15) (obs_cons (decide_eq_true h15) (obs_cons (by simp only [InK]; omega : InK .i64 (((s.length : Nat) : Int) - 0)) (obs_cons (decide_eq_true h15) (obs_cons (decide_eq_true h15) (obs_cons (decide_eq_false h16) (obs_cons (decide_eq_false h16) (obs_cons (decide_eq_true h15) (obs_cons (decide_eq_false h16) (obs_cons (decide_eq_false h14) (obs_cons (decide_eq_true h15) (obs_cons (decide_eq_false h14) obs_nil)))))))))))))))))))))))))))) ?_
      refine T_else (b := false) rfl rfl ?_
      refine T_skip <| T_seq <| T_seq ?_
      refine T_r mixed [] [ps 5 (iv n), ps 70 (bv false)] (obs_nil) ?_
      refine T_else (b := false) rfl rfl ?_
      refine T_skip <| T_seq ?_
      refine T_r mixed [] [ps 2 (iv n), ps 3 (bv true)] (obs_nil) ?_
      rw [refnum_ok (s := s) (i := 0) hi hn hd (by omega) (by omega) (fun c => by omega), if_neg (by decide)]
      exact T_ret fun cx_ a_ hI_ => rt hc0 [ps 2 (iv n), ps 3 (bv true)] [] hI_
    refine T_r mixed [(6, .gd false (.no)), (7, .gd false (.no)), (8, .gd false (.no)), (9, .gd false (.no)), (10, .gd false (.no)), (11, .yes false), (13, .gd false (.no)), (14, .gd false (.no)), (15, .gd false (.no)), (16, .gd false (.no)), (17, .gd false (.no)), (18, .gd false .no), (19, .gd false .no), (20, .gd false .no), (21, .gd false .no), (22, .gd false .no), (23, .gd false .no), (26, .gd false .no), (27, .gd false (.yes false)), (28, .yes false)] [ps 4 (iv 0), ps 5 (iv n), ps 68 (bv false)] (obs_cons (by simp only [InK]; omega : InK .i64 (((s.length : Nat) : Int) - 0)) (obs_cons (decide_eq_false h13) (obs_cons (decide_eq_false h13) (obs_cons (decide_eq_false h13) (obs_cons (decide_eq_false h13) (obs_cons (by simp only [InK]; omega : InK .i64 (((s.length : Nat) : Int) - 0)) (obs_cons (decide_eq_false h13) (obs_cons (decide_eq_false h13) (obs_cons (decide_eq_false h14) (obs_cons (decide_eq_false h14) (obs_cons (decide_eq_false h14) (obs_cons (by first | omega | (simp only [List.length_cons, List.length_nil, List.length_drop, List.length_append, List.length_take]; omega) : (0 : Int) ≤ 0 ∧ 0 < ((s.length : Nat) : Int)) (obs_cons (decide_eq_false h14) (obs_cons (decide_eq_false h14) (obs_cons (decide_eq_false h15) (obs_cons (decide_eq_false h15) (obs_cons (decide_eq_false h15) (obs_cons (decide_eq_false h15) (obs_cons (decide_eq_false h15) (obs_cons (decide_eq_false h15) (obs_cons (decide_eq_false h15) (obs_cons (decide_eq_false h14) (obs_cons (decide_eq_false h15) (obs_cons (decide_eq_false h14) obs_nil)))))))))))))))))))))))) ?_
    refine T_else (b := false) rfl rfl ?_
    refine T_skip <| T_seq <| T_seq ?_
    refine T_r mixed [] [ps 5 (iv n), ps 70 (bv false)] (obs_nil) ?_
    refine T_else (b := false) rfl rfl ?_
    refine T_skip <| T_seq ?_
    refine T_r mixed [] [ps 2 (iv n), ps 3 (bv true)] (obs_nil) ?_
    rw [refnum_ok (s := s) (i := 0) hi hn hd (by omega) (by omega) (fun c => h15 c.1), if_neg (by decide)]
    exact T_ret fun cx_ a_ hI_ => rt hc0 [ps 2 (iv n), ps 3 (bv true)] [] hI_
  refine T_r mixed [(4, .gd false .no), (5, .gd false .no), (6, .gd false .no), (7, .yes false)] [ps 0 (sv (st s)), ps 4 (iv 0), ps 14 (bv false)] (obs_cons (decide_eq_false h1) (obs_cons (decide_eq_false h1) (obs_cons (decide_eq_false h1) (obs_cons (decide_eq_false h1) obs_nil)))) ?_
  refine T_else (b := false) rfl rfl ?_
  refine T_skip <| T_seq ?_
  refine T_r mixed [] [ps 0 (sv (st s)), ps 4 (iv 0), ps 5 (iv 0)] (obs_nil) ?_
  refine T_seq <| T_seq ?_
  have hi : ((0 : Nat) = 1 ∧ Lib.hasPrefix s [45] = true) ∨ ((0 : Nat) = 0 ∧ Lib.hasPrefix s [45] = false) := .inr ⟨rfl, (by rw [show s = [] from List.eq_nil_of_length_eq_zero (by omega)]; rfl)⟩
  refine T_r mixed [] [ps 0 (sv (st s)), ps 4 (iv 0), ps 5 (iv 0), ps 6 (iv 0)] (obs_nil) ?_
  refine T_block ?_
  refine T_loop (α := {x : Nat × Int // 0 ≤ x.1 ∧ x.1 ≤ s.length ∧ (∀ b ∈ (s.take x.1).drop 0, b ∈ digs) ∧ x.2 = decW 0 ((s.take x.1).drop 0)}) (fun x => [ps 0 (sv (st s)), ps 4 (iv 0), ps 5 (iv x.1.2), ps 6 (nv x.1.1)]) (fun x => s.length - x.1.1) 0 ⟨(0, 0), ⟨Nat.le_refl _, by show 0 ≤ s.length; omega, by show ∀ b ∈ (s.take 0).drop 0, b ∈ digs; rw [List.drop_eq_nil_of_le (show (s.take 0).length ≤ 0 from by rw [List.length_take]; omega)]; simp, by show 0 = decW 0 ((s.take 0).drop 0); rw [List.drop_eq_nil_of_le (show (s.take 0).length ≤ 0 from by rw [List.length_take]; omega)]; rfl⟩⟩ (Wk.ren2 [ps 0 (sv (st s)), ps 4 (iv 0), ps 5 (iv (0 : Int)), ps 6 (nv 0)] 0 hc0 [] rfl rfl (by kernel_rfl) (by kernel_rfl)) ?_
  rintro ⟨⟨k, n⟩, ⟨hk1, hk2, hd, hn⟩⟩
  dsimp only at hk1 hk2 hd hn
  refine T_seq <| T_seq ?_
  refine T_r mixed [] [ps 0 (sv (st s)), ps 4 (iv 0), ps 5 (iv n), ps 6 (nv k), ps 19 (bv (decide (((k : Nat) : Int) < ((s.length : Nat) : Int))))] (obs_nil) ?_
  by_cases h17 : ((k : Nat) : Int) < ((s.length : Nat) : Int)
  · refine T_th (decide_eq_true h17) ?_
    refine T_skip <| T_seq <| T_block <| T_seq <| T_seq ?_
    by_cases h18 : (((s.getD k 0).toNat : Nat) : Int) < 48
    · refine T_r mixed [(5, .gd true .no), (6, .gd true .no), (7, .gd true .no), (8, .gd true .no), (9, .yes true)] [ps 0 (sv (st s)), ps 4 (iv 0), ps 5 (iv n), ps 6 (nv k), ps 31 (bv true)] (obs_cons (by first | omega | (simp only [List.length_cons, List.length_nil, List.length_drop, List.length_append, List.length_take]; omega) : (0 : Int) ≤ ((k : Nat) : Int) ∧ ((k : Nat) : Int) < ((s.length : Nat) : Int)) (obs_cons (decide_eq_true h18) (obs_cons (decide_eq_true h18) (obs_cons (decide_eq_true h18) (obs_cons (decide_eq_true h18) (obs_cons (decide_eq_true h18) obs_nil)))))) ?_
      refine T_then (b := true) rfl rfl ?_
      refine T_seq ?_
      refine T_r mixed [] [ps 2 (iv 0), ps 3 (bv false)] (obs_nil) ?_
      rw [refnum_byte (s := s) (i := 0) (k := k) hi hk1 (by omega) (nodig (.inl h18))]
      exact T_ret fun cx_ a_ hI_ => loop_ret (rt hc0 [ps 2 (iv 0), ps 3 (bv false)] [] hI_)
    refine T_r mixed [(5, .gd false (.no)), (6, .gd false (.no)), (7, .gd false (.no)), (8, .gd false (.no)), (9, .yes false)] [ps 0 (sv (st s)), ps 4 (iv 0), ps 5 (iv n), ps 6 (nv k), ps 31 (bv (decide (57 < (((s.getD k 0).toNat : Nat) : Int))))] (obs_cons (by first | omega | (simp only [List.length_cons, List.length_nil, List.length_drop, List.length_append, List.length_take]; omega) : (0 : Int) ≤ ((k : Nat) : Int) ∧ ((k : Nat) : Int) < ((s.length : Nat) : Int)) (obs_cons (decide_eq_false h18) (obs_cons (decide_eq_false h18) (obs_cons (decide_eq_false h18) (obs_cons (by first | omega | (simp only [List.length_cons, List.length_nil, List.length_drop, List.length_append, List.length_take]; omega) : (0 : Int) ≤ ((k : Nat) : Int) ∧ ((k : Nat) : Int) < ((s.length : Nat) : Int)) (obs_cons (decide_eq_false h18) (obs_cons (decide_eq_false h18) obs_nil))))))) ?_
    by_cases h19 : 57 < (((s.getD k 0).toNat : Nat) : Int)
    · refine T_th (decide_eq_true h19) ?_
      refine T_seq ?_
      refine T_r mixed [] [ps 2 (iv 0), ps 3 (bv false)] (obs_nil) ?_
      rw [refnum_byte (s := s) (i := 0) (k := k) hi hk1 (by omega) (nodig (.inr h19))]
      exact T_ret fun cx_ a_ hI_ => loop_ret (rt hc0 [ps 2 (iv 0), ps 3 (bv false)] [] hI_)
    refine T_el (decide_eq_false h19) ?_
    refine T_skip ?_
    refine T_r mixed [(1, .wrap), (5, .wrap), (6, .wrap), (7, .wrap)] [ps 0 (sv (st s)), ps 4 (iv 0), ps 5 (iv (IntKind.wrap .i64 ((IntKind.wrap .i64 (10 * n)) + (IntKind.wrap .i64 (IntKind.wrap .u8 ((((s.getD k 0).toNat : Nat) : Int) - 48)))))), ps 6 (nv k)] (obs_cons (by first | omega | (simp only [List.length_cons, List.length_nil, List.length_drop, List.length_append, List.length_take]; omega) : (0 : Int) ≤ ((k : Nat) : Int) ∧ ((k : Nat) : Int) < ((s.length : Nat) : Int)) obs_nil) ?_
    refine T_blk ?_
    refine T_r mixed [] [ps 0 (sv (st s)), ps 4 (iv 0), ps 5 (iv (IntKind.wrap .i64 ((IntKind.wrap .i64 (10 * n)) + (IntKind.wrap .i64 (IntKind.wrap .u8 ((((s.getD k 0).toNat : Nat) : Int) - 48)))))), ps 6 (iv (((k : Nat) : Int) + 1))] (obs_cons (by simp only [InK]; omega : InK .i64 (((k : Nat) : Int) + 1)) obs_nil) ?_
    have hts := take_snoc (s := s) hk1 (by omega)
    exact T_back ⟨(k + 1, decW1 n (s.getD k 0)), ⟨by show 0 ≤ k + 1; omega, by show k + 1 ≤ s.length; omega, by show ∀ b ∈ (s.take (k + 1)).drop 0, b ∈ digs; rw [hts]; intro b hb; rcases List.mem_append.1 hb with hb | hb; exact hd b hb; rw [List.mem_singleton.1 hb]; exact isdig h18 h19, by show decW1 n (s.getD k 0) = decW 0 ((s.take (k + 1)).drop 0); rw [hts, decW_snoc, ← hn]⟩⟩ (Wk.trans (Wk.eq (show _ = [ps 0 (sv (st s)), ps 4 (iv 0), ps 5 (iv (decW1 n (s.getD k 0))), ps 6 (nv (k + 1))] from by rfl)) (Wk.ren2 [ps 0 (sv (st s)), ps 4 (iv 0), ps 5 (iv (decW1 n (s.getD k 0))), ps 6 (nv (k + 1))] 0 hc0 [] rfl rfl (by kernel_rfl) (by kernel_rfl))) (show s.length - (k + 1) < s.length - k from by show s.length - (k + 1) < s.length - k; omega)
  refine T_el (decide_eq_false h17) ?_
  refine T_break rfl rfl ?_
  refine T_seq <| T_seq ?_
  have hk3 : k = s.length := by omega
  rw [hk3, List.take_length] at hd hn
  by_cases h20 : (((s.length : Nat) : Int) - 0) < 1
  · refine T_r mixed [(6, .gd true .no), (7, .gd true .no), (8, .gd true .no), (9, .gd true .no), (10, .gd true .no), (11, .yes true), (13, .gd true .no), (14, .gd true .no), (15, .gd true .no), (16, .gd true .no), (17, .gd true .no), (27, .gd true .no)] [ps 4 (iv 0), ps 5 (iv n), ps 68 (bv true)] (obs_cons (by simp only [InK]; omega : InK .i64 (((s.length : Nat) : Int) - 0)) (obs_cons (decide_eq_true h20) (obs_cons (decide_eq_true h20) (obs_cons (decide_eq_true h20) (obs_cons (decide_eq_true h20) (obs_cons (decide_eq_true h20) (obs_cons (decide_eq_true h20) (obs_cons (rfl : true = true) (obs_cons (rfl : true = true) (obs_cons (rfl : true = true) (obs_cons (rfl : true = true) (obs_cons (rfl : true = true) (obs_cons (rfl : true = true) obs_nil))))))))))))) ?_
    refine T_then (b := true) rfl rfl ?_
    refine T_seq ?_
    refine T_r mixed [] [ps 2 (iv 0), ps 3 (bv false)] (obs_nil) ?_
    rw [refnum_bad (s := s) (i := 0) hi (.inl (by omega))]
    exact T_ret fun cx_ a_ hI_ => rt hc0 [ps 2 (iv 0), ps 3 (bv false)] [] hI_
  by_cases h21 : 4 < (((s.length : Nat) : Int) - 0)
  · refine T_r mixed [(6, .gd false (.no)), (7, .gd false (.no)), (8, .gd false (.no)), (9, .gd false (.no)), (10, .gd false (.no)), (11, .yes false), (13, .gd true .no), (14, .gd true .no), (15, .gd true .no), (16, .gd true .no), (17, .gd true .no), (27, .gd true .no), (28, .yes true)] [ps 4 (iv 0), ps 5 (iv n), ps 68 (bv true)] (obs_cons (by simp only [InK]; omega : InK .i64 (((s.length : Nat) : Int) - 0)) (obs_cons (decide_eq_false h20) (obs_cons (decide_eq_false h20) (obs_cons (decide_eq_false h20) (obs_cons (decide_eq_false h20) (obs_cons (by simp only [InK]; omega : InK .i64 (((s.length : Nat) : Int) - 0)) (obs_cons (decide_eq_false h20) (obs_cons (decide_eq_false h20) (obs_cons (decide_eq_true h21) (obs_cons (decide_eq_true h21) (obs_cons (decide_eq_true h21) (obs_cons (decide_eq_true h21) (obs_cons (decide_eq_true h21) (obs_cons (decide_eq_true h21) (obs_cons (decide_eq_true h21) obs_nil))))))))))))))) ?_
    refine T_then (b := true) rfl rfl ?_
    refine T_seq ?_
    refine T_r mixed [] [ps 2 (iv 0), ps 3 (bv false)] (obs_nil) ?_
    rw [refnum_bad (s := s) (i := 0) hi (.inr (.inl (by omega)))]
    exact T_ret fun cx_ a_ hI_ => rt hc0 [ps 2 (iv 0), ps 3 (bv false)] [] hI_
  by_cases h22 : (((s.getD 0 0).toNat : Nat) : Int) = 48
  · by_cases h23 : 1 < (((s.length : Nat) : Int) - 0)
    · refine T_r mixed [(6, .gd false (.no)), (7, .gd false (.no)), (8, .gd false (.no)), (9, .gd false (.no)), (10, .gd false (.no)), (11, .yes false), (13, .gd false (.no)), (14, .gd false (.no)), (15, .gd false (.no)), (16, .gd false (.no)), (17, .gd false (.no)), (18, .gd true (.no)), (19, .gd true (.no)), (20, .gd true (.no)), (21, .gd true (.no)), (22, .gd true (.no)), (23, .gd true (.no)), (24, .gd true .no), (25, .gd true .no), (26, .gd true (.yes true)), (27, .gd false (.yes true)), (28, .yes false)] [ps 4 (iv 0), ps 5 (iv n), ps 68 (bv true)] (obs_cons (by simp only [InK]; omega : InK .i64 (((s.length : Nat) : Int) - 0)) (obs_cons (decide_eq_false h20) (obs_cons (decide_eq_false h20) (obs_cons (decide_eq_false h20) (obs_cons (decide_eq_false h20) (obs_cons (by simp only [InK]; omega : InK .i64 (((s.length : Nat) : Int) - 0)) (obs_cons (decide_eq_false h20) (obs_cons (decide_eq_false h20) (obs_cons (decide_eq_false h21) (obs_cons (decide_eq_false h21) (obs_cons (decide_eq_false h21) (obs_cons (by first | omega | (simp only [List.length_cons, List.length_nil, List.length_drop, List.length_append, List.length_take]; omega) : (0 : Int) ≤ 0 ∧ 0 < ((s.length : Nat) : Int)) (obs_cons (decide_eq_false h21) (obs_cons (decide_eq_false h21) (obs_cons (decide_eq_true h22) (obs_cons (decide_eq_true h22) (obs_cons (decide_eq_true h22) (obs_cons (decide_eq_true h22) (obs_cons (by simp only [InK]; omega : InK .i64 (((s.length : Nat) : Int) - 0)) (obs_cons (decide_eq_true h22) (obs_cons (decide_eq_true h22) (obs_cons (decide_eq_true h23) (obs_cons (decide_eq_true h23) (obs_cons (decide_eq_true h22) (obs_cons (decide_eq_true h23) (obs_cons (decide_eq_false h21) (obs_cons (decide_eq_true h22) (obs_cons (decide_eq_false h21) obs_nil)))))))))))))))))))))))))))) ?_
      refine T_then (b := true) rfl rfl ?_
      refine T_seq ?_
      refine T_r mixed [] [ps 2 (iv 0), ps 3 (bv false)] (obs_nil) ?_
      rw [refnum_bad (s := s) (i := 0) hi (.inr (.inr ⟨h22, by omega⟩))]
      exact T_ret fun cx_ a_ hI_ => rt hc0 [ps 2 (iv 0), ps 3 (bv false)] [] hI_
    refine T_r mixed [(6, .gd false (.no)), (7, .gd false (.no)), (8, .gd false (.no)), (9, .gd false (.no)), (10, .gd false (.no)), (11, .yes false), (13, .gd false (.no)), (14, .gd false (.no)), (15, .gd false (.no)), (16, .gd false (.no)), (17, .gd false (.no)), (18, .gd true (.no)), (19, .gd true (.no)), (20, .gd true (.no)), (21, .gd true (.no)), (22, .gd true (.no)), (23, .gd true (.no)), (24, .gd false (.no)), (25, .gd false (.no)), (26, .gd true (.yes false)), (27, .gd false (.yes true)), (28, .yes false)] [ps 4 (iv 0), ps 5 (iv n), ps 68 (bv false)] (obs_cons (by simp only [InK]; omega : InK .i64 (((s.length : Nat) : Int) - 0)) (obs_cons (decide_eq_false h20) (obs_cons (decide_eq_false h20) (obs_cons (decide_eq_false h20) (obs_cons (decide_eq_false h20) (obs_cons (by simp only [InK]; omega : InK .i64 (((s.length : Nat) : Int) - 0)) (obs_cons (decide_eq_false h20) (obs_cons (decide_eq_false h20) (obs_cons (decide_eq_false h21) (obs_cons (decide_eq_false h21) (obs_cons (decide_eq_false h21) (obs_cons (by first | omega | (simp only [List.length_cons, List.length_nil, List.length_drop, List.length_append, List.length_take]; omega) : (0 : Int) ≤ 0 ∧ 0 < ((s.length : Nat) : Int)) (obs_cons (decide_eq_false h21) (obs_cons (decide_eq_false h21) (obs_cons (decide_eq_true h22) (obs_cons (decide_eq_true h22) (obs_cons (decide_eq_true h22) (obs_cons (decide_eq_true h22) (obs_cons (by simp only [InK]; omega : InK .i64 (((s.length : Nat) : Int) - 0)) (obs_cons (decide_eq_true h22) (obs_cons (decide_eq_true h22) (obs_cons (decide_eq_false h23) (obs_cons (decide_eq_false h23) (obs_cons (decide_eq_true h22) (obs_cons (decide_eq_false h23) (obs_cons (decide_eq_false h21) (obs_cons (decide_eq_true h22) (obs_cons (decide_eq_false h21) obs_nil)))))))))))))))))))))))))))) ?_
    refine T_else (b := false) rfl rfl ?_
    refine T_skip <| T_seq <| T_seq ?_
    refine T_r mixed [] [ps 5 (iv n), ps 70 (bv false)] (obs_nil) ?_
    refine T_else (b := false) rfl rfl ?_
    refine T_skip <| T_seq ?_
    refine T_r mixed [] [ps 2 (iv n), ps 3 (bv true)] (obs_nil) ?_
    rw [refnum_ok (s := s) (i := 0) hi hn hd (by omega) (by omega) (fun c => by omega), if_neg (by decide)]
    exact T_ret fun cx_ a_ hI_ => rt hc0 [ps 2 (iv n), ps 3 (bv true)] [] hI_
  refine T_r mixed [(6, .gd false (.no)), (7, .gd false (.no)), (8, .gd false (.no)), (9, .gd false (.no)), (10, .gd false (.no)), (11, .yes false), (13, .gd false (.no)), (14, .gd false (.no)), (15, .gd false (.no)), (16, .gd false (.no)), (17, .gd false (.no)), (18, .gd false .no), (19, .gd false .no), (20, .gd false .no), (21, .gd false .no), (22, .gd false .no), (23, .gd false .no), (26, .gd false .no), (27, .gd false (.yes false)), (28, .yes false)] [ps 4 (iv 0), ps 5 (iv n), ps 68 (bv false)] (obs_cons (by simp only [InK]; omega : InK .i64 (((s.length : Nat) : Int) - 0)) (obs_cons (decide_eq_false h20) (obs_cons (decide_eq_false h20) (obs_cons (decide_eq_false h20) (obs_cons (decide_eq_false h20) (obs_cons (by simp only [InK]; omega : InK .i64 (((s.length : Nat) : Int) - 0)) (obs_cons (decide_eq_false h20) (obs_cons (decide_eq_false h20) (obs_cons (decide_eq_false h21) (obs_cons (decide_eq_false h21) (obs_cons (decide_eq_false h21) (obs_cons (by first | omega | (simp only [List.length_cons, List.length_nil, List.length_drop, List.length_append, List.length_take]; omega) : (0 : Int) ≤ 0 ∧ 0 < ((s.length : Nat) : Int)) (obs_cons (decide_eq_false h21) (obs_cons (decide_eq_false h21) (obs_cons (decide_eq_false h22) (obs_cons (decide_eq_false h22) (obs_cons (decide_eq_false h22) (obs_cons (decide_eq_false h22) (obs_cons (decide_eq_false h22) (obs_cons (decide_eq_false h22) (obs_cons (decide_eq_false h22) (obs_cons (decide_eq_false h21) (obs_cons (decide_eq_false h22) (obs_cons (decide_eq_false h21) obs_nil)))))))))))))))))))))))) ?_
  refine T_else (b := false) rfl rfl ?_
  refine T_skip <| T_seq <| T_seq ?_
  refine T_r mixed [] [ps 5 (iv n), ps 70 (bv false)] (obs_nil) ?_
  refine T_else (b := false) rfl rfl ?_
  refine T_skip <| T_seq ?_
  refine T_r mixed [] [ps 2 (iv n), ps 3 (bv true)] (obs_nil) ?_
  rw [refnum_ok (s := s) (i := 0) hi hn hd (by omega) (by omega) (fun c => h22 c.1), if_neg (by decide)]
  exact T_ret fun cx_ a_ hI_ => rt hc0 [ps 2 (iv n), ps 3 (bv true)] [] hI_
set_option maxRecDepth 100000 in
set_option maxHeartbeats 4000000 in
theorem ref_name_step (s h : Int) (ih : ∀ x y : Int, 0 ≤ x → ¬ (x = 0 ∧ y < 0) → (s < 0 ∨ (s = 0 ∧ h < 0)) → PC Tryz.prog 7 [.agg [iv x, iv y]] [] (.tup [sv (st ((nameS x y).1)), iv ((nameS x y).2)]) []) : PC Tryz.prog 7 [(.agg [(iv s), (iv h)])] [] (.tup [(sv (st ((nameS s h).1))), (iv ((nameS s h).2))]) [] := by
  refine pc_intro Tryz.func7 rfl (by kernel_rfl) (Nat.le_of_ble_eq_true rfl) (by kernel_rfl) (l0 := [ps 0 (.agg [(iv s), (iv h)])]) rfl (fun c0 Bor hc0 => ?_)
  refine T_seq ?_
  refine T_r mixed [] [ps 1 (.opt 0 0), pb 0 25 [(iv s), (iv h)]] (obs_nil) ?_
  refine T_seq <| T_seq ?_
  refine T_r mixed [(1, .call [] [(.agg [(iv s), (iv h)])] [] (bv (Pi.withinB s h)) [])] [ps 1 (.opt 0 0), ps 11 (bv (!(Pi.withinB s h))), pb 0 25 [(iv s), (iv h)]] (obs_cons (ref_pwithin_pc s h) (obs_cons (rfl : Ren0 32 [(.agg [(iv s), (iv h)])]) obs_nil)) ?_
  by_cases h1 : (Pi.withinB s h) = true
  · refine T_el (congrArg Bool.not h1) ?_
    refine T_skip <| T_seq <| T_seq ?_
    have hw := Pi.withinB_iff.1 h1
    have hsh := name_short (0 - s) (0 - h)
    by_cases h2 : s < 0
    · refine T_r mixed [(4, .gd true .no), (5, .gd true .no), (6, .gd true .no), (7, .gd true .no), (11, .gd true .no), (12, .yes true)] [ps 1 (.opt 0 0), ps 24 (bv true), pb 0 25 [(iv s), (iv h)]] (obs_cons (decide_eq_true h2) (obs_cons (decide_eq_true h2) (obs_cons (decide_eq_true h2) (obs_cons (decide_eq_true h2) (obs_cons (decide_eq_true h2) (obs_cons (decide_eq_true h2) obs_nil)))))) ?_
      refine T_then (b := true) rfl rfl ?_
      refine T_seq ?_
      refine T_r mixed [(7, .call [] [(.agg [(iv (0 - s)), (iv (0 - h))])] [] (.tup [(sv (st ((nameS (0 - s) (0 - h)).1))), (iv ((nameS (0 - s) (0 - h)).2))]) [])] [ps 4 (sv (st ((nameS (0 - s) (0 - h)).1))), ps 5 (iv ((nameS (0 - s) (0 - h)).2))] (obs_cons (by simp only [InK]; omega : InK .i64 (0 - s)) (obs_cons (by simp only [InK]; omega : InK .i64 (0 - h)) (obs_cons (ih (0 - s) (0 - h) (by omega) (by omega) (by omega)) (obs_cons (rfl : Ren0 208 [(.agg [(iv (0 - s)), (iv (0 - h))])]) obs_nil)))) ?_
      refine T_seq <| T_seq ?_
      refine T_r mixed [] [ps 4 (sv (st ((nameS (0 - s) (0 - h)).1))), ps 5 (iv ((nameS (0 - s) (0 - h)).2)), ps 37 (bv (!(decide (((nameS (0 - s) (0 - h)).2) = 0))))] (obs_nil) ?_
      by_cases h3 : ((nameS (0 - s) (0 - h)).2) = 0
      · refine T_el (bt h3) ?_
        refine T_skip <| T_seq ?_
        refine T_r mixed [(1, .val (.av (.string (st (([45] : List UInt8) ++ ((nameS (0 - s) (0 - h)).1))))))] [ps 2 (sv (st (([45] : List UInt8) ++ ((nameS (0 - s) (0 - h)).1)))), ps 3 (iv 0)] (obs_cons (by first | omega | (simp only [List.length_append, List.length_cons, List.length_nil]; omega) : ((([45] : List UInt8).length + ((nameS (0 - s) (0 - h)).1).length : Nat) : Int) ≤ 9223372036854775807) (obs_cons (st_app _ _ : st ([45] : List UInt8) ++ st ((nameS (0 - s) (0 - h)).1) = st (([45] : List UInt8) ++ ((nameS (0 - s) (0 - h)).1))) obs_nil)) ?_
        rw [name_min_ok (s := s) (h := h) h1 (by omega) h3]
        exact T_ret fun cx_ a_ hI_ => rt hc0 [ps 2 (sv (st (([45] : List UInt8) ++ ((nameS (0 - s) (0 - h)).1)))), ps 3 (iv 0)] [] hI_
      refine T_th (bf h3) ?_
      refine T_seq ?_
      refine T_r mixed [] [ps 2 (sv (st ([] : List UInt8))), ps 3 (iv ((nameS (0 - s) (0 - h)).2))] (obs_nil) ?_
      rw [name_min_no (s := s) (h := h) h1 (by omega) h3]
      exact T_ret fun cx_ a_ hI_ => rt hc0 [ps 2 (sv (st ([] : List UInt8))), ps 3 (iv ((nameS (0 - s) (0 - h)).2))] [] hI_
    by_cases h4 : s = 0
    · refine T_r mixed [(4, .gd false (.no)), (5, .gd false (.no)), (6, .gd false (.no)), (7, .gd false (.no)), (8, .gd true (.no)), (9, .gd true (.no)), (10, .gd true (.no)), (11, .gd false (.yes true)), (12, .yes false)] [ps 1 (.opt 0 0), ps 24 (bv (decide (h < 0))), pb 0 25 [(iv s), (iv h)]] (obs_cons (decide_eq_false h2) (obs_cons (decide_eq_false h2) (obs_cons (decide_eq_false h2) (obs_cons (decide_eq_false h2) (obs_cons (decide_eq_true h4) (obs_cons (decide_eq_true h4) (obs_cons (decide_eq_true h4) (obs_cons (decide_eq_false h2) (obs_cons (decide_eq_true h4) (obs_cons (decide_eq_false h2) obs_nil)))))))))) ?_
      by_cases h5 : h < 0
      · refine T_th (decide_eq_true h5) ?_
        refine T_seq ?_
        refine T_r mixed [(7, .call [] [(.agg [(iv (0 - s)), (iv (0 - h))])] [] (.tup [(sv (st ((nameS (0 - s) (0 - h)).1))), (iv ((nameS (0 - s) (0 - h)).2))]) [])] [ps 4 (sv (st ((nameS (0 - s) (0 - h)).1))), ps 5 (iv ((nameS (0 - s) (0 - h)).2))] (obs_cons (by simp only [InK]; omega : InK .i64 (0 - s)) (obs_cons (by simp only [InK]; omega : InK .i64 (0 - h)) (obs_cons (ih (0 - s) (0 - h) (by omega) (by omega) (by omega)) (obs_cons (rfl : Ren0 208 [(.agg [(iv (0 - s)), (iv (0 - h))])]) obs_nil)))) ?_
        refine T_seq <| T_seq ?_
        refine T_r mixed [] [ps 4 (sv (st ((nameS (0 - s) (0 - h)).1))), ps 5 (iv ((nameS (0 - s) (0 - h)).2)), ps 37 (bv (!(decide (((nameS (0 - s) (0 - h)).2) = 0))))] (obs_nil) ?_
        by_cases h6 : ((nameS (0 - s) (0 - h)).2) = 0
        · refine T_el (bt h6) ?_
          refine T_skip <| T_seq ?_
          refine T_r mixed [(1, .val (.av (.string (st (([45] : List UInt8) ++ ((nameS (0 - s) (0 - h)).1))))))] [ps 2 (sv (st (([45] : List UInt8) ++ ((nameS (0 - s) (0 - h)).1)))), ps 3 (iv 0)] (obs_cons (by first | omega | (simp only [List.length_append, List.length_cons, List.length_nil]; omega) : ((([45] : List UInt8).length + ((nameS (0 - s) (0 - h)).1).length : Nat) : Int) ≤ 9223372036854775807) (obs_cons (st_app _ _ : st ([45] : List UInt8) ++ st ((nameS (0 - s) (0 - h)).1) = st (([45] : List UInt8) ++ ((nameS (0 - s) (0 - h)).1))) obs_nil)) ?_
          rw [name_min_ok (s := s) (h := h) h1 (by omega) h6]
          exact T_ret fun cx_ a_ hI_ => rt hc0 [ps 2 (sv (st (([45] : List UInt8) ++ ((nameS (0 - s) (0 - h)).1)))), ps 3 (iv 0)] [] hI_
        refine T_th (bf h6) ?_
        refine T_seq ?_
        refine T_r mixed [] [ps 2 (sv (st ([] : List UInt8))), ps 3 (iv ((nameS (0 - s) (0 - h)).2))] (obs_nil) ?_
        rw [name_min_no (s := s) (h := h) h1 (by omega) h6]
        exact T_ret fun cx_ a_ hI_ => rt hc0 [ps 2 (sv (st ([] : List UInt8))), ps 3 (iv ((nameS (0 - s) (0 - h)).2))] [] hI_
      refine T_el (decide_eq_false h5) ?_
      refine T_skip <| T_seq ?_
      obtain ⟨m, hm⟩ : ∃ m, m = moreOf s h := ⟨_, rfl⟩
      have hmb : -9000 ≤ m ∧ m ≤ 9000 := by rw [hm]; unfold moreOf; have := Pi.nat7_range (s % 7); omega
      have hwb := Pi.white_bd s (by omega)
      refine T_rd mixed [(4, .call [] [(iv s)] [] (iv (Pi.white s)) [])] [[], [0], [], [2], [2, 3], [0, 1, 2, 3, 4], [0, 1, 2, 3, 4, 5]] [([82], [2]), ([84], [1, 82]), ([86], [2]), ([88], [1, 86]), ([90], [88]), ([92], [84, 90]), ([12], [92])] [ps 1 (.opt 0 0), ps 6 (iv (h - (Pi.white s))), pb 0 25 [(iv s), (iv h)]] (obs_cons (white_pc s (by omega) (by omega)) (obs_cons (rfl : Ren0 184 [(iv s)]) (obs_cons (by simp only [InK]; omega : InK .i64 (h - (Pi.white s))) obs_nil))) ?_
      refine T_seq ?_
      refine T_wk (Wk.eq (show _ = [ps 1 (.opt 0 0), ps 6 (iv m), pb 0 25 [(iv s), (iv h)]] from by rw [show h - Pi.white s = m from by rw [hm, more_white]])) ?_
      refine T_r mixed [] [ps 1 (.opt 0 0), ps 6 (iv m), ps 7 (iv ((s).tmod 7)), pb 0 25 [(iv s), (iv h)]] (obs_cons (by decide : 7 ≠ (0 : Int)) obs_nil) ?_
      refine T_seq ?_
      refine T_wk (Wk.eq (show _ = [ps 1 (.opt 0 0), ps 6 (iv m), ps 7 (iv (s % 7)), pb 0 25 [(iv s), (iv h)]] from by rw [Int.tmod_eq_emod_of_nonneg (show 0 ≤ s from by omega)])) ?_
      refine T_r mixed [] [ps 1 (.opt 0 0), ps 6 (iv m), ps 7 (iv (s % 7)), ps 8 (sv (st ([] : List UInt8))), pb 0 25 [(iv s), (iv h)]] (obs_nil) ?_
      refine T_seq <| T_seq ?_
      by_cases h7 : (s % 7) = 0
      · refine T_r mixed [(3, .gd true .no), (4, .gd true .no), (5, .yes true), (7, .gd true .no), (8, .gd true .no)] [ps 1 (.opt 0 0), ps 6 (iv m), ps 8 (sv (st ([] : List UInt8))), ps 59 (bv true), pb 0 25 [(iv s), (iv h)]] (obs_cons (decide_eq_true h7) (obs_cons (decide_eq_true h7) (obs_cons (decide_eq_true h7) (obs_cons (rfl : true = true) (obs_cons (rfl : true = true) obs_nil))))) ?_
        refine T_then (b := true) rfl rfl ?_
        refine T_seq ?_
        refine T_r mixed [] [ps 1 (.opt 0 0), ps 6 (iv m), ps 8 (sv (st ([] : List UInt8))), ps 61 (bv (decide (m = 0))), pb 0 25 [(iv s), (iv h)]] (obs_nil) ?_
        by_cases h8 : m = 0
        · refine T_th (decide_eq_true h8) ?_
          refine T_r mixed [] [ps 1 (.opt 0 0), ps 8 (sv (st ([80] : List UInt8))), pb 0 25 [(iv s), (iv h)]] (obs_nil) ?_
          refine T_seq <| T_seq ?_
          refine T_r mixed [(1, .val (.av (.bool (decide (([80] : List UInt8) = ([] : List UInt8))))))] [ps 1 (.opt 0 0), ps 8 (sv (st ([80] : List UInt8))), ps 102 (bv (decide (([80] : List UInt8) = ([] : List UInt8)))), pb 0 25 [(iv s), (iv h)]] (obs_cons (st_eq _ _ : ((st ([80] : List UInt8)).toList == (st ([] : List UInt8)).toList) = decide (([80] : List UInt8) = ([] : List UInt8))) obs_nil) ?_
          have h9 : ¬ (([80] : List UInt8) = ([] : List UInt8)) := (by decide)
          refine T_el (decide_eq_false h9) ?_
          refine T_skip <| T_seq ?_
          have hl2 := itoa_len (o := s + 1) (by omega) (by omega)
          refine T_r mixed [(4, .call [] [(iv (s + 1))] [] (sv (st (Lib.itoa (s + 1)))) []), (5, .val (.av (.string (st (([80] : List UInt8) ++ (Lib.itoa (s + 1)))))))] [ps 2 (sv (st (([80] : List UInt8) ++ (Lib.itoa (s + 1))))), ps 3 (iv 0)] (obs_cons (by simp only [InK]; omega : InK .i64 (s + 1)) (obs_cons (digits_pc (s + 1) (by omega) (by omega)) (obs_cons (rfl : Ren0 400 [(iv (s + 1))]) (obs_cons (by first | omega | (simp only [List.length_append, List.length_cons, List.length_nil]; omega) : ((([80] : List UInt8).length + (Lib.itoa (s + 1)).length : Nat) : Int) ≤ 9223372036854775807) (obs_cons (st_app _ _ : st ([80] : List UInt8) ++ st (Lib.itoa (s + 1)) = st (([80] : List UInt8) ++ (Lib.itoa (s + 1)))) obs_nil))))) ?_
          rw [name_ok0 (s := s) (h := h) (q := ([80] : List UInt8)) h1 (by omega) (by rw [← hm]; exact (qual_P (by omega) (perf_yes (s := s) (by omega)))) (by decide)]
          exact T_ret fun cx_ a_ hI_ => rt hc0 [ps 2 (sv (st (([80] : List UInt8) ++ (Lib.itoa (s + 1))))), ps 3 (iv 0)] [] hI_
        refine T_el (decide_eq_false h8) ?_
        refine T_seq ?_
        by_cases h10 : 0 < m
        · refine T_r mixed [(3, .gd true (.no)), (4, .gd true (.no)), (5, .yes true)] [ps 1 (.opt 0 0), ps 6 (iv m), ps 8 (sv (st ([] : List UInt8))), ps 67 (bv (decide (m ≤ 6))), pb 0 25 [(iv s), (iv h)]] (obs_cons (decide_eq_true h10) (obs_cons (decide_eq_true h10) (obs_cons (decide_eq_true h10) obs_nil))) ?_
          by_cases h11 : m ≤ 6
          · refine T_th (decide_eq_true h11) ?_
            refine T_r mixed [(1, .call [] [(sv (st ([65] : List UInt8))), (iv m)] [] (sv (st (Lib.repeatL [65] m.toNat))) [])] [ps 1 (.opt 0 0), ps 8 (sv (st (Lib.repeatL [65] m.toNat))), pb 0 25 [(iv s), (iv h)]] (obs_cons (times_pc 65 m (by omega) (by omega)) (obs_cons (rfl : Ren0 400 [(sv (st ([65] : List UInt8))), (iv m)]) obs_nil)) ?_
            refine T_seq <| T_seq ?_
            refine T_r mixed [(1, .val (.av (.bool (decide ((Lib.repeatL [65] m.toNat) = ([] : List UInt8))))))] [ps 1 (.opt 0 0), ps 8 (sv (st (Lib.repeatL [65] m.toNat))), ps 102 (bv (decide ((Lib.repeatL [65] m.toNat) = ([] : List UInt8)))), pb 0 25 [(iv s), (iv h)]] (obs_cons (st_eq _ _ : ((st (Lib.repeatL [65] m.toNat)).toList == (st ([] : List UInt8)).toList) = decide ((Lib.repeatL [65] m.toNat) = ([] : List UInt8))) obs_nil) ?_
            have h12 : ¬ ((Lib.repeatL [65] m.toNat) = ([] : List UInt8)) := (rep_ne (by omega))
            refine T_el (decide_eq_false h12) ?_
            refine T_skip <| T_seq ?_
            have hlr := rep_len 65 m.toNat
            have hl2 := itoa_len (o := s + 1) (by omega) (by omega)
            refine T_r mixed [(4, .call [] [(iv (s + 1))] [] (sv (st (Lib.itoa (s + 1)))) []), (5, .val (.av (.string (st ((Lib.repeatL [65] m.toNat) ++ (Lib.itoa (s + 1)))))))] [ps 2 (sv (st ((Lib.repeatL [65] m.toNat) ++ (Lib.itoa (s + 1))))), ps 3 (iv 0)] (obs_cons (by simp only [InK]; omega : InK .i64 (s + 1)) (obs_cons (digits_pc (s + 1) (by omega) (by omega)) (obs_cons (rfl : Ren0 464 [(iv (s + 1))]) (obs_cons (by first | omega | (simp only [List.length_append, List.length_cons, List.length_nil]; omega) : (((Lib.repeatL [65] m.toNat).length + (Lib.itoa (s + 1)).length : Nat) : Int) ≤ 9223372036854775807) (obs_cons (st_app _ _ : st (Lib.repeatL [65] m.toNat) ++ st (Lib.itoa (s + 1)) = st ((Lib.repeatL [65] m.toNat) ++ (Lib.itoa (s + 1)))) obs_nil))))) ?_
            rw [name_ok0 (s := s) (h := h) (q := (Lib.repeatL [65] m.toNat)) h1 (by omega) (by rw [← hm]; exact (q_up (by omega) (by omega))) (by omega)]
            exact T_ret fun cx_ a_ hI_ => rt hc0 [ps 2 (sv (st ((Lib.repeatL [65] m.toNat) ++ (Lib.itoa (s + 1))))), ps 3 (iv 0)] [] hI_
          refine T_el (decide_eq_false h11) ?_
          refine T_seq ?_
          by_cases h13 : m < 0
          · refine T_r mixed [(3, .gd true (.no)), (4, .gd true (.no)), (5, .yes true)] [ps 1 (.opt 0 0), ps 6 (iv m), ps 8 (sv (st ([] : List UInt8))), ps 75 (bv (decide ((-6) ≤ m))), pb 0 25 [(iv s), (iv h)]] (obs_cons (decide_eq_true h13) (obs_cons (decide_eq_true h13) (obs_cons (decide_eq_true h13) obs_nil))) ?_
            by_cases h14 : (-6) ≤ m
            · refine T_th (decide_eq_true h14) ?_
              refine T_r mixed [(2, .call [] [(sv (st ([100] : List UInt8))), (iv (0 - m))] [] (sv (st (Lib.repeatL [100] (0 - m).toNat))) [])] [ps 1 (.opt 0 0), ps 8 (sv (st (Lib.repeatL [100] (0 - m).toNat))), pb 0 25 [(iv s), (iv h)]] (obs_cons (by simp only [InK]; omega : InK .i64 (0 - m)) (obs_cons (times_pc 100 (0 - m) (by omega) (by omega)) (obs_cons (rfl : Ren0 456 [(sv (st ([100] : List UInt8))), (iv (0 - m))]) obs_nil))) ?_
              refine T_seq <| T_seq ?_
              refine T_r mixed [(1, .val (.av (.bool (decide ((Lib.repeatL [100] (0 - m).toNat) = ([] : List UInt8))))))] [ps 1 (.opt 0 0), ps 8 (sv (st (Lib.repeatL [100] (0 - m).toNat))), ps 102 (bv (decide ((Lib.repeatL [100] (0 - m).toNat) = ([] : List UInt8)))), pb 0 25 [(iv s), (iv h)]] (obs_cons (st_eq _ _ : ((st (Lib.repeatL [100] (0 - m).toNat)).toList == (st ([] : List UInt8)).toList) = decide ((Lib.repeatL [100] (0 - m).toNat) = ([] : List UInt8))) obs_nil) ?_
              have h15 : ¬ ((Lib.repeatL [100] (0 - m).toNat) = ([] : List UInt8)) := (rep_ne (by omega))
              refine T_el (decide_eq_false h15) ?_
              refine T_skip <| T_seq ?_
              have hlr := rep_len 100 (0 - m).toNat
              have hl2 := itoa_len (o := s + 1) (by omega) (by omega)
              refine T_r mixed [(4, .call [] [(iv (s + 1))] [] (sv (st (Lib.itoa (s + 1)))) []), (5, .val (.av (.string (st ((Lib.repeatL [100] (0 - m).toNat) ++ (Lib.itoa (s + 1)))))))] [ps 2 (sv (st ((Lib.repeatL [100] (0 - m).toNat) ++ (Lib.itoa (s + 1))))), ps 3 (iv 0)] (obs_cons (by simp only [InK]; omega : InK .i64 (s + 1)) (obs_cons (digits_pc (s + 1) (by omega) (by omega)) (obs_cons (rfl : Ren0 520 [(iv (s + 1))]) (obs_cons (by first | omega | (simp only [List.length_append, List.length_cons, List.length_nil]; omega) : (((Lib.repeatL [100] (0 - m).toNat).length + (Lib.itoa (s + 1)).length : Nat) : Int) ≤ 9223372036854775807) (obs_cons (st_app _ _ : st (Lib.repeatL [100] (0 - m).toNat) ++ st (Lib.itoa (s + 1)) = st ((Lib.repeatL [100] (0 - m).toNat) ++ (Lib.itoa (s + 1)))) obs_nil))))) ?_
              rw [name_ok0 (s := s) (h := h) (q := (Lib.repeatL [100] (0 - m).toNat)) h1 (by omega) (by rw [← hm]; exact (q_dn (by omega) (by omega) (perf_yes (s := s) (by omega)))) (by omega)]
              exact T_ret fun cx_ a_ hI_ => rt hc0 [ps 2 (sv (st ((Lib.repeatL [100] (0 - m).toNat) ++ (Lib.itoa (s + 1))))), ps 3 (iv 0)] [] hI_
            refine T_el (decide_eq_false h14) ?_
            refine T_skip <| T_seq <| T_seq ?_
            refine T_r mixed [(1, .val (.av (.bool (decide (([] : List UInt8) = ([] : List UInt8))))))] [ps 1 (.opt 0 0), ps 8 (sv (st ([] : List UInt8))), ps 102 (bv (decide (([] : List UInt8) = ([] : List UInt8)))), pb 0 25 [(iv s), (iv h)]] (obs_cons (st_eq _ _ : ((st ([] : List UInt8)).toList == (st ([] : List UInt8)).toList) = decide (([] : List UInt8) = ([] : List UInt8))) obs_nil) ?_
            have h16 : ([] : List UInt8) = ([] : List UInt8) := rfl
            refine T_th (decide_eq_true h16) ?_
            refine T_seq ?_
            refine T_r mixed [] [ps 2 (sv (st ([] : List UInt8))), ps 3 (iv 3)] (obs_nil) ?_
            rw [name_far0 (s := s) (h := h) h1 (by omega) (by rw [← hm]; have hp := perf_yes (s := s) (by omega); first | exact .inl (by omega) | exact .inr (.inl ⟨hp, by omega⟩))]
            exact T_ret fun cx_ a_ hI_ => rt hc0 [ps 2 (sv (st ([] : List UInt8))), ps 3 (iv 3)] [] hI_
          refine T_r mixed [(3, .gd false .no), (4, .gd false .no), (5, .yes false)] [ps 1 (.opt 0 0), ps 6 (iv m), ps 8 (sv (st ([] : List UInt8))), ps 75 (bv false), pb 0 25 [(iv s), (iv h)]] (obs_cons (decide_eq_false h13) (obs_cons (decide_eq_false h13) (obs_cons (decide_eq_false h13) obs_nil))) ?_
          refine T_else (b := false) rfl rfl ?_
          refine T_skip <| T_seq <| T_seq ?_
          refine T_r mixed [(1, .val (.av (.bool (decide (([] : List UInt8) = ([] : List UInt8))))))] [ps 1 (.opt 0 0), ps 8 (sv (st ([] : List UInt8))), ps 102 (bv (decide (([] : List UInt8) = ([] : List UInt8)))), pb 0 25 [(iv s), (iv h)]] (obs_cons (st_eq _ _ : ((st ([] : List UInt8)).toList == (st ([] : List UInt8)).toList) = decide (([] : List UInt8) = ([] : List UInt8))) obs_nil) ?_
          have h17 : ([] : List UInt8) = ([] : List UInt8) := rfl
          refine T_th (decide_eq_true h17) ?_
          refine T_seq ?_
          refine T_r mixed [] [ps 2 (sv (st ([] : List UInt8))), ps 3 (iv 3)] (obs_nil) ?_
          rw [name_far0 (s := s) (h := h) h1 (by omega) (by rw [← hm]; have hp := perf_yes (s := s) (by omega); first | exact .inl (by omega) | exact .inr (.inl ⟨hp, by omega⟩))]
          exact T_ret fun cx_ a_ hI_ => rt hc0 [ps 2 (sv (st ([] : List UInt8))), ps 3 (iv 3)] [] hI_
        refine T_r mixed [(3, .gd false .no), (4, .gd false .no), (5, .yes false)] [ps 1 (.opt 0 0), ps 6 (iv m), ps 8 (sv (st ([] : List UInt8))), ps 67 (bv false), pb 0 25 [(iv s), (iv h)]] (obs_cons (decide_eq_false h10) (obs_cons (decide_eq_false h10) (obs_cons (decide_eq_false h10) obs_nil))) ?_
        refine T_else (b := false) rfl rfl ?_
        refine T_seq ?_
        by_cases h18 : m < 0
        · refine T_r mixed [(3, .gd true (.no)), (4, .gd true (.no)), (5, .yes true)] [ps 1 (.opt 0 0), ps 6 (iv m), ps 8 (sv (st ([] : List UInt8))), ps 75 (bv (decide ((-6) ≤ m))), pb 0 25 [(iv s), (iv h)]] (obs_cons (decide_eq_true h18) (obs_cons (decide_eq_true h18) (obs_cons (decide_eq_true h18) obs_nil))) ?_
          by_cases h19 : (-6) ≤ m
          · refine T_th (decide_eq_true h19) ?_
            refine T_r mixed [(2, .call [] [(sv (st ([100] : List UInt8))), (iv (0 - m))] [] (sv (st (Lib.repeatL [100] (0 - m).toNat))) [])] [ps 1 (.opt 0 0), ps 8 (sv (st (Lib.repeatL [100] (0 - m).toNat))), pb 0 25 [(iv s), (iv h)]] (obs_cons (by simp only [InK]; omega : InK .i64 (0 - m)) (obs_cons (times_pc 100 (0 - m) (by omega) (by omega)) (obs_cons (rfl : Ren0 456 [(sv (st ([100] : List UInt8))), (iv (0 - m))]) obs_nil))) ?_
            refine T_seq <| T_seq ?_
            refine T_r mixed [(1, .val (.av (.bool (decide ((Lib.repeatL [100] (0 - m).toNat) = ([] : List UInt8))))))] [ps 1 (.opt 0 0), ps 8 (sv (st (Lib.repeatL [100] (0 - m).toNat))), ps 102 (bv (decide ((Lib.repeatL [100] (0 - m).toNat) = ([] : List UInt8)))), pb 0 25 [(iv s), (iv h)]] (obs_cons (st_eq _ _ : ((st (Lib.repeatL [100] (0 - m).toNat)).toList == (st ([] : List UInt8)).toList) = decide ((Lib.repeatL [100] (0 - m).toNat) = ([] : List UInt8))) obs_nil) ?_
            have h20 : ¬ ((Lib.repeatL [100] (0 - m).toNat) = ([] : List UInt8)) := (rep_ne (by omega))
            refine T_el (decide_eq_false h20) ?_
            refine T_skip <| T_seq ?_
            have hlr := rep_len 100 (0 - m).toNat
            have hl2 := itoa_len (o := s + 1) (by omega) (by omega)
            refine T_r mixed [(4, .call [] [(iv (s + 1))] [] (sv (st (Lib.itoa (s + 1)))) []), (5, .val (.av (.string (st ((Lib.repeatL [100] (0 - m).toNat) ++ (Lib.itoa (s + 1)))))))] [ps 2 (sv (st ((Lib.repeatL [100] (0 - m).toNat) ++ (Lib.itoa (s + 1))))), ps 3 (iv 0)] (obs_cons (by simp only [InK]; omega : InK .i64 (s + 1)) (obs_cons (digits_pc (s + 1) (by omega) (by omega)) (obs_cons (rfl : Ren0 520 [(iv (s + 1))]) (obs_cons (by first | omega | (simp only [List.length_append, List.length_cons, List.length_nil]; omega) : (((Lib.repeatL [100] (0 - m).toNat).length + (Lib.itoa (s + 1)).length : Nat) : Int) ≤ 9223372036854775807) (obs_cons (st_app _ _ : st (Lib.repeatL [100] (0 - m).toNat) ++ st (Lib.itoa (s + 1)) = st ((Lib.repeatL [100] (0 - m).toNat) ++ (Lib.itoa (s + 1)))) obs_nil))))) ?_
            rw [name_ok0 (s := s) (h := h) (q := (Lib.repeatL [100] (0 - m).toNat)) h1 (by omega) (by rw [← hm]; exact (q_dn (by omega) (by omega) (perf_yes (s := s) (by omega)))) (by omega)]
            exact T_ret fun cx_ a_ hI_ => rt hc0 [ps 2 (sv (st ((Lib.repeatL [100] (0 - m).toNat) ++ (Lib.itoa (s + 1))))), ps 3 (iv 0)] [] hI_
          refine T_el (decide_eq_false h19) ?_
          refine T_skip <| T_seq <| T_seq ?_
          refine T_r mixed [(1, .val (.av (.bool (decide (([] : List UInt8) = ([] : List UInt8))))))] [ps 1 (.opt 0 0), ps 8 (sv (st ([] : List UInt8))), ps 102 (bv (decide (([] : List UInt8) = ([] : List UInt8)))), pb 0 25 [(iv s), (iv h)]] (obs_cons (st_eq _ _ : ((st ([] : List UInt8)).toList == (st ([] : List UInt8)).toList) = decide (([] : List UInt8) = ([] : List UInt8))) obs_nil) ?_
          have h21 : ([] : List UInt8) = ([] : List UInt8) := rfl
          refine T_th (decide_eq_true h21) ?_
          refine T_seq ?_
          refine T_r mixed [] [ps 2 (sv (st ([] : List UInt8))), ps 3 (iv 3)] (obs_nil) ?_
          rw [name_far0 (s := s) (h := h) h1 (by omega) (by rw [← hm]; have hp := perf_yes (s := s) (by omega); first | exact .inl (by omega) | exact .inr (.inl ⟨hp, by omega⟩))]
          exact T_ret fun cx_ a_ hI_ => rt hc0 [ps 2 (sv (st ([] : List UInt8))), ps 3 (iv 3)] [] hI_
        refine T_r mixed [(3, .gd false .no), (4, .gd false .no), (5, .yes false)] [ps 1 (.opt 0 0), ps 6 (iv m), ps 8 (sv (st ([] : List UInt8))), ps 75 (bv false), pb 0 25 [(iv s), (iv h)]] (obs_cons (decide_eq_false h18) (obs_cons (decide_eq_false h18) (obs_cons (decide_eq_false h18) obs_nil))) ?_
        refine T_else (b := false) rfl rfl ?_
        refine T_skip <| T_seq <| T_seq ?_
        refine T_r mixed [(1, .val (.av (.bool (decide (([] : List UInt8) = ([] : List UInt8))))))] [ps 1 (.opt 0 0), ps 8 (sv (st ([] : List UInt8))), ps 102 (bv (decide (([] : List UInt8) = ([] : List UInt8)))), pb 0 25 [(iv s), (iv h)]] (obs_cons (st_eq _ _ : ((st ([] : List UInt8)).toList == (st ([] : List UInt8)).toList) = decide (([] : List UInt8) = ([] : List UInt8))) obs_nil) ?_
        have h22 : ([] : List UInt8) = ([] : List UInt8) := rfl
        refine T_th (decide_eq_true h22) ?_
        refine T_seq ?_
        refine T_r mixed [] [ps 2 (sv (st ([] : List UInt8))), ps 3 (iv 3)] (obs_nil) ?_
        rw [name_far0 (s := s) (h := h) h1 (by omega) (by rw [← hm]; have hp := perf_yes (s := s) (by omega); first | exact .inl (by omega) | exact .inr (.inl ⟨hp, by omega⟩))]
        exact T_ret fun cx_ a_ hI_ => rt hc0 [ps 2 (sv (st ([] : List UInt8))), ps 3 (iv 3)] [] hI_
      by_cases h23 : (s % 7) = 3
      · refine T_r mixed [(3, .gd false (.no)), (4, .gd false (.no)), (5, .yes false), (7, .gd true .no), (8, .gd true .no), (9, .yes true)] [ps 1 (.opt 0 0), ps 6 (iv m), ps 8 (sv (st ([] : List UInt8))), ps 59 (bv true), pb 0 25 [(iv s), (iv h)]] (obs_cons (decide_eq_false h7) (obs_cons (decide_eq_false h7) (obs_cons (decide_eq_false h7) (obs_cons (decide_eq_true h23) (obs_cons (decide_eq_true h23) (obs_cons (decide_eq_true h23) obs_nil)))))) ?_
        refine T_then (b := true) rfl rfl ?_
        refine T_seq ?_
        refine T_r mixed [] [ps 1 (.opt 0 0), ps 6 (iv m), ps 8 (sv (st ([] : List UInt8))), ps 61 (bv (decide (m = 0))), pb 0 25 [(iv s), (iv h)]] (obs_nil) ?_
        by_cases h24 : m = 0
        · refine T_th (decide_eq_true h24) ?_
          refine T_r mixed [] [ps 1 (.opt 0 0), ps 8 (sv (st ([80] : List UInt8))), pb 0 25 [(iv s), (iv h)]] (obs_nil) ?_
          refine T_seq <| T_seq ?_
          refine T_r mixed [(1, .val (.av (.bool (decide (([80] : List UInt8) = ([] : List UInt8))))))] [ps 1 (.opt 0 0), ps 8 (sv (st ([80] : List UInt8))), ps 102 (bv (decide (([80] : List UInt8) = ([] : List UInt8)))), pb 0 25 [(iv s), (iv h)]] (obs_cons (st_eq _ _ : ((st ([80] : List UInt8)).toList == (st ([] : List UInt8)).toList) = decide (([80] : List UInt8) = ([] : List UInt8))) obs_nil) ?_
          have h25 : ¬ (([80] : List UInt8) = ([] : List UInt8)) := (by decide)
          refine T_el (decide_eq_false h25) ?_
          refine T_skip <| T_seq ?_
          have hl2 := itoa_len (o := s + 1) (by omega) (by omega)
          refine T_r mixed [(4, .call [] [(iv (s + 1))] [] (sv (st (Lib.itoa (s + 1)))) []), (5, .val (.av (.string (st (([80] : List UInt8) ++ (Lib.itoa (s + 1)))))))] [ps 2 (sv (st (([80] : List UInt8) ++ (Lib.itoa (s + 1))))), ps 3 (iv 0)] (obs_cons (by simp only [InK]; omega : InK .i64 (s + 1)) (obs_cons (digits_pc (s + 1) (by omega) (by omega)) (obs_cons (rfl : Ren0 400 [(iv (s + 1))]) (obs_cons (by first | omega | (simp only [List.length_append, List.length_cons, List.length_nil]; omega) : ((([80] : List UInt8).length + (Lib.itoa (s + 1)).length : Nat) : Int) ≤ 9223372036854775807) (obs_cons (st_app _ _ : st ([80] : List UInt8) ++ st (Lib.itoa (s + 1)) = st (([80] : List UInt8) ++ (Lib.itoa (s + 1)))) obs_nil))))) ?_
          rw [name_ok0 (s := s) (h := h) (q := ([80] : List UInt8)) h1 (by omega) (by rw [← hm]; exact (qual_P (by omega) (perf_yes (s := s) (by omega)))) (by decide)]
          exact T_ret fun cx_ a_ hI_ => rt hc0 [ps 2 (sv (st (([80] : List UInt8) ++ (Lib.itoa (s + 1))))), ps 3 (iv 0)] [] hI_
        refine T_el (decide_eq_false h24) ?_
        refine T_seq ?_
        by_cases h26 : 0 < m
        · refine T_r mixed [(3, .gd true (.no)), (4, .gd true (.no)), (5, .yes true)] [ps 1 (.opt 0 0), ps 6 (iv m), ps 8 (sv (st ([] : List UInt8))), ps 67 (bv (decide (m ≤ 6))), pb 0 25 [(iv s), (iv h)]] (obs_cons (decide_eq_true h26) (obs_cons (decide_eq_true h26) (obs_cons (decide_eq_true h26) obs_nil))) ?_
          by_cases h27 : m ≤ 6
          · refine T_th (decide_eq_true h27) ?_
            refine T_r mixed [(1, .call [] [(sv (st ([65] : List UInt8))), (iv m)] [] (sv (st (Lib.repeatL [65] m.toNat))) [])] [ps 1 (.opt 0 0), ps 8 (sv (st (Lib.repeatL [65] m.toNat))), pb 0 25 [(iv s), (iv h)]] (obs_cons (times_pc 65 m (by omega) (by omega)) (obs_cons (rfl : Ren0 400 [(sv (st ([65] : List UInt8))), (iv m)]) obs_nil)) ?_
            refine T_seq <| T_seq ?_
            refine T_r mixed [(1, .val (.av (.bool (decide ((Lib.repeatL [65] m.toNat) = ([] : List UInt8))))))] [ps 1 (.opt 0 0), ps 8 (sv (st (Lib.repeatL [65] m.toNat))), ps 102 (bv (decide ((Lib.repeatL [65] m.toNat) = ([] : List UInt8)))), pb 0 25 [(iv s), (iv h)]] (obs_cons (st_eq _ _ : ((st (Lib.repeatL [65] m.toNat)).toList == (st ([] : List UInt8)).toList) = decide ((Lib.repeatL [65] m.toNat) = ([] : List UInt8))) obs_nil) ?_
            have h28 : ¬ ((Lib.repeatL [65] m.toNat) = ([] : List UInt8)) := (rep_ne (by omega))
            refine T_el (decide_eq_false h28) ?_
            refine T_skip <| T_seq ?_
            have hlr := rep_len 65 m.toNat
            have hl2 := itoa_len (o := s + 1) (by omega) (by omega)
            refine T_r mixed [(4, .call [] [(iv (s + 1))] [] (sv (st (Lib.itoa (s + 1)))) []), (5, .val (.av (.string (st ((Lib.repeatL [65] m.toNat) ++ (Lib.itoa (s + 1)))))))] [ps 2 (sv (st ((Lib.repeatL [65] m.toNat) ++ (Lib.itoa (s + 1))))), ps 3 (iv 0)] (obs_cons (by simp only [InK]; omega : InK .i64 (s + 1)) (obs_cons (digits_pc (s + 1) (by omega) (by omega)) (obs_cons (rfl : Ren0 464 [(iv (s + 1))]) (obs_cons (by first | omega | (simp only [List.length_append, List.length_cons, List.length_nil]; omega) : (((Lib.repeatL [65] m.toNat).length + (Lib.itoa (s + 1)).length : Nat) : Int) ≤ 9223372036854775807) (obs_cons (st_app _ _ : st (Lib.repeatL [65] m.toNat) ++ st (Lib.itoa (s + 1)) = st ((Lib.repeatL [65] m.toNat) ++ (Lib.itoa (s + 1)))) obs_nil))))) ?_
            rw [name_ok0 (s := s) (h := h) (q := (Lib.repeatL [65] m.toNat)) h1 (by omega) (by rw [← hm]; exact (q_up (by omega) (by omega))) (by omega)]
            exact T_ret fun cx_ a_ hI_ => rt hc0 [ps 2 (sv (st ((Lib.repeatL [65] m.toNat) ++ (Lib.itoa (s + 1))))), ps 3 (iv 0)] [] hI_
          refine T_el (decide_eq_false h27) ?_
          refine T_seq ?_
          by_cases h29 : m < 0
          · refine T_r mixed [(3, .gd true (.no)), (4, .gd true (.no)), (5, .yes true)] [ps 1 (.opt 0 0), ps 6 (iv m), ps 8 (sv (st ([] : List UInt8))), ps 75 (bv (decide ((-6) ≤ m))), pb 0 25 [(iv s), (iv h)]] (obs_cons (decide_eq_true h29) (obs_cons (decide_eq_true h29) (obs_cons (decide_eq_true h29) obs_nil))) ?_
            by_cases h30 : (-6) ≤ m
            · refine T_th (decide_eq_true h30) ?_
              refine T_r mixed [(2, .call [] [(sv (st ([100] : List UInt8))), (iv (0 - m))] [] (sv (st (Lib.repeatL [100] (0 - m).toNat))) [])] [ps 1 (.opt 0 0), ps 8 (sv (st (Lib.repeatL [100] (0 - m).toNat))), pb 0 25 [(iv s), (iv h)]] (obs_cons (by simp only [InK]; omega : InK .i64 (0 - m)) (obs_cons (times_pc 100 (0 - m) (by omega) (by omega)) (obs_cons (rfl : Ren0 456 [(sv (st ([100] : List UInt8))), (iv (0 - m))]) obs_nil))) ?_
              refine T_seq <| T_seq ?_
              refine T_r mixed [(1, .val (.av (.bool (decide ((Lib.repeatL [100] (0 - m).toNat) = ([] : List UInt8))))))] [ps 1 (.opt 0 0), ps 8 (sv (st (Lib.repeatL [100] (0 - m).toNat))), ps 102 (bv (decide ((Lib.repeatL [100] (0 - m).toNat) = ([] : List UInt8)))), pb 0 25 [(iv s), (iv h)]] (obs_cons (st_eq _ _ : ((st (Lib.repeatL [100] (0 - m).toNat)).toList == (st ([] : List UInt8)).toList) = decide ((Lib.repeatL [100] (0 - m).toNat) = ([] : List UInt8))) obs_nil) ?_
              have h31 : ¬ ((Lib.repeatL [100] (0 - m).toNat) = ([] : List UInt8)) := (rep_ne (by omega))
              refine T_el (decide_eq_false h31) ?_
              refine T_skip <| T_seq ?_
              have hlr := rep_len 100 (0 - m).toNat
              have hl2 := itoa_len (o := s + 1) (by omega) (by omega)
              refine T_r mixed [(4, .call [] [(iv (s + 1))] [] (sv (st (Lib.itoa (s + 1)))) []), (5, .val (.av (.string (st ((Lib.repeatL [100] (0 - m).toNat) ++ (Lib.itoa (s + 1)))))))] [ps 2 (sv (st ((Lib.repeatL [100] (0 - m).toNat) ++ (Lib.itoa (s + 1))))), ps 3 (iv 0)] (obs_cons (by simp only [InK]; omega : InK .i64 (s + 1)) (obs_cons (digits_pc (s + 1) (by omega) (by omega)) (obs_cons (rfl : Ren0 520 [(iv (s + 1))]) (obs_cons (by first | omega | (simp only [List.length_append, List.length_cons, List.length_nil]; omega) : (((Lib.repeatL [100] (0 - m).toNat).length + (Lib.itoa (s + 1)).length : Nat) : Int) ≤ 9223372036854775807) (obs_cons (st_app _ _ : st (Lib.repeatL [100] (0 - m).toNat) ++ st (Lib.itoa (s + 1)) = st ((Lib.repeatL [100] (0 - m).toNat) ++ (Lib.itoa (s + 1)))) obs_nil))))) ?_
              rw [name_ok0 (s := s) (h := h) (q := (Lib.repeatL [100] (0 - m).toNat)) h1 (by omega) (by rw [← hm]; exact (q_dn (by omega) (by omega) (perf_yes (s := s) (by omega)))) (by omega)]
              exact T_ret fun cx_ a_ hI_ => rt hc0 [ps 2 (sv (st ((Lib.repeatL [100] (0 - m).toNat) ++ (Lib.itoa (s + 1))))), ps 3 (iv 0)] [] hI_
            refine T_el (decide_eq_false h30) ?_
            refine T_skip <| T_seq <| T_seq ?_
            refine T_r mixed [(1, .val (.av (.bool (decide (([] : List UInt8) = ([] : List UInt8))))))] [ps 1 (.opt 0 0), ps 8 (sv (st ([] : List UInt8))), ps 102 (bv (decide (([] : List UInt8) = ([] : List UInt8)))), pb 0 25 [(iv s), (iv h)]] (obs_cons (st_eq _ _ : ((st ([] : List UInt8)).toList == (st ([] : List UInt8)).toList) = decide (([] : List UInt8) = ([] : List UInt8))) obs_nil) ?_
            have h32 : ([] : List UInt8) = ([] : List UInt8) := rfl
            refine T_th (decide_eq_true h32) ?_
            refine T_seq ?_
            refine T_r mixed [] [ps 2 (sv (st ([] : List UInt8))), ps 3 (iv 3)] (obs_nil) ?_
            rw [name_far0 (s := s) (h := h) h1 (by omega) (by rw [← hm]; have hp := perf_yes (s := s) (by omega); first | exact .inl (by omega) | exact .inr (.inl ⟨hp, by omega⟩))]
            exact T_ret fun cx_ a_ hI_ => rt hc0 [ps 2 (sv (st ([] : List UInt8))), ps 3 (iv 3)] [] hI_
          refine T_r mixed [(3, .gd false .no), (4, .gd false .no), (5, .yes false)] [ps 1 (.opt 0 0), ps 6 (iv m), ps 8 (sv (st ([] : List UInt8))), ps 75 (bv false), pb 0 25 [(iv s), (iv h)]] (obs_cons (decide_eq_false h29) (obs_cons (decide_eq_false h29) (obs_cons (decide_eq_false h29) obs_nil))) ?_
          refine T_else (b := false) rfl rfl ?_
          refine T_skip <| T_seq <| T_seq ?_
          refine T_r mixed [(1, .val (.av (.bool (decide (([] : List UInt8) = ([] : List UInt8))))))] [ps 1 (.opt 0 0), ps 8 (sv (st ([] : List UInt8))), ps 102 (bv (decide (([] : List UInt8) = ([] : List UInt8)))), pb 0 25 [(iv s), (iv h)]] (obs_cons (st_eq _ _ : ((st ([] : List UInt8)).toList == (st ([] : List UInt8)).toList) = decide (([] : List UInt8) = ([] : List UInt8))) obs_nil) ?_
          have h33 : ([] : List UInt8) = ([] : List UInt8) := rfl
          refine T_th (decide_eq_true h33) ?_
          refine T_seq ?_
          refine T_r mixed [] [ps 2 (sv (st ([] : List UInt8))), ps 3 (iv 3)] (obs_nil) ?_
          rw [name_far0 (s := s) (h := h) h1 (by omega) (by rw [← hm]; have hp := perf_yes (s := s) (by omega); first | exact .inl (by omega) | exact .inr (.inl ⟨hp, by omega⟩))]
          exact T_ret fun cx_ a_ hI_ => rt hc0 [ps 2 (sv (st ([] : List UInt8))), ps 3 (iv 3)] [] hI_
        refine T_r mixed [(3, .gd false .no), (4, .gd false .no), (5, .yes false)] [ps 1 (.opt 0 0), ps 6 (iv m), ps 8 (sv (st ([] : List UInt8))), ps 67 (bv false), pb 0 25 [(iv s), (iv h)]] (obs_cons (decide_eq_false h26) (obs_cons (decide_eq_false h26) (obs_cons (decide_eq_false h26) obs_nil))) ?_
        refine T_else (b := false) rfl rfl ?_
        refine T_seq ?_
        by_cases h34 : m < 0
        · refine T_r mixed [(3, .gd true (.no)), (4, .gd true (.no)), (5, .yes true)] [ps 1 (.opt 0 0), ps 6 (iv m), ps 8 (sv (st ([] : List UInt8))), ps 75 (bv (decide ((-6) ≤ m))), pb 0 25 [(iv s), (iv h)]] (obs_cons (decide_eq_true h34) (obs_cons (decide_eq_true h34) (obs_cons (decide_eq_true h34) obs_nil))) ?_
          by_cases h35 : (-6) ≤ m
          · refine T_th (decide_eq_true h35) ?_
            refine T_r mixed [(2, .call [] [(sv (st ([100] : List UInt8))), (iv (0 - m))] [] (sv (st (Lib.repeatL [100] (0 - m).toNat))) [])] [ps 1 (.opt 0 0), ps 8 (sv (st (Lib.repeatL [100] (0 - m).toNat))), pb 0 25 [(iv s), (iv h)]] (obs_cons (by simp only [InK]; omega : InK .i64 (0 - m)) (obs_cons (times_pc 100 (0 - m) (by omega) (by omega)) (obs_cons (rfl : Ren0 456 [(sv (st ([100] : List UInt8))), (iv (0 - m))]) obs_nil))) ?_
            refine T_seq <| T_seq ?_
            refine T_r mixed [(1, .val (.av (.bool (decide ((Lib.repeatL [100] (0 - m).toNat) = ([] : List UInt8))))))] [ps 1 (.opt 0 0), ps 8 (sv (st (Lib.repeatL [100] (0 - m).toNat))), ps 102 (bv (decide ((Lib.repeatL [100] (0 - m).toNat) = ([] : List UInt8)))), pb 0 25 [(iv s), (iv h)]] (obs_cons (st_eq _ _ : ((st (Lib.repeatL [100] (0 - m).toNat)).toList == (st ([] : List UInt8)).toList) = decide ((Lib.repeatL [100] (0 - m).toNat) = ([] : List UInt8))) obs_nil) ?_
            have h36 : ¬ ((Lib.repeatL [100] (0 - m).toNat) = ([] : List UInt8)) := (rep_ne (by omega))
            refine T_el (decide_eq_false h36) ?_
            refine T_skip <| T_seq ?_
            have hlr := rep_len 100 (0 - m).toNat
            have hl2 := itoa_len (o := s + 1) (by omega) (by omega)
            refine T_r mixed [(4, .call [] [(iv (s + 1))] [] (sv (st (Lib.itoa (s + 1)))) []), (5, .val (.av (.string (st ((Lib.repeatL [100] (0 - m).toNat) ++ (Lib.itoa (s + 1)))))))] [ps 2 (sv (st ((Lib.repeatL [100] (0 - m).toNat) ++ (Lib.itoa (s + 1))))), ps 3 (iv 0)] (obs_cons (by simp only [InK]; omega : InK .i64 (s + 1)) (obs_cons (digits_pc (s + 1) (by omega) (by omega)) (obs_cons (rfl : Ren0 520 [(iv (s + 1))]) (obs_cons (by first | omega | (simp only [List.length_append, List.length_cons, List.length_nil]; omega) : (((Lib.repeatL [100] (0 - m).toNat).length + (Lib.itoa (s + 1)).length : Nat) : Int) ≤ 9223372036854775807) (obs_cons (st_app _ _ : st (Lib.repeatL [100] (0 - m).toNat) ++ st (Lib.itoa (s + 1)) = st ((Lib.repeatL [100] (0 - m).toNat) ++ (Lib.itoa (s + 1)))) obs_nil))))) ?_
            rw [name_ok0 (s := s) (h := h) (q := (Lib.repeatL [100] (0 - m).toNat)) h1 (by omega) (by rw [← hm]; exact (q_dn (by omega) (by omega) (perf_yes (s := s) (by omega)))) (by omega)]
            exact T_ret fun cx_ a_ hI_ => rt hc0 [ps 2 (sv (st ((Lib.repeatL [100] (0 - m).toNat) ++ (Lib.itoa (s + 1))))), ps 3 (iv 0)] [] hI_
          refine T_el (decide_eq_false h35) ?_
          refine T_skip <| T_seq <| T_seq ?_
          refine T_r mixed [(1, .val (.av (.bool (decide (([] : List UInt8) = ([] : List UInt8))))))] [ps 1 (.opt 0 0), ps 8 (sv (st ([] : List UInt8))), ps 102 (bv (decide (([] : List UInt8) = ([] : List UInt8)))), pb 0 25 [(iv s), (iv h)]] (obs_cons (st_eq _ _ : ((st ([] : List UInt8)).toList == (st ([] : List UInt8)).toList) = decide (([] : List UInt8) = ([] : List UInt8))) obs_nil) ?_
          have h37 : ([] : List UInt8) = ([] : List UInt8) := rfl
          refine T_th (decide_eq_true h37) ?_
          refine T_seq ?_
          refine T_r mixed [] [ps 2 (sv (st ([] : List UInt8))), ps 3 (iv 3)] (obs_nil) ?_
          rw [name_far0 (s := s) (h := h) h1 (by omega) (by rw [← hm]; have hp := perf_yes (s := s) (by omega); first | exact .inl (by omega) | exact .inr (.inl ⟨hp, by omega⟩))]
          exact T_ret fun cx_ a_ hI_ => rt hc0 [ps 2 (sv (st ([] : List UInt8))), ps 3 (iv 3)] [] hI_
        refine T_r mixed [(3, .gd false .no), (4, .gd false .no), (5, .yes false)] [ps 1 (.opt 0 0), ps 6 (iv m), ps 8 (sv (st ([] : List UInt8))), ps 75 (bv false), pb 0 25 [(iv s), (iv h)]] (obs_cons (decide_eq_false h34) (obs_cons (decide_eq_false h34) (obs_cons (decide_eq_false h34) obs_nil))) ?_
        refine T_else (b := false) rfl rfl ?_
        refine T_skip <| T_seq <| T_seq ?_
        refine T_r mixed [(1, .val (.av (.bool (decide (([] : List UInt8) = ([] : List UInt8))))))] [ps 1 (.opt 0 0), ps 8 (sv (st ([] : List UInt8))), ps 102 (bv (decide (([] : List UInt8) = ([] : List UInt8)))), pb 0 25 [(iv s), (iv h)]] (obs_cons (st_eq _ _ : ((st ([] : List UInt8)).toList == (st ([] : List UInt8)).toList) = decide (([] : List UInt8) = ([] : List UInt8))) obs_nil) ?_
        have h38 : ([] : List UInt8) = ([] : List UInt8) := rfl
        refine T_th (decide_eq_true h38) ?_
        refine T_seq ?_
        refine T_r mixed [] [ps 2 (sv (st ([] : List UInt8))), ps 3 (iv 3)] (obs_nil) ?_
        rw [name_far0 (s := s) (h := h) h1 (by omega) (by rw [← hm]; have hp := perf_yes (s := s) (by omega); first | exact .inl (by omega) | exact .inr (.inl ⟨hp, by omega⟩))]
        exact T_ret fun cx_ a_ hI_ => rt hc0 [ps 2 (sv (st ([] : List UInt8))), ps 3 (iv 3)] [] hI_
      refine T_r mixed [(3, .gd false (.no)), (4, .gd false (.no)), (5, .yes false), (7, .gd false (.no)), (8, .gd false (.no)), (9, .yes false)] [ps 1 (.opt 0 0), ps 6 (iv m), ps 8 (sv (st ([] : List UInt8))), ps 59 (bv (decide ((s % 7) = 4))), pb 0 25 [(iv s), (iv h)]] (obs_cons (decide_eq_false h7) (obs_cons (decide_eq_false h7) (obs_cons (decide_eq_false h7) (obs_cons (decide_eq_false h23) (obs_cons (decide_eq_false h23) (obs_cons (decide_eq_false h23) obs_nil)))))) ?_
      by_cases h39 : (s % 7) = 4
      · refine T_th (decide_eq_true h39) ?_
        refine T_seq ?_
        refine T_r mixed [] [ps 1 (.opt 0 0), ps 6 (iv m), ps 8 (sv (st ([] : List UInt8))), ps 61 (bv (decide (m = 0))), pb 0 25 [(iv s), (iv h)]] (obs_nil) ?_
        by_cases h40 : m = 0
        · refine T_th (decide_eq_true h40) ?_
          refine T_r mixed [] [ps 1 (.opt 0 0), ps 8 (sv (st ([80] : List UInt8))), pb 0 25 [(iv s), (iv h)]] (obs_nil) ?_
          refine T_seq <| T_seq ?_
          refine T_r mixed [(1, .val (.av (.bool (decide (([80] : List UInt8) = ([] : List UInt8))))))] [ps 1 (.opt 0 0), ps 8 (sv (st ([80] : List UInt8))), ps 102 (bv (decide (([80] : List UInt8) = ([] : List UInt8)))), pb 0 25 [(iv s), (iv h)]] (obs_cons (st_eq _ _ : ((st ([80] : List UInt8)).toList == (st ([] : List UInt8)).toList) = decide (([80] : List UInt8) = ([] : List UInt8))) obs_nil) ?_
          have h41 : ¬ (([80] : List UInt8) = ([] : List UInt8)) := (by decide)
          refine T_el (decide_eq_false h41) ?_
          refine T_skip <| T_seq ?_
          have hl2 := itoa_len (o := s + 1) (by omega) (by omega)
          refine T_r mixed [(4, .call [] [(iv (s + 1))] [] (sv (st (Lib.itoa (s + 1)))) []), (5, .val (.av (.string (st (([80] : List UInt8) ++ (Lib.itoa (s + 1)))))))] [ps 2 (sv (st (([80] : List UInt8) ++ (Lib.itoa (s + 1))))), ps 3 (iv 0)] (obs_cons (by simp only [InK]; omega : InK .i64 (s + 1)) (obs_cons (digits_pc (s + 1) (by omega) (by omega)) (obs_cons (rfl : Ren0 400 [(iv (s + 1))]) (obs_cons (by first | omega | (simp only [List.length_append, List.length_cons, List.length_nil]; omega) : ((([80] : List UInt8).length + (Lib.itoa (s + 1)).length : Nat) : Int) ≤ 9223372036854775807) (obs_cons (st_app _ _ : st ([80] : List UInt8) ++ st (Lib.itoa (s + 1)) = st (([80] : List UInt8) ++ (Lib.itoa (s + 1)))) obs_nil))))) ?_
          rw [name_ok0 (s := s) (h := h) (q := ([80] : List UInt8)) h1 (by omega) (by rw [← hm]; exact (qual_P (by omega) (perf_yes (s := s) (by omega)))) (by decide)]
          exact T_ret fun cx_ a_ hI_ => rt hc0 [ps 2 (sv (st (([80] : List UInt8) ++ (Lib.itoa (s + 1))))), ps 3 (iv 0)] [] hI_
        refine T_el (decide_eq_false h40) ?_
        refine T_seq ?_
        by_cases h42 : 0 < m
        · refine T_r mixed [(3, .gd true (.no)), (4, .gd true (.no)), (5, .yes true)] [ps 1 (.opt 0 0), ps 6 (iv m), ps 8 (sv (st ([] : List UInt8))), ps 67 (bv (decide (m ≤ 6))), pb 0 25 [(iv s), (iv h)]] (obs_cons (decide_eq_true h42) (obs_cons (decide_eq_true h42) (obs_cons (decide_eq_true h42) obs_nil))) ?_
          by_cases h43 : m ≤ 6
          · refine T_th (decide_eq_true h43) ?_
            refine T_r mixed [(1, .call [] [(sv (st ([65] : List UInt8))), (iv m)] [] (sv (st (Lib.repeatL [65] m.toNat))) [])] [ps 1 (.opt 0 0), ps 8 (sv (st (Lib.repeatL [65] m.toNat))), pb 0 25 [(iv s), (iv h)]] (obs_cons (times_pc 65 m (by omega) (by omega)) (obs_cons (rfl : Ren0 400 [(sv (st ([65] : List UInt8))), (iv m)]) obs_nil)) ?_
            refine T_seq <| T_seq ?_
            refine T_r mixed [(1, .val (.av (.bool (decide ((Lib.repeatL [65] m.toNat) = ([] : List UInt8))))))] [ps 1 (.opt 0 0), ps 8 (sv (st (Lib.repeatL [65] m.toNat))), ps 102 (bv (decide ((Lib.repeatL [65] m.toNat) = ([] : List UInt8)))), pb 0 25 [(iv s), (iv h)]] (obs_cons (st_eq _ _ : ((st (Lib.repeatL [65] m.toNat)).toList == (st ([] : List UInt8)).toList) = decide ((Lib.repeatL [65] m.toNat) = ([] : List UInt8))) obs_nil) ?_
            have h44 : ¬ ((Lib.repeatL [65] m.toNat) = ([] : List UInt8)) := (rep_ne (by omega))
            refine T_el (decide_eq_false h44) ?_
            refine T_skip <| T_seq ?_
            have hlr := rep_len 65 m.toNat
            have hl2 := itoa_len (o := s + 1) (by omega) (by omega)
            refine T_r mixed [(4, .call [] [(iv (s + 1))] [] (sv (st (Lib.itoa (s + 1)))) []), (5, .val (.av (.string (st ((Lib.repeatL [65] m.toNat) ++ (Lib.itoa (s + 1)))))))] [ps 2 (sv (st ((Lib.repeatL [65] m.toNat) ++ (Lib.itoa (s + 1))))), ps 3 (iv 0)] (obs_cons (by simp only [InK]; omega : InK .i64 (s + 1)) (obs_cons (digits_pc (s + 1) (by omega) (by omega)) (obs_cons (rfl : Ren0 464 [(iv (s + 1))]) (obs_cons (by first | omega | (simp only [List.length_append, List.length_cons, List.length_nil]; omega) : (((Lib.repeatL [65] m.toNat).length + (Lib.itoa (s + 1)).length : Nat) : Int) ≤ 9223372036854775807) (obs_cons (st_app _ _ : st (Lib.repeatL [65] m.toNat) ++ st (Lib.itoa (s + 1)) = st ((Lib.repeatL [65] m.toNat) ++ (Lib.itoa (s + 1)))) obs_nil))))) ?_
            rw [name_ok0 (s := s) (h := h) (q := (Lib.repeatL [65] m.toNat)) h1 (by omega) (by rw [← hm]; exact (q_up (by omega) (by omega))) (by omega)]
            exact T_ret fun cx_ a_ hI_ => rt hc0 [ps 2 (sv (st ((Lib.repeatL [65] m.toNat) ++ (Lib.itoa (s + 1))))), ps 3 (iv 0)] [] hI_
          refine T_el (decide_eq_false h43) ?_
          refine T_seq ?_
          by_cases h45 : m < 0
          · refine T_r mixed [(3, .gd true (.no)), (4, .gd true (.no)), (5, .yes true)] [ps 1 (.opt 0 0), ps 6 (iv m), ps 8 (sv (st ([] : List UInt8))), ps 75 (bv (decide ((-6) ≤ m))), pb 0 25 [(iv s), (iv h)]] (obs_cons (decide_eq_true h45) (obs_cons (decide_eq_true h45) (obs_cons (decide_eq_true h45) obs_nil))) ?_
            by_cases h46 : (-6) ≤ m
            · refine T_th (decide_eq_true h46) ?_
              refine T_r mixed [(2, .call [] [(sv (st ([100] : List UInt8))), (iv (0 - m))] [] (sv (st (Lib.repeatL [100] (0 - m).toNat))) [])] [ps 1 (.opt 0 0), ps 8 (sv (st (Lib.repeatL [100] (0 - m).toNat))), pb 0 25 [(iv s), (iv h)]] (obs_cons (by simp only [InK]; omega : InK .i64 (0 - m)) (obs_cons (times_pc 100 (0 - m) (by omega) (by omega)) (obs_cons (rfl : Ren0 456 [(sv (st ([100] : List UInt8))), (iv (0 - m))]) obs_nil))) ?_
              refine T_seq <| T_seq ?_
              refine T_r mixed [(1, .val (.av (.bool (decide ((Lib.repeatL [100] (0 - m).toNat) = ([] : List UInt8))))))] [ps 1 (.opt 0 0), ps 8 (sv (st (Lib.repeatL [100] (0 - m).toNat))), ps 102 (bv (decide ((Lib.repeatL [100] (0 - m).toNat) = ([] : List UInt8)))), pb 0 25 [(iv s), (iv h)]] (obs_cons (st_eq _ _ : ((st (Lib.repeatL [100] (0 - m).toNat)).toList == (st ([] : List UInt8)).toList) = decide ((Lib.repeatL [100] (0 - m).toNat) = ([] : List UInt8))) obs_nil) ?_
              have h47 : ¬ ((Lib.repeatL [100] (0 - m).toNat) = ([] : List UInt8)) := (rep_ne (by omega))
              refine T_el (decide_eq_false h47) ?_
              refine T_skip <| T_seq ?_
              have hlr := rep_len 100 (0 - m).toNat
              have hl2 := itoa_len (o := s + 1) (by omega) (by omega)
              refine T_r mixed [(4, .call [] [(iv (s + 1))] [] (sv (st (Lib.itoa (s + 1)))) []), (5, .val (.av (.string (st ((Lib.repeatL [100] (0 - m).toNat) ++ (Lib.itoa (s + 1)))))))] [ps 2 (sv (st ((Lib.repeatL [100] (0 - m).toNat) ++ (Lib.itoa (s + 1))))), ps 3 (iv 0)] (obs_cons (by simp only [InK]; omega : InK .i64 (s + 1)) (obs_cons (digits_pc (s + 1) (by omega) (by omega)) (obs_cons (rfl : Ren0 520 [(iv (s + 1))]) (obs_cons (by first | omega | (simp only [List.length_append, List.length_cons, List.length_nil]; omega) : (((Lib.repeatL [100] (0 - m).toNat).length + (Lib.itoa (s + 1)).length : Nat) : Int) ≤ 9223372036854775807) (obs_cons (st_app _ _ : st (Lib.repeatL [100] (0 - m).toNat) ++ st (Lib.itoa (s + 1)) = st ((Lib.repeatL [100] (0 - m).toNat) ++ (Lib.itoa (s + 1)))) obs_nil))))) ?_
              rw [name_ok0 (s := s) (h := h) (q := (Lib.repeatL [100] (0 - m).toNat)) h1 (by omega) (by rw [← hm]; exact (q_dn (by omega) (by omega) (perf_yes (s := s) (by omega)))) (by omega)]
              exact T_ret fun cx_ a_ hI_ => rt hc0 [ps 2 (sv (st ((Lib.repeatL [100] (0 - m).toNat) ++ (Lib.itoa (s + 1))))), ps 3 (iv 0)] [] hI_
            refine T_el (decide_eq_false h46) ?_
            refine T_skip <| T_seq <| T_seq ?_
            refine T_r mixed [(1, .val (.av (.bool (decide (([] : List UInt8) = ([] : List UInt8))))))] [ps 1 (.opt 0 0), ps 8 (sv (st ([] : List UInt8))), ps 102 (bv (decide (([] : List UInt8) = ([] : List UInt8)))), pb 0 25 [(iv s), (iv h)]] (obs_cons (st_eq _ _ : ((st ([] : List UInt8)).toList == (st ([] : List UInt8)).toList) = decide (([] : List UInt8) = ([] : List UInt8))) obs_nil) ?_
            have h48 : ([] : List UInt8) = ([] : List UInt8) := rfl
            refine T_th (decide_eq_true h48) ?_
            refine T_seq ?_
            refine T_r mixed [] [ps 2 (sv (st ([] : List UInt8))), ps 3 (iv 3)] (obs_nil) ?_
            rw [name_far0 (s := s) (h := h) h1 (by omega) (by rw [← hm]; have hp := perf_yes (s := s) (by omega); first | exact .inl (by omega) | exact .inr (.inl ⟨hp, by omega⟩))]
            exact T_ret fun cx_ a_ hI_ => rt hc0 [ps 2 (sv (st ([] : List UInt8))), ps 3 (iv 3)] [] hI_
          refine T_r mixed [(3, .gd false .no), (4, .gd false .no), (5, .yes false)] [ps 1 (.opt 0 0), ps 6 (iv m), ps 8 (sv (st ([] : List UInt8))), ps 75 (bv false), pb 0 25 [(iv s), (iv h)]] (obs_cons (decide_eq_false h45) (obs_cons (decide_eq_false h45) (obs_cons (decide_eq_false h45) obs_nil))) ?_
          refine T_else (b := false) rfl rfl ?_
          refine T_skip <| T_seq <| T_seq ?_
          refine T_r mixed [(1, .val (.av (.bool (decide (([] : List UInt8) = ([] : List UInt8))))))] [ps 1 (.opt 0 0), ps 8 (sv (st ([] : List UInt8))), ps 102 (bv (decide (([] : List UInt8) = ([] : List UInt8)))), pb 0 25 [(iv s), (iv h)]] (obs_cons (st_eq _ _ : ((st ([] : List UInt8)).toList == (st ([] : List UInt8)).toList) = decide (([] : List UInt8) = ([] : List UInt8))) obs_nil) ?_
          have h49 : ([] : List UInt8) = ([] : List UInt8) := rfl
          refine T_th (decide_eq_true h49) ?_
          refine T_seq ?_
          refine T_r mixed [] [ps 2 (sv (st ([] : List UInt8))), ps 3 (iv 3)] (obs_nil) ?_
          rw [name_far0 (s := s) (h := h) h1 (by omega) (by rw [← hm]; have hp := perf_yes (s := s) (by omega); first | exact .inl (by omega) | exact .inr (.inl ⟨hp, by omega⟩))]
          exact T_ret fun cx_ a_ hI_ => rt hc0 [ps 2 (sv (st ([] : List UInt8))), ps 3 (iv 3)] [] hI_
        refine T_r mixed [(3, .gd false .no), (4, .gd false .no), (5, .yes false)] [ps 1 (.opt 0 0), ps 6 (iv m), ps 8 (sv (st ([] : List UInt8))), ps 67 (bv false), pb 0 25 [(iv s), (iv h)]] (obs_cons (decide_eq_false h42) (obs_cons (decide_eq_false h42) (obs_cons (decide_eq_false h42) obs_nil))) ?_
        refine T_else (b := false) rfl rfl ?_
        refine T_seq ?_
        by_cases h50 : m < 0
        · refine T_r mixed [(3, .gd true (.no)), (4, .gd true (.no)), (5, .yes true)] [ps 1 (.opt 0 0), ps 6 (iv m), ps 8 (sv (st ([] : List UInt8))), ps 75 (bv (decide ((-6) ≤ m))), pb 0 25 [(iv s), (iv h)]] (obs_cons (decide_eq_true h50) (obs_cons (decide_eq_true h50) (obs_cons (decide_eq_true h50) obs_nil))) ?_
          by_cases h51 : (-6) ≤ m
          · refine T_th (decide_eq_true h51) ?_
            refine T_r mixed [(2, .call [] [(sv (st ([100] : List UInt8))), (iv (0 - m))] [] (sv (st (Lib.repeatL [100] (0 - m).toNat))) [])] [ps 1 (.opt 0 0), ps 8 (sv (st (Lib.repeatL [100] (0 - m).toNat))), pb 0 25 [(iv s), (iv h)]] (obs_cons (by simp only [InK]; omega : InK .i64 (0 - m)) (obs_cons (times_pc 100 (0 - m) (by omega) (by omega)) (obs_cons (rfl : Ren0 456 [(sv (st ([100] : List UInt8))), (iv (0 - m))]) obs_nil))) ?_
            refine T_seq <| T_seq ?_
            refine T_r mixed [(1, .val (.av (.bool (decide ((Lib.repeatL [100] (0 - m).toNat) = ([] : List UInt8))))))] [ps 1 (.opt 0 0), ps 8 (sv (st (Lib.repeatL [100] (0 - m).toNat))), ps 102 (bv (decide ((Lib.repeatL [100] (0 - m).toNat) = ([] : List UInt8)))), pb 0 25 [(iv s), (iv h)]] (obs_cons (st_eq _ _ : ((st (Lib.repeatL [100] (0 - m).toNat)).toList == (st ([] : List UInt8)).toList) = decide ((Lib.repeatL [100] (0 - m).toNat) = ([] : List UInt8))) obs_nil) ?_
            have h52 : ¬ ((Lib.repeatL [100] (0 - m).toNat) = ([] : List UInt8)) := (rep_ne (by omega))
            refine T_el (decide_eq_false h52) ?_
            refine T_skip <| T_seq ?_
            have hlr := rep_len 100 (0 - m).toNat
            have hl2 := itoa_len (o := s + 1) (by omega) (by omega)
            refine T_r mixed [(4, .call [] [(iv (s + 1))] [] (sv (st (Lib.itoa (s + 1)))) []), (5, .val (.av (.string (st ((Lib.repeatL [100] (0 - m).toNat) ++ (Lib.itoa (s + 1)))))))] [ps 2 (sv (st ((Lib.repeatL [100] (0 - m).toNat) ++ (Lib.itoa (s + 1))))), ps 3 (iv 0)] (obs_cons (by simp only [InK]; omega : InK .i64 (s + 1)) (obs_cons (digits_pc (s + 1) (by omega) (by omega)) (obs_cons (rfl : Ren0 520 [(iv (s + 1))]) (obs_cons (by first | omega | (simp only [List.length_append, List.length_cons, List.length_nil]; omega) : (((Lib.repeatL [100] (0 - m).toNat).length + (Lib.itoa (s + 1)).length : Nat) : Int) ≤ 9223372036854775807) (obs_cons (st_app _ _ : st (Lib.repeatL [100] (0 - m).toNat) ++ st (Lib.itoa (s + 1)) = st ((Lib.repeatL [100] (0 - m).toNat) ++ (Lib.itoa (s + 1)))) obs_nil))))) ?_
            rw [name_ok0 (s := s) (h := h) (q := (Lib.repeatL [100] (0 - m).toNat)) h1 (by omega) (by rw [← hm]; exact (q_dn (by omega) (by omega) (perf_yes (s := s) (by omega)))) (by omega)]
            exact T_ret fun cx_ a_ hI_ => rt hc0 [ps 2 (sv (st ((Lib.repeatL [100] (0 - m).toNat) ++ (Lib.itoa (s + 1))))), ps 3 (iv 0)] [] hI_
          refine T_el (decide_eq_false h51) ?_
          refine T_skip <| T_seq <| T_seq ?_
          refine T_r mixed [(1, .val (.av (.bool (decide (([] : List UInt8) = ([] : List UInt8))))))] [ps 1 (.opt 0 0), ps 8 (sv (st ([] : List UInt8))), ps 102 (bv (decide (([] : List UInt8) = ([] : List UInt8)))), pb 0 25 [(iv s), (iv h)]] (obs_cons (st_eq _ _ : ((st ([] : List UInt8)).toList == (st ([] : List UInt8)).toList) = decide (([] : List UInt8) = ([] : List UInt8))) obs_nil) ?_
          have h53 : ([] : List UInt8) = ([] : List UInt8) := rfl
          refine T_th (decide_eq_true h53) ?_
          refine T_seq ?_
          refine T_r mixed [] [ps 2 (sv (st ([] : List UInt8))), ps 3 (iv 3)] (obs_nil) ?_
          rw [name_far0 (s := s) (h := h) h1 (by omega) (by rw [← hm]; have hp := perf_yes (s := s) (by omega); first | exact .inl (by omega) | exact .inr (.inl ⟨hp, by omega⟩))]
          exact T_ret fun cx_ a_ hI_ => rt hc0 [ps 2 (sv (st ([] : List UInt8))), ps 3 (iv 3)] [] hI_
        refine T_r mixed [(3, .gd false .no), (4, .gd false .no), (5, .yes false)] [ps 1 (.opt 0 0), ps 6 (iv m), ps 8 (sv (st ([] : List UInt8))), ps 75 (bv false), pb 0 25 [(iv s), (iv h)]] (obs_cons (decide_eq_false h50) (obs_cons (decide_eq_false h50) (obs_cons (decide_eq_false h50) obs_nil))) ?_
        refine T_else (b := false) rfl rfl ?_
        refine T_skip <| T_seq <| T_seq ?_
        refine T_r mixed [(1, .val (.av (.bool (decide (([] : List UInt8) = ([] : List UInt8))))))] [ps 1 (.opt 0 0), ps 8 (sv (st ([] : List UInt8))), ps 102 (bv (decide (([] : List UInt8) = ([] : List UInt8)))), pb 0 25 [(iv s), (iv h)]] (obs_cons (st_eq _ _ : ((st ([] : List UInt8)).toList == (st ([] : List UInt8)).toList) = decide (([] : List UInt8) = ([] : List UInt8))) obs_nil) ?_
        have h54 : ([] : List UInt8) = ([] : List UInt8) := rfl
        refine T_th (decide_eq_true h54) ?_
        refine T_seq ?_
        refine T_r mixed [] [ps 2 (sv (st ([] : List UInt8))), ps 3 (iv 3)] (obs_nil) ?_
        rw [name_far0 (s := s) (h := h) h1 (by omega) (by rw [← hm]; have hp := perf_yes (s := s) (by omega); first | exact .inl (by omega) | exact .inr (.inl ⟨hp, by omega⟩))]
        exact T_ret fun cx_ a_ hI_ => rt hc0 [ps 2 (sv (st ([] : List UInt8))), ps 3 (iv 3)] [] hI_
      refine T_el (decide_eq_false h39) ?_
      refine T_seq ?_
      refine T_r mixed [] [ps 1 (.opt 0 0), ps 6 (iv m), ps 8 (sv (st ([] : List UInt8))), ps 80 (bv (decide (m = 0))), pb 0 25 [(iv s), (iv h)]] (obs_nil) ?_
      by_cases h55 : m = 0
      · refine T_th (decide_eq_true h55) ?_
        refine T_r mixed [] [ps 1 (.opt 0 0), ps 8 (sv (st ([77] : List UInt8))), pb 0 25 [(iv s), (iv h)]] (obs_nil) ?_
        refine T_seq <| T_seq ?_
        refine T_r mixed [(1, .val (.av (.bool (decide (([77] : List UInt8) = ([] : List UInt8))))))] [ps 1 (.opt 0 0), ps 8 (sv (st ([77] : List UInt8))), ps 102 (bv (decide (([77] : List UInt8) = ([] : List UInt8)))), pb 0 25 [(iv s), (iv h)]] (obs_cons (st_eq _ _ : ((st ([77] : List UInt8)).toList == (st ([] : List UInt8)).toList) = decide (([77] : List UInt8) = ([] : List UInt8))) obs_nil) ?_
        have h56 : ¬ (([77] : List UInt8) = ([] : List UInt8)) := (by decide)
        refine T_el (decide_eq_false h56) ?_
        refine T_skip <| T_seq ?_
        have hl2 := itoa_len (o := s + 1) (by omega) (by omega)
        refine T_r mixed [(4, .call [] [(iv (s + 1))] [] (sv (st (Lib.itoa (s + 1)))) []), (5, .val (.av (.string (st (([77] : List UInt8) ++ (Lib.itoa (s + 1)))))))] [ps 2 (sv (st (([77] : List UInt8) ++ (Lib.itoa (s + 1))))), ps 3 (iv 0)] (obs_cons (by simp only [InK]; omega : InK .i64 (s + 1)) (obs_cons (digits_pc (s + 1) (by omega) (by omega)) (obs_cons (rfl : Ren0 400 [(iv (s + 1))]) (obs_cons (by first | omega | (simp only [List.length_append, List.length_cons, List.length_nil]; omega) : ((([77] : List UInt8).length + (Lib.itoa (s + 1)).length : Nat) : Int) ≤ 9223372036854775807) (obs_cons (st_app _ _ : st ([77] : List UInt8) ++ st (Lib.itoa (s + 1)) = st (([77] : List UInt8) ++ (Lib.itoa (s + 1)))) obs_nil))))) ?_
        rw [name_ok0 (s := s) (h := h) (q := ([77] : List UInt8)) h1 (by omega) (by rw [← hm]; exact (qual_M (by omega) (perf_no (s := s) (by omega)))) (by decide)]
        exact T_ret fun cx_ a_ hI_ => rt hc0 [ps 2 (sv (st (([77] : List UInt8) ++ (Lib.itoa (s + 1))))), ps 3 (iv 0)] [] hI_
      refine T_el (decide_eq_false h55) ?_
      refine T_seq ?_
      refine T_r mixed [] [ps 1 (.opt 0 0), ps 6 (iv m), ps 8 (sv (st ([] : List UInt8))), ps 82 (bv (decide (m = (-1)))), pb 0 25 [(iv s), (iv h)]] (obs_nil) ?_
      by_cases h57 : m = (-1)
      · refine T_th (decide_eq_true h57) ?_
        refine T_r mixed [] [ps 1 (.opt 0 0), ps 8 (sv (st ([109] : List UInt8))), pb 0 25 [(iv s), (iv h)]] (obs_nil) ?_
        refine T_seq <| T_seq ?_
        refine T_r mixed [(1, .val (.av (.bool (decide (([109] : List UInt8) = ([] : List UInt8))))))] [ps 1 (.opt 0 0), ps 8 (sv (st ([109] : List UInt8))), ps 102 (bv (decide (([109] : List UInt8) = ([] : List UInt8)))), pb 0 25 [(iv s), (iv h)]] (obs_cons (st_eq _ _ : ((st ([109] : List UInt8)).toList == (st ([] : List UInt8)).toList) = decide (([109] : List UInt8) = ([] : List UInt8))) obs_nil) ?_
        have h58 : ¬ (([109] : List UInt8) = ([] : List UInt8)) := (by decide)
        refine T_el (decide_eq_false h58) ?_
        refine T_skip <| T_seq ?_
        have hl2 := itoa_len (o := s + 1) (by omega) (by omega)
        refine T_r mixed [(4, .call [] [(iv (s + 1))] [] (sv (st (Lib.itoa (s + 1)))) []), (5, .val (.av (.string (st (([109] : List UInt8) ++ (Lib.itoa (s + 1)))))))] [ps 2 (sv (st (([109] : List UInt8) ++ (Lib.itoa (s + 1))))), ps 3 (iv 0)] (obs_cons (by simp only [InK]; omega : InK .i64 (s + 1)) (obs_cons (digits_pc (s + 1) (by omega) (by omega)) (obs_cons (rfl : Ren0 416 [(iv (s + 1))]) (obs_cons (by first | omega | (simp only [List.length_append, List.length_cons, List.length_nil]; omega) : ((([109] : List UInt8).length + (Lib.itoa (s + 1)).length : Nat) : Int) ≤ 9223372036854775807) (obs_cons (st_app _ _ : st ([109] : List UInt8) ++ st (Lib.itoa (s + 1)) = st (([109] : List UInt8) ++ (Lib.itoa (s + 1)))) obs_nil))))) ?_
        rw [name_ok0 (s := s) (h := h) (q := ([109] : List UInt8)) h1 (by omega) (by rw [← hm]; exact (qual_m (by omega) (perf_no (s := s) (by omega)))) (by decide)]
        exact T_ret fun cx_ a_ hI_ => rt hc0 [ps 2 (sv (st (([109] : List UInt8) ++ (Lib.itoa (s + 1))))), ps 3 (iv 0)] [] hI_
      refine T_el (decide_eq_false h57) ?_
      refine T_seq ?_
      by_cases h59 : 0 < m
      · refine T_r mixed [(3, .gd true (.no)), (4, .gd true (.no)), (5, .yes true)] [ps 1 (.opt 0 0), ps 6 (iv m), ps 8 (sv (st ([] : List UInt8))), ps 88 (bv (decide (m ≤ 6))), pb 0 25 [(iv s), (iv h)]] (obs_cons (decide_eq_true h59) (obs_cons (decide_eq_true h59) (obs_cons (decide_eq_true h59) obs_nil))) ?_
        by_cases h60 : m ≤ 6
        · refine T_th (decide_eq_true h60) ?_
          refine T_r mixed [(1, .call [] [(sv (st ([65] : List UInt8))), (iv m)] [] (sv (st (Lib.repeatL [65] m.toNat))) [])] [ps 1 (.opt 0 0), ps 8 (sv (st (Lib.repeatL [65] m.toNat))), pb 0 25 [(iv s), (iv h)]] (obs_cons (times_pc 65 m (by omega) (by omega)) (obs_cons (rfl : Ren0 416 [(sv (st ([65] : List UInt8))), (iv m)]) obs_nil)) ?_
          refine T_seq <| T_seq ?_
          refine T_r mixed [(1, .val (.av (.bool (decide ((Lib.repeatL [65] m.toNat) = ([] : List UInt8))))))] [ps 1 (.opt 0 0), ps 8 (sv (st (Lib.repeatL [65] m.toNat))), ps 102 (bv (decide ((Lib.repeatL [65] m.toNat) = ([] : List UInt8)))), pb 0 25 [(iv s), (iv h)]] (obs_cons (st_eq _ _ : ((st (Lib.repeatL [65] m.toNat)).toList == (st ([] : List UInt8)).toList) = decide ((Lib.repeatL [65] m.toNat) = ([] : List UInt8))) obs_nil) ?_
          have h61 : ¬ ((Lib.repeatL [65] m.toNat) = ([] : List UInt8)) := (rep_ne (by omega))
          refine T_el (decide_eq_false h61) ?_
          refine T_skip <| T_seq ?_
          have hlr := rep_len 65 m.toNat
          have hl2 := itoa_len (o := s + 1) (by omega) (by omega)
          refine T_r mixed [(4, .call [] [(iv (s + 1))] [] (sv (st (Lib.itoa (s + 1)))) []), (5, .val (.av (.string (st ((Lib.repeatL [65] m.toNat) ++ (Lib.itoa (s + 1)))))))] [ps 2 (sv (st ((Lib.repeatL [65] m.toNat) ++ (Lib.itoa (s + 1))))), ps 3 (iv 0)] (obs_cons (by simp only [InK]; omega : InK .i64 (s + 1)) (obs_cons (digits_pc (s + 1) (by omega) (by omega)) (obs_cons (rfl : Ren0 480 [(iv (s + 1))]) (obs_cons (by first | omega | (simp only [List.length_append, List.length_cons, List.length_nil]; omega) : (((Lib.repeatL [65] m.toNat).length + (Lib.itoa (s + 1)).length : Nat) : Int) ≤ 9223372036854775807) (obs_cons (st_app _ _ : st (Lib.repeatL [65] m.toNat) ++ st (Lib.itoa (s + 1)) = st ((Lib.repeatL [65] m.toNat) ++ (Lib.itoa (s + 1)))) obs_nil))))) ?_
          rw [name_ok0 (s := s) (h := h) (q := (Lib.repeatL [65] m.toNat)) h1 (by omega) (by rw [← hm]; exact (q_up (by omega) (by omega))) (by omega)]
          exact T_ret fun cx_ a_ hI_ => rt hc0 [ps 2 (sv (st ((Lib.repeatL [65] m.toNat) ++ (Lib.itoa (s + 1))))), ps 3 (iv 0)] [] hI_
        refine T_el (decide_eq_false h60) ?_
        refine T_seq ?_
        by_cases h62 : m < (-1)
        · refine T_r mixed [(3, .gd true (.no)), (4, .gd true (.no)), (5, .yes true)] [ps 1 (.opt 0 0), ps 6 (iv m), ps 8 (sv (st ([] : List UInt8))), ps 96 (bv (decide ((-7) ≤ m))), pb 0 25 [(iv s), (iv h)]] (obs_cons (decide_eq_true h62) (obs_cons (decide_eq_true h62) (obs_cons (decide_eq_true h62) obs_nil))) ?_
          by_cases h63 : (-7) ≤ m
          · refine T_th (decide_eq_true h63) ?_
            refine T_r mixed [(3, .call [] [(sv (st ([100] : List UInt8))), (iv ((0 - m) - 1))] [] (sv (st (Lib.repeatL [100] ((0 - m) - 1).toNat))) [])] [ps 1 (.opt 0 0), ps 8 (sv (st (Lib.repeatL [100] ((0 - m) - 1).toNat))), pb 0 25 [(iv s), (iv h)]] (obs_cons (by simp only [InK]; omega : InK .i64 (0 - m)) (obs_cons (by simp only [InK]; omega : InK .i64 ((0 - m) - 1)) (obs_cons (times_pc 100 ((0 - m) - 1) (by omega) (by omega)) (obs_cons (rfl : Ren0 480 [(sv (st ([100] : List UInt8))), (iv ((0 - m) - 1))]) obs_nil)))) ?_
            refine T_seq <| T_seq ?_
            refine T_r mixed [(1, .val (.av (.bool (decide ((Lib.repeatL [100] ((0 - m) - 1).toNat) = ([] : List UInt8))))))] [ps 1 (.opt 0 0), ps 8 (sv (st (Lib.repeatL [100] ((0 - m) - 1).toNat))), ps 102 (bv (decide ((Lib.repeatL [100] ((0 - m) - 1).toNat) = ([] : List UInt8)))), pb 0 25 [(iv s), (iv h)]] (obs_cons (st_eq _ _ : ((st (Lib.repeatL [100] ((0 - m) - 1).toNat)).toList == (st ([] : List UInt8)).toList) = decide ((Lib.repeatL [100] ((0 - m) - 1).toNat) = ([] : List UInt8))) obs_nil) ?_
            have h64 : ¬ ((Lib.repeatL [100] ((0 - m) - 1).toNat) = ([] : List UInt8)) := (rep_ne (by omega))
            refine T_el (decide_eq_false h64) ?_
            refine T_skip <| T_seq ?_
            have hlr := rep_len 100 ((0 - m) - 1).toNat
            have hl2 := itoa_len (o := s + 1) (by omega) (by omega)
            refine T_r mixed [(4, .call [] [(iv (s + 1))] [] (sv (st (Lib.itoa (s + 1)))) []), (5, .val (.av (.string (st ((Lib.repeatL [100] ((0 - m) - 1).toNat) ++ (Lib.itoa (s + 1)))))))] [ps 2 (sv (st ((Lib.repeatL [100] ((0 - m) - 1).toNat) ++ (Lib.itoa (s + 1))))), ps 3 (iv 0)] (obs_cons (by simp only [InK]; omega : InK .i64 (s + 1)) (obs_cons (digits_pc (s + 1) (by omega) (by omega)) (obs_cons (rfl : Ren0 544 [(iv (s + 1))]) (obs_cons (by first | omega | (simp only [List.length_append, List.length_cons, List.length_nil]; omega) : (((Lib.repeatL [100] ((0 - m) - 1).toNat).length + (Lib.itoa (s + 1)).length : Nat) : Int) ≤ 9223372036854775807) (obs_cons (st_app _ _ : st (Lib.repeatL [100] ((0 - m) - 1).toNat) ++ st (Lib.itoa (s + 1)) = st ((Lib.repeatL [100] ((0 - m) - 1).toNat) ++ (Lib.itoa (s + 1)))) obs_nil))))) ?_
            rw [name_ok0 (s := s) (h := h) (q := (Lib.repeatL [100] ((0 - m) - 1).toNat)) h1 (by omega) (by rw [← hm]; exact (q_dn2 (by omega) (by omega) (perf_no (s := s) (by omega)))) (by omega)]
            exact T_ret fun cx_ a_ hI_ => rt hc0 [ps 2 (sv (st ((Lib.repeatL [100] ((0 - m) - 1).toNat) ++ (Lib.itoa (s + 1))))), ps 3 (iv 0)] [] hI_
          refine T_el (decide_eq_false h63) ?_
          refine T_skip <| T_seq <| T_seq ?_
          refine T_r mixed [(1, .val (.av (.bool (decide (([] : List UInt8) = ([] : List UInt8))))))] [ps 1 (.opt 0 0), ps 8 (sv (st ([] : List UInt8))), ps 102 (bv (decide (([] : List UInt8) = ([] : List UInt8)))), pb 0 25 [(iv s), (iv h)]] (obs_cons (st_eq _ _ : ((st ([] : List UInt8)).toList == (st ([] : List UInt8)).toList) = decide (([] : List UInt8) = ([] : List UInt8))) obs_nil) ?_
          have h65 : ([] : List UInt8) = ([] : List UInt8) := rfl
          refine T_th (decide_eq_true h65) ?_
          refine T_seq ?_
          refine T_r mixed [] [ps 2 (sv (st ([] : List UInt8))), ps 3 (iv 3)] (obs_nil) ?_
          rw [name_far0 (s := s) (h := h) h1 (by omega) (by rw [← hm]; have hp := perf_no (s := s) (by omega); first | exact .inl (by omega) | exact .inr (.inr ⟨hp, by omega⟩))]
          exact T_ret fun cx_ a_ hI_ => rt hc0 [ps 2 (sv (st ([] : List UInt8))), ps 3 (iv 3)] [] hI_
        refine T_r mixed [(3, .gd false .no), (4, .gd false .no), (5, .yes false)] [ps 1 (.opt 0 0), ps 6 (iv m), ps 8 (sv (st ([] : List UInt8))), ps 96 (bv false), pb 0 25 [(iv s), (iv h)]] (obs_cons (decide_eq_false h62) (obs_cons (decide_eq_false h62) (obs_cons (decide_eq_false h62) obs_nil))) ?_
        refine T_else (b := false) rfl rfl ?_
        refine T_skip <| T_seq <| T_seq ?_
        refine T_r mixed [(1, .val (.av (.bool (decide (([] : List UInt8) = ([] : List UInt8))))))] [ps 1 (.opt 0 0), ps 8 (sv (st ([] : List UInt8))), ps 102 (bv (decide (([] : List UInt8) = ([] : List UInt8)))), pb 0 25 [(iv s), (iv h)]] (obs_cons (st_eq _ _ : ((st ([] : List UInt8)).toList == (st ([] : List UInt8)).toList) = decide (([] : List UInt8) = ([] : List UInt8))) obs_nil) ?_
        have h66 : ([] : List UInt8) = ([] : List UInt8) := rfl
        refine T_th (decide_eq_true h66) ?_
        refine T_seq ?_
        refine T_r mixed [] [ps 2 (sv (st ([] : List UInt8))), ps 3 (iv 3)] (obs_nil) ?_
        rw [name_far0 (s := s) (h := h) h1 (by omega) (by rw [← hm]; have hp := perf_no (s := s) (by omega); first | exact .inl (by omega) | exact .inr (.inr ⟨hp, by omega⟩))]
        exact T_ret fun cx_ a_ hI_ => rt hc0 [ps 2 (sv (st ([] : List UInt8))), ps 3 (iv 3)] [] hI_
      refine T_r mixed [(3, .gd false .no), (4, .gd false .no), (5, .yes false)] [ps 1 (.opt 0 0), ps 6 (iv m), ps 8 (sv (st ([] : List UInt8))), ps 88 (bv false), pb 0 25 [(iv s), (iv h)]] (obs_cons (decide_eq_false h59) (obs_cons (decide_eq_false h59) (obs_cons (decide_eq_false h59) obs_nil))) ?_
      refine T_else (b := false) rfl rfl ?_
      refine T_seq ?_
      by_cases h67 : m < (-1)
      · refine T_r mixed [(3, .gd true (.no)), (4, .gd true (.no)), (5, .yes true)] [ps 1 (.opt 0 0), ps 6 (iv m), ps 8 (sv (st ([] : List UInt8))), ps 96 (bv (decide ((-7) ≤ m))), pb 0 25 [(iv s), (iv h)]] (obs_cons (decide_eq_true h67) (obs_cons (decide_eq_true h67) (obs_cons (decide_eq_true h67) obs_nil))) ?_
        by_cases h68 : (-7) ≤ m
        · refine T_th (decide_eq_true h68) ?_
          refine T_r mixed [(3, .call [] [(sv (st ([100] : List UInt8))), (iv ((0 - m) - 1))] [] (sv (st (Lib.repeatL [100] ((0 - m) - 1).toNat))) [])] [ps 1 (.opt 0 0), ps 8 (sv (st (Lib.repeatL [100] ((0 - m) - 1).toNat))), pb 0 25 [(iv s), (iv h)]] (obs_cons (by simp only [InK]; omega : InK .i64 (0 - m)) (obs_cons (by simp only [InK]; omega : InK .i64 ((0 - m) - 1)) (obs_cons (times_pc 100 ((0 - m) - 1) (by omega) (by omega)) (obs_cons (rfl : Ren0 480 [(sv (st ([100] : List UInt8))), (iv ((0 - m) - 1))]) obs_nil)))) ?_
          refine T_seq <| T_seq ?_
          refine T_r mixed [(1, .val (.av (.bool (decide ((Lib.repeatL [100] ((0 - m) - 1).toNat) = ([] : List UInt8))))))] [ps 1 (.opt 0 0), ps 8 (sv (st (Lib.repeatL [100] ((0 - m) - 1).toNat))), ps 102 (bv (decide ((Lib.repeatL [100] ((0 - m) - 1).toNat) = ([] : List UInt8)))), pb 0 25 [(iv s), (iv h)]] (obs_cons (st_eq _ _ : ((st (Lib.repeatL [100] ((0 - m) - 1).toNat)).toList == (st ([] : List UInt8)).toList) = decide ((Lib.repeatL [100] ((0 - m) - 1).toNat) = ([] : List UInt8))) obs_nil) ?_
          have h69 : ¬ ((Lib.repeatL [100] ((0 - m) - 1).toNat) = ([] : List UInt8)) := (rep_ne (by omega))
          refine T_el (decide_eq_false h69) ?_
          refine T_skip <| T_seq ?_
          have hlr := rep_len 100 ((0 - m) - 1).toNat
          have hl2 := itoa_len (o := s + 1) (by omega) (by omega)
          refine T_r mixed [(4, .call [] [(iv (s + 1))] [] (sv (st (Lib.itoa (s + 1)))) []), (5, .val (.av (.string (st ((Lib.repeatL [100] ((0 - m) - 1).toNat) ++ (Lib.itoa (s + 1)))))))] [ps 2 (sv (st ((Lib.repeatL [100] ((0 - m) - 1).toNat) ++ (Lib.itoa (s + 1))))), ps 3 (iv 0)] (obs_cons (by simp only [InK]; omega : InK .i64 (s + 1)) (obs_cons (digits_pc (s + 1) (by omega) (by omega)) (obs_cons (rfl : Ren0 544 [(iv (s + 1))]) (obs_cons (by first | omega | (simp only [List.length_append, List.length_cons, List.length_nil]; omega) : (((Lib.repeatL [100] ((0 - m) - 1).toNat).length + (Lib.itoa (s + 1)).length : Nat) : Int) ≤ 9223372036854775807) (obs_cons (st_app _ _ : st (Lib.repeatL [100] ((0 - m) - 1).toNat) ++ st (Lib.itoa (s + 1)) = st ((Lib.repeatL [100] ((0 - m) - 1).toNat) ++ (Lib.itoa (s + 1)))) obs_nil))))) ?_
          rw [name_ok0 (s := s) (h := h) (q := (Lib.repeatL [100] ((0 - m) - 1).toNat)) h1 (by omega) (by rw [← hm]; exact (q_dn2 (by omega) (by omega) (perf_no (s := s) (by omega)))) (by omega)]
          exact T_ret fun cx_ a_ hI_ => rt hc0 [ps 2 (sv (st ((Lib.repeatL [100] ((0 - m) - 1).toNat) ++ (Lib.itoa (s + 1))))), ps 3 (iv 0)] [] hI_
        refine T_el (decide_eq_false h68) ?_
        refine T_skip <| T_seq <| T_seq ?_
        refine T_r mixed [(1, .val (.av (.bool (decide (([] : List UInt8) = ([] : List UInt8))))))] [ps 1 (.opt 0 0), ps 8 (sv (st ([] : List UInt8))), ps 102 (bv (decide (([] : List UInt8) = ([] : List UInt8)))), pb 0 25 [(iv s), (iv h)]] (obs_cons (st_eq _ _ : ((st ([] : List UInt8)).toList == (st ([] : List UInt8)).toList) = decide (([] : List UInt8) = ([] : List UInt8))) obs_nil) ?_
        have h70 : ([] : List UInt8) = ([] : List UInt8) := rfl
        refine T_th (decide_eq_true h70) ?_
        refine T_seq ?_
        refine T_r mixed [] [ps 2 (sv (st ([] : List UInt8))), ps 3 (iv 3)] (obs_nil) ?_
        rw [name_far0 (s := s) (h := h) h1 (by omega) (by rw [← hm]; have hp := perf_no (s := s) (by omega); first | exact .inl (by omega) | exact .inr (.inr ⟨hp, by omega⟩))]
        exact T_ret fun cx_ a_ hI_ => rt hc0 [ps 2 (sv (st ([] : List UInt8))), ps 3 (iv 3)] [] hI_
      refine T_r mixed [(3, .gd false .no), (4, .gd false .no), (5, .yes false)] [ps 1 (.opt 0 0), ps 6 (iv m), ps 8 (sv (st ([] : List UInt8))), ps 96 (bv false), pb 0 25 [(iv s), (iv h)]] (obs_cons (decide_eq_false h67) (obs_cons (decide_eq_false h67) (obs_cons (decide_eq_false h67) obs_nil))) ?_
      refine T_else (b := false) rfl rfl ?_
      refine T_skip <| T_seq <| T_seq ?_
      refine T_r mixed [(1, .val (.av (.bool (decide (([] : List UInt8) = ([] : List UInt8))))))] [ps 1 (.opt 0 0), ps 8 (sv (st ([] : List UInt8))), ps 102 (bv (decide (([] : List UInt8) = ([] : List UInt8)))), pb 0 25 [(iv s), (iv h)]] (obs_cons (st_eq _ _ : ((st ([] : List UInt8)).toList == (st ([] : List UInt8)).toList) = decide (([] : List UInt8) = ([] : List UInt8))) obs_nil) ?_
      have h71 : ([] : List UInt8) = ([] : List UInt8) := rfl
      refine T_th (decide_eq_true h71) ?_
      refine T_seq ?_
      refine T_r mixed [] [ps 2 (sv (st ([] : List UInt8))), ps 3 (iv 3)] (obs_nil) ?_
      rw [name_far0 (s := s) (h := h) h1 (by omega) (by rw [← hm]; have hp := perf_no (s := s) (by omega); first | exact .inl (by omega) | exact .inr (.inr ⟨hp, by omega⟩))]
      exact T_ret fun cx_ a_ hI_ => rt hc0 [ps 2 (sv (st ([] : List UInt8))), ps 3 (iv 3)] [] hI_
    refine T_r mixed [(4, .gd false (.no)), (5, .gd false (.no)), (6, .gd false (.no)), (7, .gd false (.no)), (8, .gd false .no), (9, .gd false .no), (10, .gd false .no), (11, .gd false (.yes false)), (12, .yes false)] [ps 1 (.opt 0 0), ps 24 (bv false), pb 0 25 [(iv s), (iv h)]] (obs_cons (decide_eq_false h2) (obs_cons (decide_eq_false h2) (obs_cons (decide_eq_false h2) (obs_cons (decide_eq_false h2) (obs_cons (decide_eq_false h4) (obs_cons (decide_eq_false h4) (obs_cons (decide_eq_false h4) (obs_cons (decide_eq_false h2) (obs_cons (decide_eq_false h4) (obs_cons (decide_eq_false h2) obs_nil)))))))))) ?_
    refine T_else (b := false) rfl rfl ?_
    refine T_skip <| T_seq ?_
    obtain ⟨m, hm⟩ : ∃ m, m = moreOf s h := ⟨_, rfl⟩
    have hmb : -9000 ≤ m ∧ m ≤ 9000 := by rw [hm]; unfold moreOf; have := Pi.nat7_range (s % 7); omega
    have hwb := Pi.white_bd s (by omega)
    refine T_rd mixed [(4, .call [] [(iv s)] [] (iv (Pi.white s)) [])] [[], [0], [], [2], [2, 3], [0, 1, 2, 3, 4], [0, 1, 2, 3, 4, 5]] [([82], [2]), ([84], [1, 82]), ([86], [2]), ([88], [1, 86]), ([90], [88]), ([92], [84, 90]), ([12], [92])] [ps 1 (.opt 0 0), ps 6 (iv (h - (Pi.white s))), pb 0 25 [(iv s), (iv h)]] (obs_cons (white_pc s (by omega) (by omega)) (obs_cons (rfl : Ren0 184 [(iv s)]) (obs_cons (by simp only [InK]; omega : InK .i64 (h - (Pi.white s))) obs_nil))) ?_
    refine T_seq ?_
    refine T_wk (Wk.eq (show _ = [ps 1 (.opt 0 0), ps 6 (iv m), pb 0 25 [(iv s), (iv h)]] from by rw [show h - Pi.white s = m from by rw [hm, more_white]])) ?_
    refine T_r mixed [] [ps 1 (.opt 0 0), ps 6 (iv m), ps 7 (iv ((s).tmod 7)), pb 0 25 [(iv s), (iv h)]] (obs_cons (by decide : 7 ≠ (0 : Int)) obs_nil) ?_
    refine T_seq ?_
    refine T_wk (Wk.eq (show _ = [ps 1 (.opt 0 0), ps 6 (iv m), ps 7 (iv (s % 7)), pb 0 25 [(iv s), (iv h)]] from by rw [Int.tmod_eq_emod_of_nonneg (show 0 ≤ s from by omega)])) ?_
    refine T_r mixed [] [ps 1 (.opt 0 0), ps 6 (iv m), ps 7 (iv (s % 7)), ps 8 (sv (st ([] : List UInt8))), pb 0 25 [(iv s), (iv h)]] (obs_nil) ?_
    refine T_seq <| T_seq ?_
    by_cases h72 : (s % 7) = 0
    · refine T_r mixed [(3, .gd true .no), (4, .gd true .no), (5, .yes true), (7, .gd true .no), (8, .gd true .no)] [ps 1 (.opt 0 0), ps 6 (iv m), ps 8 (sv (st ([] : List UInt8))), ps 59 (bv true), pb 0 25 [(iv s), (iv h)]] (obs_cons (decide_eq_true h72) (obs_cons (decide_eq_true h72) (obs_cons (decide_eq_true h72) (obs_cons (rfl : true = true) (obs_cons (rfl : true = true) obs_nil))))) ?_
      refine T_then (b := true) rfl rfl ?_
      refine T_seq ?_
      refine T_r mixed [] [ps 1 (.opt 0 0), ps 6 (iv m), ps 8 (sv (st ([] : List UInt8))), ps 61 (bv (decide (m = 0))), pb 0 25 [(iv s), (iv h)]] (obs_nil) ?_
      by_cases h73 : m = 0
      · refine T_th (decide_eq_true h73) ?_
        refine T_r mixed [] [ps 1 (.opt 0 0), ps 8 (sv (st ([80] : List UInt8))), pb 0 25 [(iv s), (iv h)]] (obs_nil) ?_
        refine T_seq <| T_seq ?_
        refine T_r mixed [(1, .val (.av (.bool (decide (([80] : List UInt8) = ([] : List UInt8))))))] [ps 1 (.opt 0 0), ps 8 (sv (st ([80] : List UInt8))), ps 102 (bv (decide (([80] : List UInt8) = ([] : List UInt8)))), pb 0 25 [(iv s), (iv h)]] (obs_cons (st_eq _ _ : ((st ([80] : List UInt8)).toList == (st ([] : List UInt8)).toList) = decide (([80] : List UInt8) = ([] : List UInt8))) obs_nil) ?_
        have h74 : ¬ (([80] : List UInt8) = ([] : List UInt8)) := (by decide)
        refine T_el (decide_eq_false h74) ?_
        refine T_skip <| T_seq ?_
        have hl2 := itoa_len (o := s + 1) (by omega) (by omega)
        refine T_r mixed [(4, .call [] [(iv (s + 1))] [] (sv (st (Lib.itoa (s + 1)))) []), (5, .val (.av (.string (st (([80] : List UInt8) ++ (Lib.itoa (s + 1)))))))] [ps 2 (sv (st (([80] : List UInt8) ++ (Lib.itoa (s + 1))))), ps 3 (iv 0)] (obs_cons (by simp only [InK]; omega : InK .i64 (s + 1)) (obs_cons (digits_pc (s + 1) (by omega) (by omega)) (obs_cons (rfl : Ren0 400 [(iv (s + 1))]) (obs_cons (by first | omega | (simp only [List.length_append, List.length_cons, List.length_nil]; omega) : ((([80] : List UInt8).length + (Lib.itoa (s + 1)).length : Nat) : Int) ≤ 9223372036854775807) (obs_cons (st_app _ _ : st ([80] : List UInt8) ++ st (Lib.itoa (s + 1)) = st (([80] : List UInt8) ++ (Lib.itoa (s + 1)))) obs_nil))))) ?_
        rw [name_ok0 (s := s) (h := h) (q := ([80] : List UInt8)) h1 (by omega) (by rw [← hm]; exact (qual_P (by omega) (perf_yes (s := s) (by omega)))) (by decide)]
        exact T_ret fun cx_ a_ hI_ => rt hc0 [ps 2 (sv (st (([80] : List UInt8) ++ (Lib.itoa (s + 1))))), ps 3 (iv 0)] [] hI_
      refine T_el (decide_eq_false h73) ?_
      refine T_seq ?_
      by_cases h75 : 0 < m
      · refine T_r mixed [(3, .gd true (.no)), (4, .gd true (.no)), (5, .yes true)] [ps 1 (.opt 0 0), ps 6 (iv m), ps 8 (sv (st ([] : List UInt8))), ps 67 (bv (decide (m ≤ 6))), pb 0 25 [(iv s), (iv h)]] (obs_cons (decide_eq_true h75) (obs_cons (decide_eq_true h75) (obs_cons (decide_eq_true h75) obs_nil))) ?_
        by_cases h76 : m ≤ 6
        · refine T_th (decide_eq_true h76) ?_
          refine T_r mixed [(1, .call [] [(sv (st ([65] : List UInt8))), (iv m)] [] (sv (st (Lib.repeatL [65] m.toNat))) [])] [ps 1 (.opt 0 0), ps 8 (sv (st (Lib.repeatL [65] m.toNat))), pb 0 25 [(iv s), (iv h)]] (obs_cons (times_pc 65 m (by omega) (by omega)) (obs_cons (rfl : Ren0 400 [(sv (st ([65] : List UInt8))), (iv m)]) obs_nil)) ?_
          refine T_seq <| T_seq ?_
          refine T_r mixed [(1, .val (.av (.bool (decide ((Lib.repeatL [65] m.toNat) = ([] : List UInt8))))))] [ps 1 (.opt 0 0), ps 8 (sv (st (Lib.repeatL [65] m.toNat))), ps 102 (bv (decide ((Lib.repeatL [65] m.toNat) = ([] : List UInt8)))), pb 0 25 [(iv s), (iv h)]] (obs_cons (st_eq _ _ : ((st (Lib.repeatL [65] m.toNat)).toList == (st ([] : List UInt8)).toList) = decide ((Lib.repeatL [65] m.toNat) = ([] : List UInt8))) obs_nil) ?_
          have h77 : ¬ ((Lib.repeatL [65] m.toNat) = ([] : List UInt8)) := (rep_ne (by omega))
          refine T_el (decide_eq_false h77) ?_
          refine T_skip <| T_seq ?_
          have hlr := rep_len 65 m.toNat
          have hl2 := itoa_len (o := s + 1) (by omega) (by omega)
          refine T_r mixed [(4, .call [] [(iv (s + 1))] [] (sv (st (Lib.itoa (s + 1)))) []), (5, .val (.av (.string (st ((Lib.repeatL [65] m.toNat) ++ (Lib.itoa (s + 1)))))))] [ps 2 (sv (st ((Lib.repeatL [65] m.toNat) ++ (Lib.itoa (s + 1))))), ps 3 (iv 0)] (obs_cons (by simp only [InK]; omega : InK .i64 (s + 1)) (obs_cons (digits_pc (s + 1) (by omega) (by omega)) (obs_cons (rfl : Ren0 464 [(iv (s + 1))]) (obs_cons (by first | omega | (simp only [List.length_append, List.length_cons, List.length_nil]; omega) : (((Lib.repeatL [65] m.toNat).length + (Lib.itoa (s + 1)).length : Nat) : Int) ≤ 9223372036854775807) (obs_cons (st_app _ _ : st (Lib.repeatL [65] m.toNat) ++ st (Lib.itoa (s + 1)) = st ((Lib.repeatL [65] m.toNat) ++ (Lib.itoa (s + 1)))) obs_nil))))) ?_
          rw [name_ok0 (s := s) (h := h) (q := (Lib.repeatL [65] m.toNat)) h1 (by omega) (by rw [← hm]; exact (q_up (by omega) (by omega))) (by omega)]
          exact T_ret fun cx_ a_ hI_ => rt hc0 [ps 2 (sv (st ((Lib.repeatL [65] m.toNat) ++ (Lib.itoa (s + 1))))), ps 3 (iv 0)] [] hI_
        refine T_el (decide_eq_false h76) ?_
        refine T_seq ?_
        by_cases h78 : m < 0
        · refine T_r mixed [(3, .gd true (.no)), (4, .gd true (.no)), (5, .yes true)] [ps 1 (.opt 0 0), ps 6 (iv m), ps 8 (sv (st ([] : List UInt8))), ps 75 (bv (decide ((-6) ≤ m))), pb 0 25 [(iv s), (iv h)]] (obs_cons (decide_eq_true h78) (obs_cons (decide_eq_true h78) (obs_cons (decide_eq_true h78) obs_nil))) ?_
          by_cases h79 : (-6) ≤ m
          · refine T_th (decide_eq_true h79) ?_
            refine T_r mixed [(2, .call [] [(sv (st ([100] : List UInt8))), (iv (0 - m))] [] (sv (st (Lib.repeatL [100] (0 - m).toNat))) [])] [ps 1 (.opt 0 0), ps 8 (sv (st (Lib.repeatL [100] (0 - m).toNat))), pb 0 25 [(iv s), (iv h)]] (obs_cons (by simp only [InK]; omega : InK .i64 (0 - m)) (obs_cons (times_pc 100 (0 - m) (by omega) (by omega)) (obs_cons (rfl : Ren0 456 [(sv (st ([100] : List UInt8))), (iv (0 - m))]) obs_nil))) ?_
            refine T_seq <| T_seq ?_
            refine T_r mixed [(1, .val (.av (.bool (decide ((Lib.repeatL [100] (0 - m).toNat) = ([] : List UInt8))))))] [ps 1 (.opt 0 0), ps 8 (sv (st (Lib.repeatL [100] (0 - m).toNat))), ps 102 (bv (decide ((Lib.repeatL [100] (0 - m).toNat) = ([] : List UInt8)))), pb 0 25 [(iv s), (iv h)]] (obs_cons (st_eq _ _ : ((st (Lib.repeatL [100] (0 - m).toNat)).toList == (st ([] : List UInt8)).toList) = decide ((Lib.repeatL [100] (0 - m).toNat) = ([] : List UInt8))) obs_nil) ?_
            have h80 : ¬ ((Lib.repeatL [100] (0 - m).toNat) = ([] : List UInt8)) := (rep_ne (by omega))
            refine T_el (decide_eq_false h80) ?_
            refine T_skip <| T_seq ?_
            have hlr := rep_len 100 (0 - m).toNat
            have hl2 := itoa_len (o := s + 1) (by omega) (by omega)
            refine T_r mixed [(4, .call [] [(iv (s + 1))] [] (sv (st (Lib.itoa (s + 1)))) []), (5, .val (.av (.string (st ((Lib.repeatL [100] (0 - m).toNat) ++ (Lib.itoa (s + 1)))))))] [ps 2 (sv (st ((Lib.repeatL [100] (0 - m).toNat) ++ (Lib.itoa (s + 1))))), ps 3 (iv 0)] (obs_cons (by simp only [InK]; omega : InK .i64 (s + 1)) (obs_cons (digits_pc (s + 1) (by omega) (by omega)) (obs_cons (rfl : Ren0 520 [(iv (s + 1))]) (obs_cons (by first | omega | (simp only [List.length_append, List.length_cons, List.length_nil]; omega) : (((Lib.repeatL [100] (0 - m).toNat).length + (Lib.itoa (s + 1)).length : Nat) : Int) ≤ 9223372036854775807) (obs_cons (st_app _ _ : st (Lib.repeatL [100] (0 - m).toNat) ++ st (Lib.itoa (s + 1)) = st ((Lib.repeatL [100] (0 - m).toNat) ++ (Lib.itoa (s + 1)))) obs_nil))))) ?_
            rw [name_ok0 (s := s) (h := h) (q := (Lib.repeatL [100] (0 - m).toNat)) h1 (by omega) (by rw [← hm]; exact (q_dn (by omega) (by omega) (perf_yes (s := s) (by omega)))) (by omega)]
            exact T_ret fun cx_ a_ hI_ => rt hc0 [ps 2 (sv (st ((Lib.repeatL [100] (0 - m).toNat) ++ (Lib.itoa (s + 1))))), ps 3 (iv 0)] [] hI_
          refine T_el (decide_eq_false h79) ?_
          refine T_skip <| T_seq <| T_seq ?_
          refine T_r mixed [(1, .val (.av (.bool (decide (([] : List UInt8) = ([] : List UInt8))))))] [ps 1 (.opt 0 0), ps 8 (sv (st ([] : List UInt8))), ps 102 (bv (decide (([] : List UInt8) = ([] : List UInt8)))), pb 0 25 [(iv s), (iv h)]] (obs_cons (st_eq _ _ : ((st ([] : List UInt8)).toList == (st ([] : List UInt8)).toList) = decide (([] : List UInt8) = ([] : List UInt8))) obs_nil) ?_
          have h81 : ([] : List UInt8) = ([] : List UInt8) := rfl
          refine T_th (decide_eq_true h81) ?_
          refine T_seq ?_
          refine T_r mixed [] [ps 2 (sv (st ([] : List UInt8))), ps 3 (iv 3)] (obs_nil) ?_
          rw [name_far0 (s := s) (h := h) h1 (by omega) (by rw [← hm]; have hp := perf_yes (s := s) (by omega); first | exact .inl (by omega) | exact .inr (.inl ⟨hp, by omega⟩))]
          exact T_ret fun cx_ a_ hI_ => rt hc0 [ps 2 (sv (st ([] : List UInt8))), ps 3 (iv 3)] [] hI_
        refine T_r mixed [(3, .gd false .no), (4, .gd false .no), (5, .yes false)] [ps 1 (.opt 0 0), ps 6 (iv m), ps 8 (sv (st ([] : List UInt8))), ps 75 (bv false), pb 0 25 [(iv s), (iv h)]] (obs_cons (decide_eq_false h78) (obs_cons (decide_eq_false h78) (obs_cons (decide_eq_false h78) obs_nil))) ?_
        refine T_else (b := false) rfl rfl ?_
        refine T_skip <| T_seq <| T_seq ?_
        refine T_r mixed [(1, .val (.av (.bool (decide (([] : List UInt8) = ([] : List UInt8))))))] [ps 1 (.opt 0 0), ps 8 (sv (st ([] : List UInt8))), ps 102 (bv (decide (([] : List UInt8) = ([] : List UInt8)))), pb 0 25 [(iv s), (iv h)]] (obs_cons (st_eq _ _ : ((st ([] : List UInt8)).toList == (st ([] : List UInt8)).toList) = decide (([] : List UInt8) = ([] : List UInt8))) obs_nil) ?_
        have h82 : ([] : List UInt8) = ([] : List UInt8) := rfl
        refine T_th (decide_eq_true h82) ?_
        refine T_seq ?_
        refine T_r mixed [] [ps 2 (sv (st ([] : List UInt8))), ps 3 (iv 3)] (obs_nil) ?_
        rw [name_far0 (s := s) (h := h) h1 (by omega) (by rw [← hm]; have hp := perf_yes (s := s) (by omega); first | exact .inl (by omega) | exact .inr (.inl ⟨hp, by omega⟩))]
        exact T_ret fun cx_ a_ hI_ => rt hc0 [ps 2 (sv (st ([] : List UInt8))), ps 3 (iv 3)] [] hI_
      refine T_r mixed [(3, .gd false .no), (4, .gd false .no), (5, .yes false)] [ps 1 (.opt 0 0), ps 6 (iv m), ps 8 (sv (st ([] : List UInt8))), ps 67 (bv false), pb 0 25 [(iv s), (iv h)]] (obs_cons (decide_eq_false h75) (obs_cons (decide_eq_false h75) (obs_cons (decide_eq_false h75) obs_nil))) ?_
      refine T_else (b := false) rfl rfl ?_
      refine T_seq ?_
      by_cases h83 : m < 0
      · refine T_r mixed [(3, .gd true (.no)), (4, .gd true (.no)), (5, .yes true)] [ps 1 (.opt 0 0), ps 6 (iv m), ps 8 (sv (st ([] : List UInt8))), ps 75 (bv (decide ((-6) ≤ m))), pb 0 25 [(iv s), (iv h)]] (obs_cons (decide_eq_true h83) (obs_cons (decide_eq_true h83) (obs_cons (decide_eq_true h83) obs_nil))) ?_
        by_cases h84 : (-6) ≤ m
        · refine T_th (decide_eq_true h84) ?_
          refine T_r mixed [(2, .call [] [(sv (st ([100] : List UInt8))), (iv (0 - m))] [] (sv (st (Lib.repeatL [100] (0 - m).toNat))) [])] [ps 1 (.opt 0 0), ps 8 (sv (st (Lib.repeatL [100] (0 - m).toNat))), pb 0 25 [(iv s), (iv h)]] (obs_cons (by simp only [InK]; omega : InK .i64 (0 - m)) (obs_cons (times_pc 100 (0 - m) (by omega) (by omega)) (obs_cons (rfl : Ren0 456 [(sv (st ([100] : List UInt8))), (iv (0 - m))]) obs_nil))) ?_
          refine T_seq <| T_seq ?_
          refine T_r mixed [(1, .val (.av (.bool (decide ((Lib.repeatL [100] (0 - m).toNat) = ([] : List UInt8))))))] [ps 1 (.opt 0 0), ps 8 (sv (st (Lib.repeatL [100] (0 - m).toNat))), ps 102 (bv (decide ((Lib.repeatL [100] (0 - m).toNat) = ([] : List UInt8)))), pb 0 25 [(iv s), (iv h)]] (obs_cons (st_eq _ _ : ((st (Lib.repeatL [100] (0 - m).toNat)).toList == (st ([] : List UInt8)).toList) = decide ((Lib.repeatL [100] (0 - m).toNat) = ([] : List UInt8))) obs_nil) ?_
          have h85 : ¬ ((Lib.repeatL [100] (0 - m).toNat) = ([] : List UInt8)) := (rep_ne (by omega))
          refine T_el (decide_eq_false h85) ?_
          refine T_skip <| T_seq ?_
          have hlr := rep_len 100 (0 - m).toNat
          have hl2 := itoa_len (o := s + 1) (by omega) (by omega)
          refine T_r mixed [(4, .call [] [(iv (s + 1))] [] (sv (st (Lib.itoa (s + 1)))) []), (5, .val (.av (.string (st ((Lib.repeatL [100] (0 - m).toNat) ++ (Lib.itoa (s + 1)))))))] [ps 2 (sv (st ((Lib.repeatL [100] (0 - m).toNat) ++ (Lib.itoa (s + 1))))), ps 3 (iv 0)] (obs_cons (by simp only [InK]; omega : InK .i64 (s + 1)) (obs_cons (digits_pc (s + 1) (by omega) (by omega)) (obs_cons (rfl : Ren0 520 [(iv (s + 1))]) (obs_cons (by first | omega | (simp only [List.length_append, List.length_cons, List.length_nil]; omega) : (((Lib.repeatL [100] (0 - m).toNat).length + (Lib.itoa (s + 1)).length : Nat) : Int) ≤ 9223372036854775807) (obs_cons (st_app _ _ : st (Lib.repeatL [100] (0 - m).toNat) ++ st (Lib.itoa (s + 1)) = st ((Lib.repeatL [100] (0 - m).toNat) ++ (Lib.itoa (s + 1)))) obs_nil))))) ?_
          rw [name_ok0 (s := s) (h := h) (q := (Lib.repeatL [100] (0 - m).toNat)) h1 (by omega) (by rw [← hm]; exact (q_dn (by omega) (by omega) (perf_yes (s := s) (by omega)))) (by omega)]
          exact T_ret fun cx_ a_ hI_ => rt hc0 [ps 2 (sv (st ((Lib.repeatL [100] (0 - m).toNat) ++ (Lib.itoa (s + 1))))), ps 3 (iv 0)] [] hI_
        refine T_el (decide_eq_false h84) ?_
        refine T_skip <| T_seq <| T_seq ?_
        refine T_r mixed [(1, .val (.av (.bool (decide (([] : List UInt8) = ([] : List UInt8))))))] [ps 1 (.opt 0 0), ps 8 (sv (st ([] : List UInt8))), ps 102 (bv (decide (([] : List UInt8) = ([] : List UInt8)))), pb 0 25 [(iv s), (iv h)]] (obs_cons (st_eq _ _ : ((st ([] : List UInt8)).toList == (st ([] : List UInt8)).toList) = decide (([] : List UInt8) = ([] : List UInt8))) obs_nil) ?_
        have h86 : ([] : List UInt8) = ([] : List UInt8) := rfl
        refine T_th (decide_eq_true h86) ?_
        refine T_seq ?_
        refine T_r mixed [] [ps 2 (sv (st ([] : List UInt8))), ps 3 (iv 3)] (obs_nil) ?_
        rw [name_far0 (s := s) (h := h) h1 (by omega) (by rw [← hm]; have hp := perf_yes (s := s) (by omega); first | exact .inl (by omega) | exact .inr (.inl ⟨hp, by omega⟩))]
        exact T_ret fun cx_ a_ hI_ => rt hc0 [ps 2 (sv (st ([] : List UInt8))), ps 3 (iv 3)] [] hI_
      refine T_r mixed [(3, .gd false .no), (4, .gd false .no), (5, .yes false)] [ps 1 (.opt 0 0), ps 6 (iv m), ps 8 (sv (st ([] : List UInt8))), ps 75 (bv false), pb 0 25 [(iv s), (iv h)]] (obs_cons (decide_eq_false h83) (obs_cons (decide_eq_false h83) (obs_cons (decide_eq_false h83) obs_nil))) ?_
      refine T_else (b := false) rfl rfl ?_
      refine T_skip <| T_seq <| T_seq ?_
      refine T_r mixed [(1, .val (.av (.bool (decide (([] : List UInt8) = ([] : List UInt8))))))] [ps 1 (.opt 0 0), ps 8 (sv (st ([] : List UInt8))), ps 102 (bv (decide (([] : List UInt8) = ([] : List UInt8)))), pb 0 25 [(iv s), (iv h)]] (obs_cons (st_eq _ _ : ((st ([] : List UInt8)).toList == (st ([] : List UInt8)).toList) = decide (([] : List UInt8) = ([] : List UInt8))) obs_nil) ?_
      have h87 : ([] : List UInt8) = ([] : List UInt8) := rfl
      refine T_th (decide_eq_true h87) ?_
      refine T_seq ?_
      refine T_r mixed [] [ps 2 (sv (st ([] : List UInt8))), ps 3 (iv 3)] (obs_nil) ?_
      rw [name_far0 (s := s) (h := h) h1 (by omega) (by rw [← hm]; have hp := perf_yes (s := s) (by omega); first | exact .inl (by omega) | exact .inr (.inl ⟨hp, by omega⟩))]
      exact T_ret fun cx_ a_ hI_ => rt hc0 [ps 2 (sv (st ([] : List UInt8))), ps 3 (iv 3)] [] hI_
    by_cases h88 : (s % 7) = 3
    · refine T_r mixed [(3, .gd false (.no)), (4, .gd false (.no)), (5, .yes false), (7, .gd true .no), (8, .gd true .no), (9, .yes true)] [ps 1 (.opt 0 0), ps 6 (iv m), ps 8 (sv (st ([] : List UInt8))), ps 59 (bv true), pb 0 25 [(iv s), (iv h)]] (obs_cons (decide_eq_false h72) (obs_cons (decide_eq_false h72) (obs_cons (decide_eq_false h72) (obs_cons (decide_eq_true h88) (obs_cons (decide_eq_true h88) (obs_cons (decide_eq_true h88) obs_nil)))))) ?_
      refine T_then (b := true) rfl rfl ?_
      refine T_seq ?_
      refine T_r mixed [] [ps 1 (.opt 0 0), ps 6 (iv m), ps 8 (sv (st ([] : List UInt8))), ps 61 (bv (decide (m = 0))), pb 0 25 [(iv s), (iv h)]] (obs_nil) ?_
      by_cases h89 : m = 0
      · refine T_th (decide_eq_true h89) ?_
        refine T_r mixed [] [ps 1 (.opt 0 0), ps 8 (sv (st ([80] : List UInt8))), pb 0 25 [(iv s), (iv h)]] (obs_nil) ?_
        refine T_seq <| T_seq ?_
        refine T_r mixed [(1, .val (.av (.bool (decide (([80] : List UInt8) = ([] : List UInt8))))))] [ps 1 (.opt 0 0), ps 8 (sv (st ([80] : List UInt8))), ps 102 (bv (decide (([80] : List UInt8) = ([] : List UInt8)))), pb 0 25 [(iv s), (iv h)]] (obs_cons (st_eq _ _ : ((st ([80] : List UInt8)).toList == (st ([] : List UInt8)).toList) = decide (([80] : List UInt8) = ([] : List UInt8))) obs_nil) ?_
        have h90 : ¬ (([80] : List UInt8) = ([] : List UInt8)) := (by decide)
        refine T_el (decide_eq_false h90) ?_
        refine T_skip <| T_seq ?_
        have hl2 := itoa_len (o := s + 1) (by omega) (by omega)
        refine T_r mixed [(4, .call [] [(iv (s + 1))] [] (sv (st (Lib.itoa (s + 1)))) []), (5, .val (.av (.string (st (([80] : List UInt8) ++ (Lib.itoa (s + 1)))))))] [ps 2 (sv (st (([80] : List UInt8) ++ (Lib.itoa (s + 1))))), ps 3 (iv 0)] (obs_cons (by simp only [InK]; omega : InK .i64 (s + 1)) (obs_cons (digits_pc (s + 1) (by omega) (by omega)) (obs_cons (rfl : Ren0 400 [(iv (s + 1))]) (obs_cons (by first | omega | (simp only [List.length_append, List.length_cons, List.length_nil]; omega) : ((([80] : List UInt8).length + (Lib.itoa (s + 1)).length : Nat) : Int) ≤ 9223372036854775807) (obs_cons (st_app _ _ : st ([80] : List UInt8) ++ st (Lib.itoa (s + 1)) = st (([80] : List UInt8) ++ (Lib.itoa (s + 1)))) obs_nil))))) ?_
        rw [name_ok0 (s := s) (h := h) (q := ([80] : List UInt8)) h1 (by omega) (by rw [← hm]; exact (qual_P (by omega) (perf_yes (s := s) (by omega)))) (by decide)]
        exact T_ret fun cx_ a_ hI_ => rt hc0 [ps 2 (sv (st (([80] : List UInt8) ++ (Lib.itoa (s + 1))))), ps 3 (iv 0)] [] hI_
      refine T_el (decide_eq_false h89) ?_
      refine T_seq ?_
      by_cases h91 : 0 < m
      · refine T_r mixed [(3, .gd true (.no)), (4, .gd true (.no)), (5, .yes true)] [ps 1 (.opt 0 0), ps 6 (iv m), ps 8 (sv (st ([] : List UInt8))), ps 67 (bv (decide (m ≤ 6))), pb 0 25 [(iv s), (iv h)]] (obs_cons (decide_eq_true h91) (obs_cons (decide_eq_true h91) (obs_cons (decide_eq_true h91) obs_nil))) ?_
        by_cases h92 : m ≤ 6
        · refine T_th (decide_eq_true h92) ?_
          refine T_r mixed [(1, .call [] [(sv (st ([65] : List UInt8))), (iv m)] [] (sv (st (Lib.repeatL [65] m.toNat))) [])] [ps 1 (.opt 0 0), ps 8 (sv (st (Lib.repeatL [65] m.toNat))), pb 0 25 [(iv s), (iv h)]] (obs_cons (times_pc 65 m (by omega) (by omega)) (obs_cons (rfl : Ren0 400 [(sv (st ([65] : List UInt8))), (iv m)]) obs_nil)) ?_
          refine T_seq <| T_seq ?_
          refine T_r mixed [(1, .val (.av (.bool (decide ((Lib.repeatL [65] m.toNat) = ([] : List UInt8))))))] [ps 1 (.opt 0 0), ps 8 (sv (st (Lib.repeatL [65] m.toNat))), ps 102 (bv (decide ((Lib.repeatL [65] m.toNat) = ([] : List UInt8)))), pb 0 25 [(iv s), (iv h)]] (obs_cons (st_eq _ _ : ((st (Lib.repeatL [65] m.toNat)).toList == (st ([] : List UInt8)).toList) = decide ((Lib.repeatL [65] m.toNat) = ([] : List UInt8))) obs_nil) ?_
          have h93 : ¬ ((Lib.repeatL [65] m.toNat) = ([] : List UInt8)) := (rep_ne (by omega))
          refine T_el (decide_eq_false h93) ?_
          refine T_skip <| T_seq ?_
          have hlr := rep_len 65 m.toNat
          have hl2 := itoa_len (o := s + 1) (by omega) (by omega)
          refine T_r mixed [(4, .call [] [(iv (s + 1))] [] (sv (st (Lib.itoa (s + 1)))) []), (5, .val (.av (.string (st ((Lib.repeatL [65] m.toNat) ++ (Lib.itoa (s + 1)))))))] [ps 2 (sv (st ((Lib.repeatL [65] m.toNat) ++ (Lib.itoa (s + 1))))), ps 3 (iv 0)] (obs_cons (by simp only [InK]; omega : InK .i64 (s + 1)) (obs_cons (digits_pc (s + 1) (by omega) (by omega)) (obs_cons (rfl : Ren0 464 [(iv (s + 1))]) (obs_cons (by first | omega | (simp only [List.length_append, List.length_cons, List.length_nil]; omega) : (((Lib.repeatL [65] m.toNat).length + (Lib.itoa (s + 1)).length : Nat) : Int) ≤ 9223372036854775807) (obs_cons (st_app _ _ : st (Lib.repeatL [65] m.toNat) ++ st (Lib.itoa (s + 1)) = st ((Lib.repeatL [65] m.toNat) ++ (Lib.itoa (s + 1)))) obs_nil))))) ?_
          rw [name_ok0 (s := s) (h := h) (q := (Lib.repeatL [65] m.toNat)) h1 (by omega) (by rw [← hm]; exact (q_up (by omega) (by omega))) (by omega)]
          exact T_ret fun cx_ a_ hI_ => rt hc0 [ps 2 (sv (st ((Lib.repeatL [65] m.toNat) ++ (Lib.itoa (s + 1))))), ps 3 (iv 0)] [] hI_
        refine T_el (decide_eq_false h92) ?_
        refine T_seq ?_
        by_cases h94 : m < 0
        · refine T_r mixed [(3, .gd true (.no)), (4, .gd true (.no)), (5, .yes true)] [ps 1 (.opt 0 0), ps 6 (iv m), ps 8 (sv (st ([] : List UInt8))), ps 75 (bv (decide ((-6) ≤ m))), pb 0 25 [(iv s), (iv h)]] (obs_cons (decide_eq_true h94) (obs_cons (decide_eq_true h94) (obs_cons (decide_eq_true h94) obs_nil))) ?_
          by_cases h95 : (-6) ≤ m
          · refine T_th (decide_eq_true h95) ?_
            refine T_r mixed [(2, .call [] [(sv (st ([100] : List UInt8))), (iv (0 - m))] [] (sv (st (Lib.repeatL [100] (0 - m).toNat))) [])] [ps 1 (.opt 0 0), ps 8 (sv (st (Lib.repeatL [100] (0 - m).toNat))), pb 0 25 [(iv s), (iv h)]] (obs_cons (by simp only [InK]; omega : InK .i64 (0 - m)) (obs_cons (times_pc 100 (0 - m) (by omega) (by omega)) (obs_cons (rfl : Ren0 456 [(sv (st ([100] : List UInt8))), (iv (0 - m))]) obs_nil))) ?_
            refine T_seq <| T_seq ?_
            refine T_r mixed [(1, .val (.av (.bool (decide ((Lib.repeatL [100] (0 - m).toNat) = ([] : List UInt8))))))] [ps 1 (.opt 0 0), ps 8 (sv (st (Lib.repeatL [100] (0 - m).toNat))), ps 102 (bv (decide ((Lib.repeatL [100] (0 - m).toNat) = ([] : List UInt8)))), pb 0 25 [(iv s), (iv h)]] (obs_cons (st_eq _ _ : ((st (Lib.repeatL [100] (0 - m).toNat)).toList == (st ([] : List UInt8)).toList) = decide ((Lib.repeatL [100] (0 - m).toNat) = ([] : List UInt8))) obs_nil) ?_
            have h96 : ¬ ((Lib.repeatL [100] (0 - m).toNat) = ([] : List UInt8)) := (rep_ne (by omega))
            refine T_el (decide_eq_false h96) ?_
            refine T_skip <| T_seq ?_
            have hlr := rep_len 100 (0 - m).toNat
            have hl2 := itoa_len (o := s + 1) (by omega) (by omega)
            refine T_r mixed [(4, .call [] [(iv (s + 1))] [] (sv (st (Lib.itoa (s + 1)))) []), (5, .val (.av (.string (st ((Lib.repeatL [100] (0 - m).toNat) ++ (Lib.itoa (s + 1)))))))] [ps 2 (sv (st ((Lib.repeatL [100] (0 - m).toNat) ++ (Lib.itoa (s + 1))))), ps 3 (iv 0)] (obs_cons (by simp only [InK]; omega : InK .i64 (s + 1)) (obs_cons (digits_pc (s + 1) (by omega) (by omega)) (obs_cons (rfl : Ren0 520 [(iv (s + 1))]) (obs_cons (by first | omega | (simp only [List.length_append, List.length_cons, List.length_nil]; omega) : (((Lib.repeatL [100] (0 - m).toNat).length + (Lib.itoa (s + 1)).length : Nat) : Int) ≤ 9223372036854775807) (obs_cons (st_app _ _ : st (Lib.repeatL [100] (0 - m).toNat) ++ st (Lib.itoa (s + 1)) = st ((Lib.repeatL [100] (0 - m).toNat) ++ (Lib.itoa (s + 1)))) obs_nil))))) ?_
            rw [name_ok0 (s := s) (h := h) (q := (Lib.repeatL [100] (0 - m).toNat)) h1 (by omega) (by rw [← hm]; exact (q_dn (by omega) (by omega) (perf_yes (s := s) (by omega)))) (by omega)]
            exact T_ret fun cx_ a_ hI_ => rt hc0 [ps 2 (sv (st ((Lib.repeatL [100] (0 - m).toNat) ++ (Lib.itoa (s + 1))))), ps 3 (iv 0)] [] hI_
          refine T_el (decide_eq_false h95) ?_
          refine T_skip <| T_seq <| T_seq ?_
          refine T_r mixed [(1, .val (.av (.bool (decide (([] : List UInt8) = ([] : List UInt8))))))] [ps 1 (.opt 0 0), ps 8 (sv (st ([] : List UInt8))), ps 102 (bv (decide (([] : List UInt8) = ([] : List UInt8)))), pb 0 25 [(iv s), (iv h)]] (obs_cons (st_eq _ _ : ((st ([] : List UInt8)).toList == (st ([] : List UInt8)).toList) = decide (([] : List UInt8) = ([] : List UInt8))) obs_nil) ?_
          have h97 : ([] : List UInt8) = ([] : List UInt8) := rfl
          refine T_th (decide_eq_true h97) ?_
          refine T_seq ?_
          refine T_r mixed [] [ps 2 (sv (st ([] : List UInt8))), ps 3 (iv 3)] (obs_nil) ?_
          rw [name_far0 (s := s) (h := h) h1 (by omega) (by rw [← hm]; have hp := perf_yes (s := s) (by omega); first | exact .inl (by omega) | exact .inr (.inl ⟨hp, by omega⟩))]
          exact T_ret fun cx_ a_ hI_ => rt hc0 [ps 2 (sv (st ([] : List UInt8))), ps 3 (iv 3)] [] hI_
        refine T_r mixed [(3, .gd false .no), (4, .gd false .no), (5, .yes false)] [ps 1 (.opt 0 0), ps 6 (iv m), ps 8 (sv (st ([] : List UInt8))), ps 75 (bv false), pb 0 25 [(iv s), (iv h)]] (obs_cons (decide_eq_false h94) (obs_cons (decide_eq_false h94) (obs_cons (decide_eq_false h94) obs_nil))) ?_
        refine T_else (b := false) rfl rfl ?_
        refine T_skip <| T_seq <| T_seq ?_
        refine T_r mixed [(1, .val (.av (.bool (decide (([] : List UInt8) = ([] : List UInt8))))))] [ps 1 (.opt 0 0), ps 8 (sv (st ([] : List UInt8))), ps 102 (bv (decide (([] : List UInt8) = ([] : List UInt8)))), pb 0 25 [(iv s), (iv h)]] (obs_cons (st_eq _ _ : ((st ([] : List UInt8)).toList == (st ([] : List UInt8)).toList) = decide (([] : List UInt8) = ([] : List UInt8))) obs_nil) ?_
        have h98 : ([] : List UInt8) = ([] : List UInt8) := rfl
        refine T_th (decide_eq_true h98) ?_
        refine T_seq ?_
        refine T_r mixed [] [ps 2 (sv (st ([] : List UInt8))), ps 3 (iv 3)] (obs_nil) ?_
        rw [name_far0 (s := s) (h := h) h1 (by omega) (by rw [← hm]; have hp := perf_yes (s := s) (by omega); first | exact .inl (by omega) | exact .inr (.inl ⟨hp, by omega⟩))]
        exact T_ret fun cx_ a_ hI_ => rt hc0 [ps 2 (sv (st ([] : List UInt8))), ps 3 (iv 3)] [] hI_
      refine T_r mixed [(3, .gd false .no), (4, .gd false .no), (5, .yes false)] [ps 1 (.opt 0 0), ps 6 (iv m), ps 8 (sv (st ([] : List UInt8))), ps 67 (bv false), pb 0 25 [(iv s), (iv h)]] (obs_cons (decide_eq_false h91) (obs_cons (decide_eq_false h91) (obs_cons (decide_eq_false h91) obs_nil))) ?_
      refine T_else (b := false) rfl rfl ?_
      refine T_seq ?_
      by_cases h99 : m < 0
      · refine T_r mixed [(3, .gd true (.no)), (4, .gd true (.no)), (5, .yes true)] [ps 1 (.opt 0 0), ps 6 (iv m), ps 8 (sv (st ([] : List UInt8))), ps 75 (bv (decide ((-6) ≤ m))), pb 0 25 [(iv s), (iv h)]] (obs_cons (decide_eq_true h99) (obs_cons (decide_eq_true h99) (obs_cons (decide_eq_true h99) obs_nil))) ?_
        by_cases h100 : (-6) ≤ m
        · refine T_th (decide_eq_true h100) ?_
          refine T_r mixed [(2, .call [] [(sv (st ([100] : List UInt8))), (iv (0 - m))] [] (sv (st (Lib.repeatL [100] (0 - m).toNat))) [])] [ps 1 (.opt 0 0), ps 8 (sv (st (Lib.repeatL [100] (0 - m).toNat))), pb 0 25 [(iv s), (iv h)]] (obs_cons (by simp only [InK]; omega : InK .i64 (0 - m)) (obs_cons (times_pc 100 (0 - m) (by omega) (by omega)) (obs_cons (rfl : Ren0 456 [(sv (st ([100] : List UInt8))), (iv (0 - m))]) obs_nil))) ?_
          refine T_seq <| T_seq ?_
          refine T_r mixed [(1, .val (.av (.bool (decide ((Lib.repeatL [100] (0 - m).toNat) = ([] : List UInt8))))))] [ps 1 (.opt 0 0), ps 8 (sv (st (Lib.repeatL [100] (0 - m).toNat))), ps 102 (bv (decide ((Lib.repeatL [100] (0 - m).toNat) = ([] : List UInt8)))), pb 0 25 [(iv s), (iv h)]] (obs_cons (st_eq _ _ : ((st (Lib.repeatL [100] (0 - m).toNat)).toList == (st ([] : List UInt8)).toList) = decide ((Lib.repeatL [100] (0 - m).toNat) = ([] : List UInt8))) obs_nil) ?_
          have h101 : ¬ ((Lib.repeatL [100] (0 - m).toNat) = ([] : List UInt8)) := (rep_ne (by omega))
          refine T_el (decide_eq_false h101) ?_
          refine T_skip <| T_seq ?_
          have hlr := rep_len 100 (0 - m).toNat
          have hl2 := itoa_len (o := s + 1) (by omega) (by omega)
          refine T_r mixed [(4, .call [] [(iv (s + 1))] [] (sv (st (Lib.itoa (s + 1)))) []), (5, .val (.av (.string (st ((Lib.repeatL [100] (0 - m).toNat) ++ (Lib.itoa (s + 1)))))))] [ps 2 (sv (st ((Lib.repeatL [100] (0 - m).toNat) ++ (Lib.itoa (s + 1))))), ps 3 (iv 0)] (obs_cons (by simp only [InK]; omega : InK .i64 (s + 1)) (obs_cons (digits_pc (s + 1) (by omega) (by omega)) (obs_cons (rfl : Ren0 520 [(iv (s + 1))]) (obs_cons (by first | omega | (simp only [List.length_append, List.length_cons, List.length_nil]; omega) : (((Lib.repeatL [100] (0 - m).toNat).length + (Lib.itoa (s + 1)).length : Nat) : Int) ≤ 9223372036854775807) (obs_cons (st_app _ _ : st (Lib.repeatL [100] (0 - m).toNat) ++ st (Lib.itoa (s + 1)) = st ((Lib.repeatL [100] (0 - m).toNat) ++ (Lib.itoa (s + 1)))) obs_nil))))) ?_
          rw [name_ok0 (s := s) (h := h) (q := (Lib.repeatL [100] (0 - m).toNat)) h1 (by omega) (by rw [← hm]; exact (q_dn (by omega) (by omega) (perf_yes (s := s) (by omega)))) (by omega)]
          exact T_ret fun cx_ a_ hI_ => rt hc0 [ps 2 (sv (st ((Lib.repeatL [100] (0 - m).toNat) ++ (Lib.itoa (s + 1))))), ps 3 (iv 0)] [] hI_
        refine T_el (decide_eq_false h100) ?_
        refine T_skip <| T_seq <| T_seq ?_
        refine T_r mixed [(1, .val (.av (.bool (decide (([] : List UInt8) = ([] : List UInt8))))))] [ps 1 (.opt 0 0), ps 8 (sv (st ([] : List UInt8))), ps 102 (bv (decide (([] : List UInt8) = ([] : List UInt8)))), pb 0 25 [(iv s), (iv h)]] (obs_cons (st_eq _ _ : ((st ([] : List UInt8)).toList == (st ([] : List UInt8)).toList) = decide (([] : List UInt8) = ([] : List UInt8))) obs_nil) ?_
        have h102 : ([] : List UInt8) = ([] : List UInt8) := rfl
        refine T_th (decide_eq_true h102) ?_
        refine T_seq ?_
        refine T_r mixed [] [ps 2 (sv (st ([] : List UInt8))), ps 3 (iv 3)] (obs_nil) ?_
        rw [name_far0 (s := s) (h := h) h1 (by omega) (by rw [← hm]; have hp := perf_yes (s := s) (by omega); first | exact .inl (by omega) | exact .inr (.inl ⟨hp, by omega⟩))]
        exact T_ret fun cx_ a_ hI_ => rt hc0 [ps 2 (sv (st ([] : List UInt8))), ps 3 (iv 3)] [] hI_
      refine T_r mixed [(3, .gd false .no), (4, .gd false .no), (5, .yes false)] [ps 1 (.opt 0 0), ps 6 (iv m), ps 8 (sv (st ([] : List UInt8))), ps 75 (bv false), pb 0 25 [(iv s), (iv h)]] (obs_cons (decide_eq_false h99) (obs_cons (decide_eq_false h99) (obs_cons (decide_eq_false h99) obs_nil))) ?_
      refine T_else (b := false) rfl rfl ?_
      refine T_skip <| T_seq <| T_seq ?_
      refine T_r mixed [(1, .val (.av (.bool (decide (([] : List UInt8) = ([] : List UInt8))))))] [ps 1 (.opt 0 0), ps 8 (sv (st ([] : List UInt8))), ps 102 (bv (decide (([] : List UInt8) = ([] : List UInt8)))), pb 0 25 [(iv s), (iv h)]] (obs_cons (st_eq _ _ : ((st ([] : List UInt8)).toList == (st ([] : List UInt8)).toList) = decide (([] : List UInt8) = ([] : List UInt8))) obs_nil) ?_
      have h103 : ([] : List UInt8) = ([] : List UInt8) := rfl
      refine T_th (decide_eq_true h103) ?_
      refine T_seq ?_
      refine T_r mixed [] [ps 2 (sv (st ([] : List UInt8))), ps 3 (iv 3)] (obs_nil) ?_
      rw [name_far0 (s := s) (h := h) h1 (by omega) (by rw [← hm]; have hp := perf_yes (s := s) (by omega); first | exact .inl (by omega) | exact .inr (.inl ⟨hp, by omega⟩))]
      exact T_ret fun cx_ a_ hI_ => rt hc0 [ps 2 (sv (st ([] : List UInt8))), ps 3 (iv 3)] [] hI_
    refine T_r mixed [(3, .gd false (.no)), (4, .gd false (.no)), (5, .yes false), (7, .gd false (.no)), (8, .gd false (.no)), (9, .yes false)] [ps 1 (.opt 0 0), ps 6 (iv m), ps 8 (sv (st ([] : List UInt8))), ps 59 (bv (decide ((s % 7) = 4))), pb 0 25 [(iv s), (iv h)]] (obs_cons (decide_eq_false h72) (obs_cons (decide_eq_false h72) (obs_cons (decide_eq_false h72) (obs_cons (decide_eq_false h88) (obs_cons (decide_eq_false h88) (obs_cons (decide_eq_false h88) obs_nil)))))) ?_
    by_cases h104 : (s % 7) = 4
    · refine T_th (decide_eq_true h104) ?_
      refine T_seq ?_
      refine T_r mixed [] [ps 1 (.opt 0 0), ps 6 (iv m), ps 8 (sv (st ([] : List UInt8))), ps 61 (bv (decide (m = 0))), pb 0 25 [(iv s), (iv h)]] (obs_nil) ?_
      by_cases h105 : m = 0
      · refine T_th (decide_eq_true h105) ?_
        refine T_r mixed [] [ps 1 (.opt 0 0), ps 8 (sv (st ([80] : List UInt8))), pb 0 25 [(iv s), (iv h)]] (obs_nil) ?_
        refine T_seq <| T_seq ?_
        refine T_r mixed [(1, .val (.av (.bool (decide (([80] : List UInt8) = ([] : List UInt8))))))] [ps 1 (.opt 0 0), ps 8 (sv (st ([80] : List UInt8))), ps 102 (bv (decide (([80] : List UInt8) = ([] : List UInt8)))), pb 0 25 [(iv s), (iv h)]] (obs_cons (st_eq _ _ : ((st ([80] : List UInt8)).toList == (st ([] : List UInt8)).toList) = decide (([80] : List UInt8) = ([] : List UInt8))) obs_nil) ?_
        have h106 : ¬ (([80] : List UInt8) = ([] : List UInt8)) := (by decide)
        refine T_el (decide_eq_false h106) ?_
        refine T_skip <| T_seq ?_
        have hl2 := itoa_len (o := s + 1) (by omega) (by omega)
        refine T_r mixed [(4, .call [] [(iv (s + 1))] [] (sv (st (Lib.itoa (s + 1)))) []), (5, .val (.av (.string (st (([80] : List UInt8) ++ (Lib.itoa (s + 1)))))))] [ps 2 (sv (st (([80] : List UInt8) ++ (Lib.itoa (s + 1))))), ps 3 (iv 0)] (obs_cons (by simp only [InK]; omega : InK .i64 (s + 1)) (obs_cons (digits_pc (s + 1) (by omega) (by omega)) (obs_cons (rfl : Ren0 400 [(iv (s + 1))]) (obs_cons (by first | omega | (simp only [List.length_append, List.length_cons, List.length_nil]; omega) : ((([80] : List UInt8).length + (Lib.itoa (s + 1)).length : Nat) : Int) ≤ 9223372036854775807) (obs_cons (st_app _ _ : st ([80] : List UInt8) ++ st (Lib.itoa (s + 1)) = st (([80] : List UInt8) ++ (Lib.itoa (s + 1)))) obs_nil))))) ?_
        rw [name_ok0 (s := s) (h := h) (q := ([80] : List UInt8)) h1 (by omega) (by rw [← hm]; exact (qual_P (by omega) (perf_yes (s := s) (by omega)))) (by decide)]
        exact T_ret fun cx_ a_ hI_ => rt hc0 [ps 2 (sv (st (([80] : List UInt8) ++ (Lib.itoa (s + 1))))), ps 3 (iv 0)] [] hI_
      refine T_el (decide_eq_false h105) ?_
      refine T_seq ?_
      by_cases h107 : 0 < m
      · refine T_r mixed [(3, .gd true (.no)), (4, .gd true (.no)), (5, .yes true)] [ps 1 (.opt 0 0), ps 6 (iv m), ps 8 (sv (st ([] : List UInt8))), ps 67 (bv (decide (m ≤ 6))), pb 0 25 [(iv s), (iv h)]] (obs_cons (decide_eq_true h107) (obs_cons (decide_eq_true h107) (obs_cons (decide_eq_true h107) obs_nil))) ?_
        by_cases h108 : m ≤ 6
        · refine T_th (decide_eq_true h108) ?_
          refine T_r mixed [(1, .call [] [(sv (st ([65] : List UInt8))), (iv m)] [] (sv (st (Lib.repeatL [65] m.toNat))) [])] [ps 1 (.opt 0 0), ps 8 (sv (st (Lib.repeatL [65] m.toNat))), pb 0 25 [(iv s), (iv h)]] (obs_cons (times_pc 65 m (by omega) (by omega)) (obs_cons (rfl : Ren0 400 [(sv (st ([65] : List UInt8))), (iv m)]) obs_nil)) ?_
          refine T_seq <| T_seq ?_
          refine T_r mixed [(1, .val (.av (.bool (decide ((Lib.repeatL [65] m.toNat) = ([] : List UInt8))))))] [ps 1 (.opt 0 0), ps 8 (sv (st (Lib.repeatL [65] m.toNat))), ps 102 (bv (decide ((Lib.repeatL [65] m.toNat) = ([] : List UInt8)))), pb 0 25 [(iv s), (iv h)]] (obs_cons (st_eq _ _ : ((st (Lib.repeatL [65] m.toNat)).toList == (st ([] : List UInt8)).toList) = decide ((Lib.repeatL [65] m.toNat) = ([] : List UInt8))) obs_nil) ?_
          have h109 : ¬ ((Lib.repeatL [65] m.toNat) = ([] : List UInt8)) := (rep_ne (by omega))
          refine T_el (decide_eq_false h109) ?_
          refine T_skip <| T_seq ?_
          have hlr := rep_len 65 m.toNat
          have hl2 := itoa_len (o := s + 1) (by omega) (by omega)
          refine T_r mixed [(4, .call [] [(iv (s + 1))] [] (sv (st (Lib.itoa (s + 1)))) []), (5, .val (.av (.string (st ((Lib.repeatL [65] m.toNat) ++ (Lib.itoa (s + 1)))))))] [ps 2 (sv (st ((Lib.repeatL [65] m.toNat) ++ (Lib.itoa (s + 1))))), ps 3 (iv 0)] (obs_cons (by simp only [InK]; omega : InK .i64 (s + 1)) (obs_cons (digits_pc (s + 1) (by omega) (by omega)) (obs_cons (rfl : Ren0 464 [(iv (s + 1))]) (obs_cons (by first | omega | (simp only [List.length_append, List.length_cons, List.length_nil]; omega) : (((Lib.repeatL [65] m.toNat).length + (Lib.itoa (s + 1)).length : Nat) : Int) ≤ 9223372036854775807) (obs_cons (st_app _ _ : st (Lib.repeatL [65] m.toNat) ++ st (Lib.itoa (s + 1)) = st ((Lib.repeatL [65] m.toNat) ++ (Lib.itoa (s + 1)))) obs_nil))))) ?_
          rw [name_ok0 (s := s) (h := h) (q := (Lib.repeatL [65] m.toNat)) h1 (by omega) (by rw [← hm]; exact (q_up (by omega) (by omega))) (by omega)]
          exact T_ret fun cx_ a_ hI_ => rt hc0 [ps 2 (sv (st ((Lib.repeatL [65] m.toNat) ++ (Lib.itoa (s + 1))))), ps 3 (iv 0)] [] hI_
        refine T_el (decide_eq_false h108) ?_
        refine T_seq ?_
        by_cases h110 : m < 0
        · refine T_r mixed [(3, .gd true (.no)), (4, .gd true (.no)), (5, .yes true)] [ps 1 (.opt 0 0), ps 6 (iv m), ps 8 (sv (st ([] : List UInt8))), ps 75 (bv (decide ((-6) ≤ m))), pb 0 25 [(iv s), (iv h)]] (obs_cons (decide_eq_true h110) (obs_cons (decide_eq_true h110) (obs_cons (decide_eq_true h110) obs_nil))) ?_
          by_cases h111 : (-6) ≤ m
          · refine T_th (decide_eq_true h111) ?_
            refine T_r mixed [(2, .call [] [(sv (st ([100] : List UInt8))), (iv (0 - m))] [] (sv (st (Lib.repeatL [100] (0 - m).toNat))) [])] [ps 1 (.opt 0 0), ps 8 (sv (st (Lib.repeatL [100] (0 - m).toNat))), pb 0 25 [(iv s), (iv h)]] (obs_cons (by simp only [InK]; omega : InK .i64 (0 - m)) (obs_cons (times_pc 100 (0 - m) (by omega) (by omega)) (obs_cons (rfl : Ren0 456 [(sv (st ([100] : List UInt8))), (iv (0 - m))]) obs_nil))) ?_
            refine T_seq <| T_seq ?_
            refine T_r mixed [(1, .val (.av (.bool (decide ((Lib.repeatL [100] (0 - m).toNat) = ([] : List UInt8))))))] [ps 1 (.opt 0 0), ps 8 (sv (st (Lib.repeatL [100] (0 - m).toNat))), ps 102 (bv (decide ((Lib.repeatL [100] (0 - m).toNat) = ([] : List UInt8)))), pb 0 25 [(iv s), (iv h)]] (obs_cons (st_eq _ _ : ((st (Lib.repeatL [100] (0 - m).toNat)).toList == (st ([] : List UInt8)).toList) = decide ((Lib.repeatL [100] (0 - m).toNat) = ([] : List UInt8))) obs_nil) ?_
            have h112 : ¬ ((Lib.repeatL [100] (0 - m).toNat) = ([] : List UInt8)) := (rep_ne (by omega))
            refine T_el (decide_eq_false h112) ?_
            refine T_skip <| T_seq ?_
            have hlr := rep_len 100 (0 - m).toNat
            have hl2 := itoa_len (o := s + 1) (by omega) (by omega)
            refine T_r mixed [(4, .call [] [(iv (s + 1))] [] (sv (st (Lib.itoa (s + 1)))) []), (5, .val (.av (.string (st ((Lib.repeatL [100] (0 - m).toNat) ++ (Lib.itoa (s + 1)))))))] [ps 2 (sv (st ((Lib.repeatL [100] (0 - m).toNat) ++ (Lib.itoa (s + 1))))), ps 3 (iv 0)] (obs_cons (by simp only [InK]; omega : InK .i64 (s + 1)) (obs_cons (digits_pc (s + 1) (by omega) (by omega)) (obs_cons (rfl : Ren0 520 [(iv (s + 1))]) (obs_cons (by first | omega | (simp only [List.length_append, List.length_cons, List.length_nil]; omega) : (((Lib.repeatL [100] (0 - m).toNat).length + (Lib.itoa (s + 1)).length : Nat) : Int) ≤ 9223372036854775807) (obs_cons (st_app _ _ : st (Lib.repeatL [100] (0 - m).toNat) ++ st (Lib.itoa (s + 1)) = st ((Lib.repeatL [100] (0 - m).toNat) ++ (Lib.itoa (s + 1)))) obs_nil))))) ?_
            rw [name_ok0 (s := s) (h := h) (q := (Lib.repeatL [100] (0 - m).toNat)) h1 (by omega) (by rw [← hm]; exact (q_dn (by omega) (by omega) (perf_yes (s := s) (by omega)))) (by omega)]
            exact T_ret fun cx_ a_ hI_ => rt hc0 [ps 2 (sv (st ((Lib.repeatL [100] (0 - m).toNat) ++ (Lib.itoa (s + 1))))), ps 3 (iv 0)] [] hI_
          refine T_el (decide_eq_false h111) ?_
          refine T_skip <| T_seq <| T_seq ?_
          refine T_r mixed [(1, .val (.av (.bool (decide (([] : List UInt8) = ([] : List UInt8))))))] [ps 1 (.opt 0 0), ps 8 (sv (st ([] : List UInt8))), ps 102 (bv (decide (([] : List UInt8) = ([] : List UInt8)))), pb 0 25 [(iv s), (iv h)]] (obs_cons (st_eq _ _ : ((st ([] : List UInt8)).toList == (st ([] : List UInt8)).toList) = decide (([] : List UInt8) = ([] : List UInt8))) obs_nil) ?_
          have h113 : ([] : List UInt8) = ([] : List UInt8) := rfl
          refine T_th (decide_eq_true h113) ?_
          refine T_seq ?_
          refine T_r mixed [] [ps 2 (sv (st ([] : List UInt8))), ps 3 (iv 3)] (obs_nil) ?_
          rw [name_far0 (s := s) (h := h) h1 (by omega) (by rw [← hm]; have hp := perf_yes (s := s) (by omega); first | exact .inl (by omega) | exact .inr (.inl ⟨hp, by omega⟩))]
          exact T_ret fun cx_ a_ hI_ => rt hc0 [ps 2 (sv (st ([] : List UInt8))), ps 3 (iv 3)] [] hI_
        refine T_r mixed [(3, .gd false .no), (4, .gd false .no), (5, .yes false)] [ps 1 (.opt 0 0), ps 6 (iv m), ps 8 (sv (st ([] : List UInt8))), ps 75 (bv false), pb 0 25 [(iv s), (iv h)]] (obs_cons (decide_eq_false h110) (obs_cons (decide_eq_false h110) (obs_cons (decide_eq_false h110) obs_nil))) ?_
        refine T_else (b := false) rfl rfl ?_
        refine T_skip <| T_seq <| T_seq ?_
        refine T_r mixed [(1, .val (.av (.bool (decide (([] : List UInt8) = ([] : List UInt8))))))] [ps 1 (.opt 0 0), ps 8 (sv (st ([] : List UInt8))), ps 102 (bv (decide (([] : List UInt8) = ([] : List UInt8)))), pb 0 25 [(iv s), (iv h)]] (obs_cons (st_eq _ _ : ((st ([] : List UInt8)).toList == (st ([] : List UInt8)).toList) = decide (([] : List UInt8) = ([] : List UInt8))) obs_nil) ?_
        have h114 : ([] : List UInt8) = ([] : List UInt8) := rfl
        refine T_th (decide_eq_true h114) ?_
        refine T_seq ?_
        refine T_r mixed [] [ps 2 (sv (st ([] : List UInt8))), ps 3 (iv 3)] (obs_nil) ?_
        rw [name_far0 (s := s) (h := h) h1 (by omega) (by rw [← hm]; have hp := perf_yes (s := s) (by omega); first | exact .inl (by omega) | exact .inr (.inl ⟨hp, by omega⟩))]
        exact T_ret fun cx_ a_ hI_ => rt hc0 [ps 2 (sv (st ([] : List UInt8))), ps 3 (iv 3)] [] hI_
      refine T_r mixed [(3, .gd false .no), (4, .gd false .no), (5, .yes false)] [ps 1 (.opt 0 0), ps 6 (iv m), ps 8 (sv (st ([] : List UInt8))), ps 67 (bv false), pb 0 25 [(iv s), (iv h)]] (obs_cons (decide_eq_false h107) (obs_cons (decide_eq_false h107) (obs_cons (decide_eq_false h107) obs_nil))) ?_
      refine T_else (b := false) rfl rfl ?_
      refine T_seq ?_
      by_cases h115 : m < 0
      · refine T_r mixed [(3, .gd true (.no)), (4, .gd true (.no)), (5, .yes true)] [ps 1 (.opt 0 0), ps 6 (iv m), ps 8 (sv (st ([] : List UInt8))), ps 75 (bv (decide ((-6) ≤ m))), pb 0 25 [(iv s), (iv h)]] (obs_cons (decide_eq_true h115) (obs_cons (decide_eq_true h115) (obs_cons (decide_eq_true h115) obs_nil))) ?_
        by_cases h116 : (-6) ≤ m
        · refine T_th (decide_eq_true h116) ?_
          refine T_r mixed [(2, .call [] [(sv (st ([100] : List UInt8))), (iv (0 - m))] [] (sv (st (Lib.repeatL [100] (0 - m).toNat))) [])] [ps 1 (.opt 0 0), ps 8 (sv (st (Lib.repeatL [100] (0 - m).toNat))), pb 0 25 [(iv s), (iv h)]] (obs_cons (by simp only [InK]; omega : InK .i64 (0 - m)) (obs_cons (times_pc 100 (0 - m) (by omega) (by omega)) (obs_cons (rfl : Ren0 456 [(sv (st ([100] : List UInt8))), (iv (0 - m))]) obs_nil))) ?_
          refine T_seq <| T_seq ?_
          refine T_r mixed [(1, .val (.av (.bool (decide ((Lib.repeatL [100] (0 - m).toNat) = ([] : List UInt8))))))] [ps 1 (.opt 0 0), ps 8 (sv (st (Lib.repeatL [100] (0 - m).toNat))), ps 102 (bv (decide ((Lib.repeatL [100] (0 - m).toNat) = ([] : List UInt8)))), pb 0 25 [(iv s), (iv h)]] (obs_cons (st_eq _ _ : ((st (Lib.repeatL [100] (0 - m).toNat)).toList == (st ([] : List UInt8)).toList) = decide ((Lib.repeatL [100] (0 - m).toNat) = ([] : List UInt8))) obs_nil) ?_
          have h117 : ¬ ((Lib.repeatL [100] (0 - m).toNat) = ([] : List UInt8)) := (rep_ne (by omega))
          refine T_el (decide_eq_false h117) ?_
          refine T_skip <| T_seq ?_
          have hlr := rep_len 100 (0 - m).toNat
          have hl2 := itoa_len (o := s + 1) (by omega) (by omega)
          refine T_r mixed [(4, .call [] [(iv (s + 1))] [] (sv (st (Lib.itoa (s + 1)))) []), (5, .val (.av (.string (st ((Lib.repeatL [100] (0 - m).toNat) ++ (Lib.itoa (s + 1)))))))] [ps 2 (sv (st ((Lib.repeatL [100] (0 - m).toNat) ++ (Lib.itoa (s + 1))))), ps 3 (iv 0)] (obs_cons (by simp only [InK]; omega : InK .i64 (s + 1)) (obs_cons (digits_pc (s + 1) (by omega) (by omega)) (obs_cons (rfl : Ren0 520 [(iv (s + 1))]) (obs_cons (by first | omega | (simp only [List.length_append, List.length_cons, List.length_nil]; omega) : (((Lib.repeatL [100] (0 - m).toNat).length + (Lib.itoa (s + 1)).length : Nat) : Int) ≤ 9223372036854775807) (obs_cons (st_app _ _ : st (Lib.repeatL [100] (0 - m).toNat) ++ st (Lib.itoa (s + 1)) = st ((Lib.repeatL [100] (0 - m).toNat) ++ (Lib.itoa (s + 1)))) obs_nil))))) ?_
          rw [name_ok0 (s := s) (h := h) (q := (Lib.repeatL [100] (0 - m).toNat)) h1 (by omega) (by rw [← hm]; exact (q_dn (by omega) (by omega) (perf_yes (s := s) (by omega)))) (by omega)]
          exact T_ret fun cx_ a_ hI_ => rt hc0 [ps 2 (sv (st ((Lib.repeatL [100] (0 - m).toNat) ++ (Lib.itoa (s + 1))))), ps 3 (iv 0)] [] hI_
        refine T_el (decide_eq_false h116) ?_
        refine T_skip <| T_seq <| T_seq ?_
        refine T_r mixed [(1, .val (.av (.bool (decide (([] : List UInt8) = ([] : List UInt8))))))] [ps 1 (.opt 0 0), ps 8 (sv (st ([] : List UInt8))), ps 102 (bv (decide (([] : List UInt8) = ([] : List UInt8)))), pb 0 25 [(iv s), (iv h)]] (obs_cons (st_eq _ _ : ((st ([] : List UInt8)).toList == (st ([] : List UInt8)).toList) = decide (([] : List UInt8) = ([] : List UInt8))) obs_nil) ?_
        have h118 : ([] : List UInt8) = ([] : List UInt8) := rfl
        refine T_th (decide_eq_true h118) ?_
        refine T_seq ?_
        refine T_r mixed [] [ps 2 (sv (st ([] : List UInt8))), ps 3 (iv 3)] (obs_nil) ?_
        rw [name_far0 (s := s) (h := h) h1 (by omega) (by rw [← hm]; have hp := perf_yes (s := s) (by omega); first | exact .inl (by omega) | exact .inr (.inl ⟨hp, by omega⟩))]
        exact T_ret fun cx_ a_ hI_ => rt hc0 [ps 2 (sv (st ([] : List UInt8))), ps 3 (iv 3)] [] hI_
      refine T_r mixed [(3, .gd false .no), (4, .gd false .no), (5, .yes false)] [ps 1 (.opt 0 0), ps 6 (iv m), ps 8 (sv (st ([] : List UInt8))), ps 75 (bv false), pb 0 25 [(iv s), (iv h)]] (obs_cons (decide_eq_false h115) (obs_cons (decide_eq_false h115) (obs_cons (decide_eq_false h115) obs_nil))) ?_
      refine T_else (b := false) rfl rfl ?_
      refine T_skip <| T_seq <| T_seq ?_
      refine T_r mixed [(1, .val (.av (.bool (decide (([] : List UInt8) = ([] : List UInt8))))))] [ps 1 (.opt 0 0), ps 8 (sv (st ([] : List UInt8))), ps 102 (bv (decide (([] : List UInt8) = ([] : List UInt8)))), pb 0 25 [(iv s), (iv h)]] (obs_cons (st_eq _ _ : ((st ([] : List UInt8)).toList == (st ([] : List UInt8)).toList) = decide (([] : List UInt8) = ([] : List UInt8))) obs_nil) ?_
      have h119 : ([] : List UInt8) = ([] : List UInt8) := rfl
      refine T_th (decide_eq_true h119) ?_
      refine T_seq ?_
      refine T_r mixed [] [ps 2 (sv (st ([] : List UInt8))), ps 3 (iv 3)] (obs_nil) ?_
      rw [name_far0 (s := s) (h := h) h1 (by omega) (by rw [← hm]; have hp := perf_yes (s := s) (by omega); first | exact .inl (by omega) | exact .inr (.inl ⟨hp, by omega⟩))]
      exact T_ret fun cx_ a_ hI_ => rt hc0 [ps 2 (sv (st ([] : List UInt8))), ps 3 (iv 3)] [] hI_
    refine T_el (decide_eq_false h104) ?_
    refine T_seq ?_
    refine T_r mixed [] [ps 1 (.opt 0 0), ps 6 (iv m), ps 8 (sv (st ([] : List UInt8))), ps 80 (bv (decide (m = 0))), pb 0 25 [(iv s), (iv h)]] (obs_nil) ?_
    by_cases h120 : m = 0
    · refine T_th (decide_eq_true h120) ?_
      refine T_r mixed [] [ps 1 (.opt 0 0), ps 8 (sv (st ([77] : List UInt8))), pb 0 25 [(iv s), (iv h)]] (obs_nil) ?_
      refine T_seq <| T_seq ?_
      refine T_r mixed [(1, .val (.av (.bool (decide (([77] : List UInt8) = ([] : List UInt8))))))] [ps 1 (.opt 0 0), ps 8 (sv (st ([77] : List UInt8))), ps 102 (bv (decide (([77] : List UInt8) = ([] : List UInt8)))), pb 0 25 [(iv s), (iv h)]] (obs_cons (st_eq _ _ : ((st ([77] : List UInt8)).toList == (st ([] : List UInt8)).toList) = decide (([77] : List UInt8) = ([] : List UInt8))) obs_nil) ?_
      have h121 : ¬ (([77] : List UInt8) = ([] : List UInt8)) := (by decide)
      refine T_el (decide_eq_false h121) ?_
      refine T_skip <| T_seq ?_
      have hl2 := itoa_len (o := s + 1) (by omega) (by omega)
      refine T_r mixed [(4, .call [] [(iv (s + 1))] [] (sv (st (Lib.itoa (s + 1)))) []), (5, .val (.av (.string (st (([77] : List UInt8) ++ (Lib.itoa (s + 1)))))))] [ps 2 (sv (st (([77] : List UInt8) ++ (Lib.itoa (s + 1))))), ps 3 (iv 0)] (obs_cons (by simp only [InK]; omega : InK .i64 (s + 1)) (obs_cons (digits_pc (s + 1) (by omega) (by omega)) (obs_cons (rfl : Ren0 400 [(iv (s + 1))]) (obs_cons (by first | omega | (simp only [List.length_append, List.length_cons, List.length_nil]; omega) : ((([77] : List UInt8).length + (Lib.itoa (s + 1)).length : Nat) : Int) ≤ 9223372036854775807) (obs_cons (st_app _ _ : st ([77] : List UInt8) ++ st (Lib.itoa (s + 1)) = st (([77] : List UInt8) ++ (Lib.itoa (s + 1)))) obs_nil))))) ?_
      rw [name_ok0 (s := s) (h := h) (q := ([77] : List UInt8)) h1 (by omega) (by rw [← hm]; exact (qual_M (by omega) (perf_no (s := s) (by omega)))) (by decide)]
      exact T_ret fun cx_ a_ hI_ => rt hc0 [ps 2 (sv (st (([77] : List UInt8) ++ (Lib.itoa (s + 1))))), ps 3 (iv 0)] [] hI_
    refine T_el (decide_eq_false h120) ?_
    refine T_seq ?_
    refine T_r mixed [] [ps 1 (.opt 0 0), ps 6 (iv m), ps 8 (sv (st ([] : List UInt8))), ps 82 (bv (decide (m = (-1)))), pb 0 25 [(iv s), (iv h)]] (obs_nil) ?_
    by_cases h122 : m = (-1)
    · refine T_th (decide_eq_true h122) ?_
      refine T_r mixed [] [ps 1 (.opt 0 0), ps 8 (sv (st ([109] : List UInt8))), pb 0 25 [(iv s), (iv h)]] (obs_nil) ?_
      refine T_seq <| T_seq ?_
      refine T_r mixed [(1, .val (.av (.bool (decide (([109] : List UInt8) = ([] : List UInt8))))))] [ps 1 (.opt 0 0), ps 8 (sv (st ([109] : List UInt8))), ps 102 (bv (decide (([109] : List UInt8) = ([] : List UInt8)))), pb 0 25 [(iv s), (iv h)]] (obs_cons (st_eq _ _ : ((st ([109] : List UInt8)).toList == (st ([] : List UInt8)).toList) = decide (([109] : List UInt8) = ([] : List UInt8))) obs_nil) ?_
      have h123 : ¬ (([109] : List UInt8) = ([] : List UInt8)) := (by decide)
      refine T_el (decide_eq_false h123) ?_
      refine T_skip <| T_seq ?_
      have hl2 := itoa_len (o := s + 1) (by omega) (by omega)
      refine T_r mixed [(4, .call [] [(iv (s + 1))] [] (sv (st (Lib.itoa (s + 1)))) []), (5, .val (.av (.string (st (([109] : List UInt8) ++ (Lib.itoa (s + 1)))))))] [ps 2 (sv (st (([109] : List UInt8) ++ (Lib.itoa (s + 1))))), ps 3 (iv 0)] (obs_cons (by simp only [InK]; omega : InK .i64 (s + 1)) (obs_cons (digits_pc (s + 1) (by omega) (by omega)) (obs_cons (rfl : Ren0 416 [(iv (s + 1))]) (obs_cons (by first | omega | (simp only [List.length_append, List.length_cons, List.length_nil]; omega) : ((([109] : List UInt8).length + (Lib.itoa (s + 1)).length : Nat) : Int) ≤ 9223372036854775807) (obs_cons (st_app _ _ : st ([109] : List UInt8) ++ st (Lib.itoa (s + 1)) = st (([109] : List UInt8) ++ (Lib.itoa (s + 1)))) obs_nil))))) ?_
      rw [name_ok0 (s := s) (h := h) (q := ([109] : List UInt8)) h1 (by omega) (by rw [← hm]; exact (qual_m (by omega) (perf_no (s := s) (by omega)))) (by decide)]
      exact T_ret fun cx_ a_ hI_ => rt hc0 [ps 2 (sv (st (([109] : List UInt8) ++ (Lib.itoa (s + 1))))), ps 3 (iv 0)] [] hI_
    refine T_el (decide_eq_false h122) ?_
    refine T_seq ?_
    by_cases h124 : 0 < m
    · refine T_r mixed [(3, .gd true (.no)), (4, .gd true (.no)), (5, .yes true)] [ps 1 (.opt 0 0), ps 6 (iv m), ps 8 (sv (st ([] : List UInt8))), ps 88 (bv (decide (m ≤ 6))), pb 0 25 [(iv s), (iv h)]] (obs_cons (decide_eq_true h124) (obs_cons (decide_eq_true h124) (obs_cons (decide_eq_true h124) obs_nil))) ?_
      by_cases h125 : m ≤ 6
      · refine T_th (decide_eq_true h125) ?_
        refine T_r mixed [(1, .call [] [(sv (st ([65] : List UInt8))), (iv m)] [] (sv (st (Lib.repeatL [65] m.toNat))) [])] [ps 1 (.opt 0 0), ps 8 (sv (st (Lib.repeatL [65] m.toNat))), pb 0 25 [(iv s), (iv h)]] (obs_cons (times_pc 65 m (by omega) (by omega)) (obs_cons (rfl : Ren0 416 [(sv (st ([65] : List UInt8))), (iv m)]) obs_nil)) ?_
        refine T_seq <| T_seq ?_
        refine T_r mixed [(1, .val (.av (.bool (decide ((Lib.repeatL [65] m.toNat) = ([] : List UInt8))))))] [ps 1 (.opt 0 0), ps 8 (sv (st (Lib.repeatL [65] m.toNat))), ps 102 (bv (decide ((Lib.repeatL [65] m.toNat) = ([] : List UInt8)))), pb 0 25 [(iv s), (iv h)]] (obs_cons (st_eq _ _ : ((st (Lib.repeatL [65] m.toNat)).toList == (st ([] : List UInt8)).toList) = decide ((Lib.repeatL [65] m.toNat) = ([] : List UInt8))) obs_nil) ?_
        have h126 : ¬ ((Lib.repeatL [65] m.toNat) = ([] : List UInt8)) := (rep_ne (by omega))
        refine T_el (decide_eq_false h126) ?_
        refine T_skip <| T_seq ?_
        have hlr := rep_len 65 m.toNat
        have hl2 := itoa_len (o := s + 1) (by omega) (by omega)
        refine T_r mixed [(4, .call [] [(iv (s + 1))] [] (sv (st (Lib.itoa (s + 1)))) []), (5, .val (.av (.string (st ((Lib.repeatL [65] m.toNat) ++ (Lib.itoa (s + 1)))))))] [ps 2 (sv (st ((Lib.repeatL [65] m.toNat) ++ (Lib.itoa (s + 1))))), ps 3 (iv 0)] (obs_cons (by simp only [InK]; omega : InK .i64 (s + 1)) (obs_cons (digits_pc (s + 1) (by omega) (by omega)) (obs_cons (rfl : Ren0 480 [(iv (s + 1))]) (obs_cons (by first | omega | (simp only [List.length_append, List.length_cons, List.length_nil]; omega) : (((Lib.repeatL [65] m.toNat).length + (Lib.itoa (s + 1)).length : Nat) : Int) ≤ 9223372036854775807) (obs_cons (st_app _ _ : st (Lib.repeatL [65] m.toNat) ++ st (Lib.itoa (s + 1)) = st ((Lib.repeatL [65] m.toNat) ++ (Lib.itoa (s + 1)))) obs_nil))))) ?_
        rw [name_ok0 (s := s) (h := h) (q := (Lib.repeatL [65] m.toNat)) h1 (by omega) (by rw [← hm]; exact (q_up (by omega) (by omega))) (by omega)]
        exact T_ret fun cx_ a_ hI_ => rt hc0 [ps 2 (sv (st ((Lib.repeatL [65] m.toNat) ++ (Lib.itoa (s + 1))))), ps 3 (iv 0)] [] hI_
      refine T_el (decide_eq_false h125) ?_
      refine T_seq ?_
      by_cases h127 : m < (-1)
      · refine T_r mixed [(3, .gd true (.no)), (4, .gd true (.no)), (5, .yes true)] [ps 1 (.opt 0 0), ps 6 (iv m), ps 8 (sv (st ([] : List UInt8))), ps 96 (bv (decide ((-7) ≤ m))), pb 0 25 [(iv s), (iv h)]] (obs_cons (decide_eq_true h127) (obs_cons (decide_eq_true h127) (obs_cons (decide_eq_true h127) obs_nil))) ?_
        by_cases h128 : (-7) ≤ m
        · refine T_th (decide_eq_true h128) ?_
          refine T_r mixed [(3, .call [] [(sv (st ([100] : List UInt8))), (iv ((0 - m) - 1))] [] (sv (st (Lib.repeatL [100] ((0 - m) - 1).toNat))) [])] [ps 1 (.opt 0 0), ps 8 (sv (st (Lib.repeatL [100] ((0 - m) - 1).toNat))), pb 0 25 [(iv s), (iv h)]] (obs_cons (by simp only [InK]; omega : InK .i64 (0 - m)) (obs_cons (by simp only [InK]; omega : InK .i64 ((0 - m) - 1)) (obs_cons (times_pc 100 ((0 - m) - 1) (by omega) (by omega)) (obs_cons (rfl : Ren0 480 [(sv (st ([100] : List UInt8))), (iv ((0 - m) - 1))]) obs_nil)))) ?_
          refine T_seq <| T_seq ?_
          refine T_r mixed [(1, .val (.av (.bool (decide ((Lib.repeatL [100] ((0 - m) - 1).toNat) = ([] : List UInt8))))))] [ps 1 (.opt 0 0), ps 8 (sv (st (Lib.repeatL [100] ((0 - m) - 1).toNat))), ps 102 (bv (decide ((Lib.repeatL [100] ((0 - m) - 1).toNat) = ([] : List UInt8)))), pb 0 25 [(iv s), (iv h)]] (obs_cons (st_eq _ _ : ((st (Lib.repeatL [100] ((0 - m) - 1).toNat)).toList == (st ([] : List UInt8)).toList) = decide ((Lib.repeatL [100] ((0 - m) - 1).toNat) = ([] : List UInt8))) obs_nil) ?_
          have h129 : ¬ ((Lib.repeatL [100] ((0 - m) - 1).toNat) = ([] : List UInt8)) := (rep_ne (by omega))
          refine T_el (decide_eq_false h129) ?_
          refine T_skip <| T_seq ?_
          have hlr := rep_len 100 ((0 - m) - 1).toNat
          have hl2 := itoa_len (o := s + 1) (by omega) (by omega)
          refine T_r mixed [(4, .call [] [(iv (s + 1))] [] (sv (st (Lib.itoa (s + 1)))) []), (5, .val (.av (.string (st ((Lib.repeatL [100] ((0 - m) - 1).toNat) ++ (Lib.itoa (s + 1)))))))] [ps 2 (sv (st ((Lib.repeatL [100] ((0 - m) - 1).toNat) ++ (Lib.itoa (s + 1))))), ps 3 (iv 0)] (obs_cons (by simp only [InK]; omega : InK .i64 (s + 1)) (obs_cons (digits_pc (s + 1) (by omega) (by omega)) (obs_cons (rfl : Ren0 544 [(iv (s + 1))]) (obs_cons (by first | omega | (simp only [List.length_append, List.length_cons, List.length_nil]; omega) : (((Lib.repeatL [100] ((0 - m) - 1).toNat).length + (Lib.itoa (s + 1)).length : Nat) : Int) ≤ 9223372036854775807) (obs_cons (st_app _ _ : st (Lib.repeatL [100] ((0 - m) - 1).toNat) ++ st (Lib.itoa (s + 1)) = st ((Lib.repeatL [100] ((0 - m) - 1).toNat) ++ (Lib.itoa (s + 1)))) obs_nil))))) ?_
          rw [name_ok0 (s := s) (h := h) (q := (Lib.repeatL [100] ((0 - m) - 1).toNat)) h1 (by omega) (by rw [← hm]; exact (q_dn2 (by omega) (by omega) (perf_no (s := s) (by omega)))) (by omega)]
          exact T_ret fun cx_ a_ hI_ => rt hc0 [ps 2 (sv (st ((Lib.repeatL [100] ((0 - m) - 1).toNat) ++ (Lib.itoa (s + 1))))), ps 3 (iv 0)] [] hI_
        refine T_el (decide_eq_false h128) ?_
        refine T_skip <| T_seq <| T_seq ?_
        refine T_r mixed [(1, .val (.av (.bool (decide (([] : List UInt8) = ([] : List UInt8))))))] [ps 1 (.opt 0 0), ps 8 (sv (st ([] : List UInt8))), ps 102 (bv (decide (([] : List UInt8) = ([] : List UInt8)))), pb 0 25 [(iv s), (iv h)]] (obs_cons (st_eq _ _ : ((st ([] : List UInt8)).toList == (st ([] : List UInt8)).toList) = decide (([] : List UInt8) = ([] : List UInt8))) obs_nil) ?_
        have h130 : ([] : List UInt8) = ([] : List UInt8) := rfl
        refine T_th (decide_eq_true h130) ?_
        refine T_seq ?_
        refine T_r mixed [] [ps 2 (sv (st ([] : List UInt8))), ps 3 (iv 3)] (obs_nil) ?_
        rw [name_far0 (s := s) (h := h) h1 (by omega) (by rw [← hm]; have hp := perf_no (s := s) (by omega); first | exact .inl (by omega) | exact .inr (.inr ⟨hp, by omega⟩))]
        exact T_ret fun cx_ a_ hI_ => rt hc0 [ps 2 (sv (st ([] : List UInt8))), ps 3 (iv 3)] [] hI_
      refine T_r mixed [(3, .gd false .no), (4, .gd false .no), (5, .yes false)] [ps 1 (.opt 0 0), ps 6 (iv m), ps 8 (sv (st ([] : List UInt8))), ps 96 (bv false), pb 0 25 [(iv s), (iv h)]] (obs_cons (decide_eq_false h127) (obs_cons (decide_eq_false h127) (obs_cons (decide_eq_false h127) obs_nil))) ?_
      refine T_else (b := false) rfl rfl ?_
      refine T_skip <| T_seq <| T_seq ?_
      refine T_r mixed [(1, .val (.av (.bool (decide (([] : List UInt8) = ([] : List UInt8))))))] [ps 1 (.opt 0 0), ps 8 (sv (st ([] : List UInt8))), ps 102 (bv (decide (([] : List UInt8) = ([] : List UInt8)))), pb 0 25 [(iv s), (iv h)]] (obs_cons (st_eq _ _ : ((st ([] : List UInt8)).toList == (st ([] : List UInt8)).toList) = decide (([] : List UInt8) = ([] : List UInt8))) obs_nil) ?_
      have h131 : ([] : List UInt8) = ([] : List UInt8) := rfl
      refine T_th (decide_eq_true h131) ?_
      refine T_seq ?_
      refine T_r mixed [] [ps 2 (sv (st ([] : List UInt8))), ps 3 (iv 3)] (obs_nil) ?_
      rw [name_far0 (s := s) (h := h) h1 (by omega) (by rw [← hm]; have hp := perf_no (s := s) (by omega); first | exact .inl (by omega) | exact .inr (.inr ⟨hp, by omega⟩))]
      exact T_ret fun cx_ a_ hI_ => rt hc0 [ps 2 (sv (st ([] : List UInt8))), ps 3 (iv 3)] [] hI_
    refine T_r mixed [(3, .gd false .no), (4, .gd false .no), (5, .yes false)] [ps 1 (.opt 0 0), ps 6 (iv m), ps 8 (sv (st ([] : List UInt8))), ps 88 (bv false), pb 0 25 [(iv s), (iv h)]] (obs_cons (decide_eq_false h124) (obs_cons (decide_eq_false h124) (obs_cons (decide_eq_false h124) obs_nil))) ?_
    refine T_else (b := false) rfl rfl ?_
    refine T_seq ?_
    by_cases h132 : m < (-1)
    · refine T_r mixed [(3, .gd true (.no)), (4, .gd true (.no)), (5, .yes true)] [ps 1 (.opt 0 0), ps 6 (iv m), ps 8 (sv (st ([] : List UInt8))), ps 96 (bv (decide ((-7) ≤ m))), pb 0 25 [(iv s), (iv h)]] (obs_cons (decide_eq_true h132) (obs_cons (decide_eq_true h132) (obs_cons (decide_eq_true h132) obs_nil))) ?_
      by_cases h133 : (-7) ≤ m
      · refine T_th (decide_eq_true h133) ?_
        refine T_r mixed [(3, .call [] [(sv (st ([100] : List UInt8))), (iv ((0 - m) - 1))] [] (sv (st (Lib.repeatL [100] ((0 - m) - 1).toNat))) [])] [ps 1 (.opt 0 0), ps 8 (sv (st (Lib.repeatL [100] ((0 - m) - 1).toNat))), pb 0 25 [(iv s), (iv h)]] (obs_cons (by simp only [InK]; omega : InK .i64 (0 - m)) (obs_cons (by simp only [InK]; omega : InK .i64 ((0 - m) - 1)) (obs_cons (times_pc 100 ((0 - m) - 1) (by omega) (by omega)) (obs_cons (rfl : Ren0 480 [(sv (st ([100] : List UInt8))), (iv ((0 - m) - 1))]) obs_nil)))) ?_
        refine T_seq <| T_seq ?_
        refine T_r mixed [(1, .val (.av (.bool (decide ((Lib.repeatL [100] ((0 - m) - 1).toNat) = ([] : List UInt8))))))] [ps 1 (.opt 0 0), ps 8 (sv (st (Lib.repeatL [100] ((0 - m) - 1).toNat))), ps 102 (bv (decide ((Lib.repeatL [100] ((0 - m) - 1).toNat) = ([] : List UInt8)))), pb 0 25 [(iv s), (iv h)]] (obs_cons (st_eq _ _ : ((st (Lib.repeatL [100] ((0 - m) - 1).toNat)).toList == (st ([] : List UInt8)).toList) = decide ((Lib.repeatL [100] ((0 - m) - 1).toNat) = ([] : List UInt8))) obs_nil) ?_
        have h134 : ¬ ((Lib.repeatL [100] ((0 - m) - 1).toNat) = ([] : List UInt8)) := (rep_ne (by omega))
        refine T_el (decide_eq_false h134) ?_
        refine T_skip <| T_seq ?_
        have hlr := rep_len 100 ((0 - m) - 1).toNat
        have hl2 := itoa_len (o := s + 1) (by omega) (by omega)
        refine T_r mixed [(4, .call [] [(iv (s + 1))] [] (sv (st (Lib.itoa (s + 1)))) []), (5, .val (.av (.string (st ((Lib.repeatL [100] ((0 - m) - 1).toNat) ++ (Lib.itoa (s + 1)))))))] [ps 2 (sv (st ((Lib.repeatL [100] ((0 - m) - 1).toNat) ++ (Lib.itoa (s + 1))))), ps 3 (iv 0)] (obs_cons (by simp only [InK]; omega : InK .i64 (s + 1)) (obs_cons (digits_pc (s + 1) (by omega) (by omega)) (obs_cons (rfl : Ren0 544 [(iv (s + 1))]) (obs_cons (by first | omega | (simp only [List.length_append, List.length_cons, List.length_nil]; omega) : (((Lib.repeatL [100] ((0 - m) - 1).toNat).length + (Lib.itoa (s + 1)).length : Nat) : Int) ≤ 9223372036854775807) (obs_cons (st_app _ _ : st (Lib.repeatL [100] ((0 - m) - 1).toNat) ++ st (Lib.itoa (s + 1)) = st ((Lib.repeatL [100] ((0 - m) - 1).toNat) ++ (Lib.itoa (s + 1)))) obs_nil))))) ?_
        rw [name_ok0 (s := s) (h := h) (q := (Lib.repeatL [100] ((0 - m) - 1).toNat)) h1 (by omega) (by rw [← hm]; exact (q_dn2 (by omega) (by omega) (perf_no (s := s) (by omega)))) (by omega)]
        exact T_ret fun cx_ a_ hI_ => rt hc0 [ps 2 (sv (st ((Lib.repeatL [100] ((0 - m) - 1).toNat) ++ (Lib.itoa (s + 1))))), ps 3 (iv 0)] [] hI_
      refine T_el (decide_eq_false h133) ?_
      refine T_skip <| T_seq <| T_seq ?_
      refine T_r mixed [(1, .val (.av (.bool (decide (([] : List UInt8) = ([] : List UInt8))))))] [ps 1 (.opt 0 0), ps 8 (sv (st ([] : List UInt8))), ps 102 (bv (decide (([] : List UInt8) = ([] : List UInt8)))), pb 0 25 [(iv s), (iv h)]] (obs_cons (st_eq _ _ : ((st ([] : List UInt8)).toList == (st ([] : List UInt8)).toList) = decide (([] : List UInt8) = ([] : List UInt8))) obs_nil) ?_
      have h135 : ([] : List UInt8) = ([] : List UInt8) := rfl
      refine T_th (decide_eq_true h135) ?_
      refine T_seq ?_
      refine T_r mixed [] [ps 2 (sv (st ([] : List UInt8))), ps 3 (iv 3)] (obs_nil) ?_
      rw [name_far0 (s := s) (h := h) h1 (by omega) (by rw [← hm]; have hp := perf_no (s := s) (by omega); first | exact .inl (by omega) | exact .inr (.inr ⟨hp, by omega⟩))]
      exact T_ret fun cx_ a_ hI_ => rt hc0 [ps 2 (sv (st ([] : List UInt8))), ps 3 (iv 3)] [] hI_
    refine T_r mixed [(3, .gd false .no), (4, .gd false .no), (5, .yes false)] [ps 1 (.opt 0 0), ps 6 (iv m), ps 8 (sv (st ([] : List UInt8))), ps 96 (bv false), pb 0 25 [(iv s), (iv h)]] (obs_cons (decide_eq_false h132) (obs_cons (decide_eq_false h132) (obs_cons (decide_eq_false h132) obs_nil))) ?_
    refine T_else (b := false) rfl rfl ?_
    refine T_skip <| T_seq <| T_seq ?_
    refine T_r mixed [(1, .val (.av (.bool (decide (([] : List UInt8) = ([] : List UInt8))))))] [ps 1 (.opt 0 0), ps 8 (sv (st ([] : List UInt8))), ps 102 (bv (decide (([] : List UInt8) = ([] : List UInt8)))), pb 0 25 [(iv s), (iv h)]] (obs_cons (st_eq _ _ : ((st ([] : List UInt8)).toList == (st ([] : List UInt8)).toList) = decide (([] : List UInt8) = ([] : List UInt8))) obs_nil) ?_
    have h136 : ([] : List UInt8) = ([] : List UInt8) := rfl
    refine T_th (decide_eq_true h136) ?_
    refine T_seq ?_
    refine T_r mixed [] [ps 2 (sv (st ([] : List UInt8))), ps 3 (iv 3)] (obs_nil) ?_
    rw [name_far0 (s := s) (h := h) h1 (by omega) (by rw [← hm]; have hp := perf_no (s := s) (by omega); first | exact .inl (by omega) | exact .inr (.inr ⟨hp, by omega⟩))]
    exact T_ret fun cx_ a_ hI_ => rt hc0 [ps 2 (sv (st ([] : List UInt8))), ps 3 (iv 3)] [] hI_
  refine T_th (congrArg Bool.not (Bool.eq_false_iff.2 h1)) ?_
  refine T_seq ?_
  refine T_r mixed [] [ps 2 (sv (st ([] : List UInt8))), ps 3 (iv 3)] (obs_nil) ?_
  rw [nameS_no (s := s) (h := h) h1]
  exact T_ret fun cx_ a_ hI_ => rt hc0 [ps 2 (sv (st ([] : List UInt8))), ps 3 (iv 3)] [] hI_
theorem ref_name_pos (s h : Int) (h0 : 0 ≤ s) (h1 : ¬ (s = 0 ∧ h < 0)) : PC Tryz.prog 7 [.agg [iv s, iv h]] [] (.tup [sv (st ((nameS s h).1)), iv ((nameS s h).2)]) [] :=
  ref_name_step s h fun x y _ _ c => absurd c (by omega)
theorem ref_name_pc (s h : Int) : PC Tryz.prog 7 [.agg [iv s, iv h]] [] (.tup [sv (st ((nameS s h).1)), iv ((nameS s h).2)]) [] :=
  ref_name_step s h fun x y a b _ => ref_name_pos x y a b
end Go.Proofs.YtlngkiipgkociaaGreatDoor.Pm
