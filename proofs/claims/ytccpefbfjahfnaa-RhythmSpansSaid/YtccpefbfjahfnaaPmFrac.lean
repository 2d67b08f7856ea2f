/-
  Fractions: the kit's kind of contracts, as contracts by values.
-/
import Derived.Test.YtccpefbfjahfnaaPmR
import Derived.Test.YtccpefbfjahfnaaOrderW
import Derived.Test.YtccpefbfjahfnaaRefReckW
namespace Go.Proofs.Ytccpefbfjahfnaa.Pm
open Go Fr

theorem mixed : Try.prog.follows .mixedOrders = true := by kernel_rfl
abbrev fracP (u d : Int) : PV := .agg [iv u, iv d]
abbrev R3P (r : Int × Int × Int) : PV := .tup [.agg [iv r.1, iv r.2.1], iv r.2.2]
theorem right_pc (u d : Int) (hu : I64 u) (hd : I64 d) : PC Try.prog 23 [fracP u d] [] (bv (rightB u d)) [] :=
  pc_flat (fn_ok Try.func23 (by kernel_rfl) (by kernel_rfl)) rfl rfl fun w => right_any u d w hu hd
theorem ref_right_pc (u d : Int) (hu : I64 u) (hd : I64 d) : PC Try.prog 26 [fracP u d] [] (bv (rightB u d)) [] :=
  pc_flat (fn_ok Try.func26 (by kernel_rfl) (by kernel_rfl)) rfl rfl fun w => ref_right_any u d w hu hd
theorem make_pc (u d : Int) (hu : I64 u) (hd : I64 d) : PC Try.prog 21 [iv u, iv d] [] (R3P (make u d)) [] :=
  pc_flat (fn_ok Try.func21 (by kernel_rfl) (by kernel_rfl)) rfl rfl fun w => make_any u d w hu hd
theorem ref_make_pc (u d : Int) (hu : I64 u) (hd : I64 d) : PC Try.prog 27 [iv u, iv d] [] (R3P (make u d)) [] :=
  pc_flat (fn_ok Try.func27 (by kernel_rfl) (by kernel_rfl)) rfl rfl fun w => ref_make_all u d w hu hd
theorem plus_pc (a b c d : Int) (ha : I64 a) (hb : I64 b) (hc : I64 c) (hd : I64 d) : PC Try.prog 42 [fracP a b, fracP c d] [] (R3P (plus a b c d)) [] :=
  pc_flat (fn_ok Try.func42 (by kernel_rfl) (by kernel_rfl)) rfl rfl fun w => plus_any a b c d w ha hb hc hd
theorem times_pc (a b c d : Int) (ha : I64 a) (hb : I64 b) (hc : I64 c) (hd : I64 d) : PC Try.prog 38 [fracP a b, fracP c d] [] (R3P (times a b c d)) [] :=
  pc_flat (fn_ok Try.func38 (by kernel_rfl) (by kernel_rfl)) rfl rfl fun w => times_any a b c d w ha hb hc hd
theorem ref_plus_pc (a b c d : Int) (ha : I64 a) (hb : I64 b) (hc : I64 c) (hd : I64 d) : PC Try.prog 14 [fracP a b, fracP c d] [] (R3P (plus a b c d)) [] :=
  pc_flat (fn_ok Try.func14 (by kernel_rfl) (by kernel_rfl)) rfl rfl fun w => ref_plus_any a b c d w ha hb hc hd
theorem ref_times_pc (a b c d : Int) (ha : I64 a) (hb : I64 b) (hc : I64 c) (hd : I64 d) : PC Try.prog 39 [fracP a b, fracP c d] [] (R3P (times a b c d)) [] :=
  pc_flat (fn_ok Try.func39 (by kernel_rfl) (by kernel_rfl)) rfl rfl fun w => ref_times_any a b c d w ha hb hc hd
end Go.Proofs.Ytccpefbfjahfnaa.Pm
