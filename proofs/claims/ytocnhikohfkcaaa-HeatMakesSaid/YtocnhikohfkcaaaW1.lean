/- Walks of the small functions on sets: each computes the word of the plain text that its statement names. -/
import Derived.Test.YtocnhikohfkcaaaProg
import Derived.WalkKit
import Derived.Lib.Hide
import Derived.Deep.DeepMust
import Derived.Deep.Cut
import Derived.Deep.CutBlock
import Derived.Outline
import Derived.Test.YtocnhikohfkcaaaG302
set_option linter.unusedVariables false
set_option linter.unusedSimpArgs false
namespace Go.Proofs.Ytocnhikohfkcaaa
open Go.RowKit

theorem ret_bool {a b : Bool} (h : a = b) : Ending.returned (.bool a) = .returned (.bool b) := by rw [h]
theorem ret_int {k : IntKind} {a b : Int} (h : a = b) : Ending.returned (.int k a) = .returned (.int k b) := by rw [h]
theorem u64_same (n : Nat) (h : n < 18446744073709551616) : IntKind.u64.wrap (n : Int) = n := by rw [IntKind.wrap_u64]; omega
theorem div_cast (n k : Nat) : (n : Int) / (k : Int) = ((n / k : Nat) : Int) := by simp
theorem ones64_r1 (x : Nat) (hx : x < 18446744073709551616) : IntKind.u64.wrap (bits .and .u64 ((x : Int) / 2) 6148914691236517205 + bits .and .u64 (x : Int) 6148914691236517205) = ((st1 x : Nat) : Int) := by
  have h := (pop64 x hx).1
  have e1 := u64_and_nat (x / 2) 6148914691236517205 (by omega) (by decide)
  have e2 := u64_and_nat x 6148914691236517205 hx (by decide)
  have e3 : ((x / 2 : Nat) : Int) = (x : Int) / 2 := by simp
  rw [e3] at e1
  have := u64_same (st1 x) h
  unfold st1 at *
  rw [← this]
  congr 1
  rw [Int.natCast_add, ← e1, ← e2]; rfl
theorem ones64_r2 (x : Nat) (hx : x < 18446744073709551616) (h : st2 x < 18446744073709551616) : IntKind.u64.wrap (bits .and .u64 ((x : Int) / 4) 3689348814741910323 + bits .and .u64 (x : Int) 3689348814741910323) = ((st2 x : Nat) : Int) := by
  have e1 := u64_and_nat (x / 4) 3689348814741910323 (by omega) (by decide)
  have e2 := u64_and_nat x 3689348814741910323 hx (by decide)
  have e3 : ((x / 4 : Nat) : Int) = (x : Int) / 4 := by simp
  rw [e3] at e1
  have := u64_same (st2 x) h
  unfold st2 at *
  rw [← this]
  congr 1
  rw [Int.natCast_add, ← e1, ← e2]; rfl
theorem ones64_r3 (x : Nat) (h : x / 16 + x < 18446744073709551616) : bits .and .u64 (IntKind.u64.wrap ((x : Int) / 16 + (x : Int))) 1085102592571150095 = ((st3 x : Nat) : Int) := by
  have e1 := u64_and_nat (x / 16 + x) 1085102592571150095 h (by decide)
  have := u64_same (x / 16 + x) h
  unfold st3
  rw [← e1, ← this]
  simp
theorem ones64_r4 (x : Nat) (h : st4 x < 18446744073709551616) : IntKind.u64.wrap ((x : Int) + (x : Int) / 256) = ((st4 x : Nat) : Int) := by
  rw [← u64_same (st4 x) h]; unfold st4; simp
theorem ones64_r5 (x : Nat) (h : st5 x < 18446744073709551616) : IntKind.u64.wrap ((x : Int) + (x : Int) / 65536) = ((st5 x : Nat) : Int) := by
  rw [← u64_same (st5 x) h]; unfold st5; simp
theorem ones64_r6 (x : Nat) (h : st6 x < 18446744073709551616) : IntKind.u64.wrap ((x : Int) + (x : Int) / 4294967296) = ((st6 x : Nat) : Int) := by
  rw [← u64_same (st6 x) h]; unfold st6; simp
theorem and127 (n : Nat) : bits .and .i64 (IntKind.i64.wrap (n : Int)) 127 = ((n &&& 127 : Nat) : Int) := by
  have e : (BitVec.ofInt 64 (IntKind.i64.wrap (n : Int)) &&& BitVec.ofInt 64 (127 : Int)).toNat = n &&& 127 := by
    rw [BitVec.toNat_and]
    have h1 : (BitVec.ofInt 64 (127 : Int)).toNat = 127 := by decide
    have h2 : (BitVec.ofInt 64 (IntKind.i64.wrap (n : Int))).toNat = n % 18446744073709551616 := by
      rw [BitVec.toNat_ofInt, IntKind.wrap_i64]; omega
    rw [h1, h2]
    have m : ∀ y, y &&& 127 = y % 128 := fun y => Nat.and_two_pow_sub_one_eq_mod y 7
    rw [m, m]; omega
  have m : n &&& 127 = n % 128 := Nat.and_two_pow_sub_one_eq_mod n 7
  exact wrap_back _ (BitVec.ofInt 64 (IntKind.i64.wrap (n : Int)) &&& BitVec.ofInt 64 (127 : Int)) e (by omega)
theorem and127' (n : Nat) : bits .and .i64 (wrap64 (n : Int)) 127 = ((n &&& 127 : Nat) : Int) := by rw [← IntWalk.i64_left]; exact and127 n
end Go.Proofs.Ytocnhikohfkcaaa
