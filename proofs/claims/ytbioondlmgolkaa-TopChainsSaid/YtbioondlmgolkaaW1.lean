/- Walks of the small functions on sets: each computes the word of the plain text that its statement names. -/
import Derived.Test.YtbioondlmgolkaaProg
import Derived.WalkKit
import Derived.Lib.Hide
import Derived.Deep.DeepMust
import Derived.Deep.Cut
import Derived.Deep.CutBlock
import Derived.Outline
import Derived.Test.YtbioondlmgolkaaG502
set_option linter.unusedVariables false
set_option linter.unusedSimpArgs false
namespace Go.Proofs.Ytbioondlmgolkaa
open Go.RowKit

theorem ret_bool {a b : Bool} (h : a = b) : Ending.returned (.bool a) = .returned (.bool b) := by rw [h]
theorem ret_int {k : IntKind} {a b : Int} (h : a = b) : Ending.returned (.int k a) = .returned (.int k b) := by rw [h]
theorem u64_same (n : Nat) (h : n < 18446744073709551616) : IntKind.u64.wrap (n : Int) = n := by rw [IntKind.wrap_u64]; omega
theorem div_cast (n k : Nat) : (n : Int) / (k : Int) = ((n / k : Nat) : Int) := by simp
theorem ones64_r1 (x : Nat) (hx : x < 18446744073709551616) : IntKind.u64.wrap (bits .and .u64 ((x : Int) / 2) 6148914691236517205 + bits .and .u64 (x : Int) 6148914691236517205) = ((st1 x : Nat) : Int) := by
  have h := (pop64 x hx).1
  have e1 := u64_and_nat (x / 2) 6148914691236517205 (by omega) (by decide)
  have e2 := u64_and_nat x 6148914691236517205 hx (by decide)
  have e3 : ((x / 2 : Nat) : Int) = (x : Int) / 2 := by simp
  rw [e3] at e1
  have := u64_same (st1 x) h
  unfold st1 at *
  rw [← this]
  congr 1
  rw [Int.natCast_add, ← e1, ← e2]; rfl
theorem ones64_r2 (x : Nat) (hx : x < 18446744073709551616) (h : st2 x < 18446744073709551616) : IntKind.u64.wrap (bits .and .u64 ((x : Int) / 4) 3689348814741910323 + bits .and .u64 (x : Int) 3689348814741910323) = ((st2 x : Nat) : Int) := by
  have e1 := u64_and_nat (x / 4) 3689348814741910323 (by omega) (by decide)
  have e2 := u64_and_nat x 3689348814741910323 hx (by decide)
  have e3 : ((x / 4 : Nat) : Int) = (x : Int) / 4 := by simp
  rw [e3] at e1
  have := u64_same (st2 x) h
  unfold st2 at *
  rw [← this]
  congr 1
  rw [Int.natCast_add, ← e1, ← e2]; rfl
theorem ones64_r3 (x : Nat) (h : x / 16 + x < 18446744073709551616) : bits .and .u64 (IntKind.u64.wrap ((x : Int) / 16 + (x : Int))) 1085102592571150095 = ((st3 x : Nat) : Int) := by
  have e1 := u64_and_nat (x / 16 + x) 1085102592571150095 h (by decide)
  have := u64_same (x / 16 + x) h
  unfold st3
  rw [← e1, ← this]
  simp
theorem ones64_r4 (x : Nat) (h : st4 x < 18446744073709551616) : IntKind.u64.wrap ((x : Int) + (x : Int) / 256) = ((st4 x : Nat) : Int) := by
  rw [← u64_same (st4 x) h]; unfold st4; simp
theorem ones64_r5 (x : Nat) (h : st5 x < 18446744073709551616) : IntKind.u64.wrap ((x : Int) + (x : Int) / 65536) = ((st5 x : Nat) : Int) := by
  rw [← u64_same (st5 x) h]; unfold st5; simp
theorem ones64_r6 (x : Nat) (h : st6 x < 18446744073709551616) : IntKind.u64.wrap ((x : Int) + (x : Int) / 4294967296) = ((st6 x : Nat) : Int) := by
  rw [← u64_same (st6 x) h]; unfold st6; simp
theorem and127 (n : Nat) : bits .and .i64 (IntKind.i64.wrap (n : Int)) 127 = ((n &&& 127 : Nat) : Int) := by
  have e : (BitVec.ofInt 64 (IntKind.i64.wrap (n : Int)) &&& BitVec.ofInt 64 (127 : Int)).toNat = n &&& 127 := by
    rw [BitVec.toNat_and]
    have h1 : (BitVec.ofInt 64 (127 : Int)).toNat = 127 := by decide
    have h2 : (BitVec.ofInt 64 (IntKind.i64.wrap (n : Int))).toNat = n % 18446744073709551616 := by
      rw [BitVec.toNat_ofInt, IntKind.wrap_i64]; omega
    rw [h1, h2]
    have m : ∀ y, y &&& 127 = y % 128 := fun y => Nat.and_two_pow_sub_one_eq_mod y 7
    rw [m, m]; omega
  have m : n &&& 127 = n % 128 := Nat.and_two_pow_sub_one_eq_mod n 7
  exact wrap_back _ (BitVec.ofInt 64 (IntKind.i64.wrap (n : Int)) &&& BitVec.ofInt 64 (127 : Int)) e (by omega)
theorem and127' (n : Nat) : bits .and .i64 (wrap64 (n : Int)) 127 = ((n &&& 127 : Nat) : Int) := by rw [← IntWalk.i64_left]; exact and127 n
theorem ones64 (s : Nat) (w : World) (hs : Hid (s < 18446744073709551616)) :
    Calls Try.prog 91 #[.int .u64 s] w fun e w' => e = .returned (.int .i64 (size s)) ∧ w' = w := by
  have P := pop64 s hs.out
  have r1 := ones64_r1 s hs.out
  have r2 := ones64_r2 _ P.1 P.2.1
  have r3 := ones64_r3 _ P.2.2.1
  have r4 := ones64_r4 _ P.2.2.2.1
  have r5 := ones64_r5 _ P.2.2.2.2.1
  have r6 := ones64_r6 _ P.2.2.2.2.2.1
  have r7 : ((st6 (st5 (st4 (st3 (st2 (st1 s))))) &&& 127 : Nat) : Int) = ((size s : Nat) : Int) := by rw [P.2.2.2.2.2.2]
  have r8 := and127' (st6 (st5 (st4 (st3 (st2 (st1 s))))))
  clear P
  go_enter Try.func91, Try.ntmps91
  go_wp2
  go_ret
  exact ⟨rfl, rfl⟩
theorem ones (s : Nat) (w : World) (hs : Hid (s < 18446744073709551616)) :
    Calls Try.prog 62 #[.int .u64 s] w fun e w' => e = .returned (.int .i64 (size s)) ∧ w' = w := by
  go_enter Try.func62, Try.ntmps62
  go_wp2_with (go_at_call 91; refine (ones64 s _ hs).mono ?_; rintro e w' ⟨rfl, rfl⟩)
  go_ret
  exact ⟨rfl, rfl⟩
end Go.Proofs.Ytbioondlmgolkaa
