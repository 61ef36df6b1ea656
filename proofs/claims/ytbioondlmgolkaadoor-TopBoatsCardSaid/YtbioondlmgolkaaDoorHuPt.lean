/- The program's hues under way: put, take. -/
import Derived.Maps.OwnIn
import Derived.Test.YtbioondlmgolkaaDoorHuRg
set_option linter.unusedVariables false
set_option linter.unusedSimpArgs false
namespace Go.Proofs.YtbioondlmgolkaaDoor.Hu
open Go.RowKit

theorem Ag.of_below {ex : Nat → Prop} {W W' : World} (h : Below W.heap.size W W') : Ag ex W W' := ⟨h.os, h.tape, h.output, h.size, fun k hk _ => h.block k hk⟩
theorem ofNat64 (a : Nat) (h : a < 18446744073709551616) : (BitVec.ofInt 64 (a : Int)).toNat = a := by
  rw [BitVec.ofInt_natCast, BitVec.toNat_ofNat, Nat.mod_eq_of_lt (by omega)]
theorem pow64 (h : Nat) (hh : h < 64) : IntKind.u64.wrap ((2 : Int) ^ h) = ((2 ^ h : Nat) : Int) := by
  have : (2 : Int) ^ h = ((2 ^ h : Nat) : Int) := by simp
  rw [this]
  exact u64_same _ (Nat.pow_lt_pow_right (by decide) hh)
theorem bandNot64 (a h : Nat) (ha : a < 18446744073709551616) (hh : h < 64) : bits .andNot .u64 (a : Int) (IntKind.u64.wrap ((2 : Int) ^ h)) = ((ldiff a (2 ^ h) : Nat) : Int) := by
  have hp : 2 ^ h < 18446744073709551616 := Nat.pow_lt_pow_right (n := 64) (by decide) hh
  rw [pow64 h hh]
  show IntKind.u64.wrap ((BitVec.ofInt 64 (a : Int) &&& ~~~BitVec.ofInt 64 ((2 ^ h : Nat) : Int)).toNat : Int) = _
  have e : (BitVec.ofInt 64 (a : Int) &&& ~~~BitVec.ofInt 64 ((2 ^ h : Nat) : Int)).toNat = ldiff a (2 ^ h) := by
    apply Nat.eq_of_testBit_eq
    intro i
    have h1 := ofNat64 a ha
    have h2 := ofNat64 _ hp
    rw [testBit_ldiff, BitVec.toNat_and, Nat.testBit_and, h1]
    by_cases hi : i < 64
    · have : (~~~BitVec.ofInt 64 ((2 ^ h : Nat) : Int)).toNat.testBit i = !(BitVec.ofInt 64 ((2 ^ h : Nat) : Int)).toNat.testBit i := by
        rw [← BitVec.getLsbD, ← BitVec.getLsbD, BitVec.getLsbD_not]; simp [hi]
      rw [this, h2]
    · have : a.testBit i = false := Nat.testBit_lt_two_pow (Nat.lt_of_lt_of_le ha (Nat.le_trans (show 18446744073709551616 ≤ 2 ^ 64 by decide) (Nat.pow_le_pow_right (by decide) (by omega))))
      simp [this]
  rw [e, u64_same _ (Nat.lt_of_le_of_lt (ldiff_le _ _) ha)]
end Go.Proofs.YtbioondlmgolkaaDoor.Hu
