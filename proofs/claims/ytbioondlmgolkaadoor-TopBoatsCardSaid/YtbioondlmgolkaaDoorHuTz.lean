/- The library's count of trailing zeros; the elements of a set, in order; the program's iterator over a vertex' neighbours. -/
import Derived.Lib.TrailingZeros
import Derived.Laws.Bits64b
import Derived.Test.YtbioondlmgolkaaDoorG321
set_option linter.unusedVariables false
set_option linter.unusedSimpArgs false
namespace Go.Proofs.YtbioondlmgolkaaDoor.Hu
open Go.RowKit Go.Shelf
attribute [local go_sem] Oper.semAt_some
/-- the library's table lies in its variable -/
def Tab (w : World) : Prop := 0 < w.heap.size ∧ ∀ j, j < Lib.deBruijn64tab.length → w.cell? ⟨0, j, none⟩ = some (.int .u8 (Lib.deBruijn64tab.getD j 0))
theorem Tab.below {n : Nat} {w W : World} (h : Tab w) (hB : Below n w W) (hn : w.heap.size ≤ n) : Tab W :=
  ⟨Nat.lt_of_lt_of_le h.1 hB.size, fun j hj => (hB.cell (p := ⟨0, j, none⟩) (Nat.lt_of_lt_of_le h.1 hn)).trans (h.2 j hj)⟩
set_option maxHeartbeats 1000000 in
theorem tz64_core (x k idx : Nat) (w : World) (hx0 : ((x : Int) == 0) = false)
    (key : IntKind.u64.wrap (bits BinOp.and IntKind.u64 (x : Int) (IntKind.u64.wrap (-(x : Int))) * 285870213051353865) / 288230376151711744 = (idx : Int))
    (hi : idx < 64) (hk : k < 64) (hcell : w.cell? ⟨0, idx, none⟩ = some (.int .u8 k)) :
    Calls Tryd.prog 31 #[.int .u64 x] w fun e w' => e = .returned (.int .i64 k) ∧ w' = w := by
  go_enter Tryd.func31, Tryd.ntmps31
  go_wp2_with (simp only [key])
  go_ret
  exact ⟨rfl, rfl⟩
theorem tz64_any (x : Nat) (hx : x < 18446744073709551616) (hx0 : x ≠ 0) (w : World) (hT : Tab w) :
    Calls Tryd.prog 31 #[.int .u64 x] w fun e w' => e = .returned (.int .i64 (Lib.ctz 64 x)) ∧ w' = w := by
  obtain ⟨hlow, hk⟩ := Lib.lowest_bit 64 x hx0 hx
  obtain ⟨hi, htab⟩ := Lib.deBruijn64_at _ hk
  have hcell := hT.2 _ hi
  rw [htab] at hcell
  refine tz64_core x _ _ w (by simp; omega) ?_ hi hk hcell
  have e1 : IntKind.u64.wrap (-(x : Int)) = ((18446744073709551616 - x : Nat) : Int) := by rw [IntKind.wrap_u64]; omega
  rw [e1, bits_and_u64_nat x _ hx (by omega), hlow, IntKind.wrap_u64]
  clear hcell htab hi
  generalize 2 ^ Lib.ctz 64 x = a
  omega
/-- the least element -/
def lo (x : Nat) : Nat := Lib.ctz 64 x
theorem lo_spec {x : Nat} (h0 : x ≠ 0) (h : x < 18446744073709551616) : ∃ m, x = 2 ^ lo x * (2 * m + 1) ∧ lo x < 64 := by
  have := Lib.ctzFrom_spec 64 x (by omega) h
  unfold lo Lib.ctz
  rw [if_neg h0]
  exact this
theorem bit_low (c m j : Nat) : (2 ^ c * (2 * m + 1)).testBit j = (decide (j = c) || (decide (c < j) && m.testBit (j - c - 1))) := by
  rw [Nat.mul_comm, Nat.testBit_mul_two_pow]
  by_cases h : c ≤ j
  · obtain ⟨d, rfl⟩ : ∃ d, j = c + d := ⟨j - c, by omega⟩
    cases d with
    | zero => simp [Nat.testBit_zero]
    | succ d =>
      rw [show c + (d + 1) - c = d + 1 by omega, Nat.testBit_succ, show (2 * m + 1) / 2 = m by omega, show d + 1 - 1 = d by omega]
      simp
  · simp [show ¬ c ≤ j by omega, show ¬ j = c by omega, show ¬ c < j by omega]
theorem lo_bit {x : Nat} (h0 : x ≠ 0) (h : x < 18446744073709551616) : x.testBit (lo x) = true ∧ ∀ j, x.testBit j = true → lo x ≤ j := by
  obtain ⟨m, hm, _⟩ := lo_spec h0 h
  generalize lo x = c at *
  subst hm
  refine ⟨by rw [bit_low]; simp, fun j hj => ?_⟩
  rw [bit_low] at hj
  simp at hj
  omega
theorem sub_one_and {x : Nat} (h0 : x ≠ 0) (h : x < 18446744073709551616) : x &&& (x - 1) = ldiff x (pw (lo x)) := by
  obtain ⟨m, hm, _⟩ := lo_spec h0 h
  generalize lo x = c at *
  subst hm
  refine Nat.eq_of_testBit_eq fun j => ?_
  have hp : 0 < 2 ^ c := Nat.two_pow_pos c
  have e : 2 ^ c * (2 * m + 1) - 1 = 2 ^ c * (2 * m) + (2 ^ c - 1) := by rw [Nat.mul_add]; omega
  rw [testBit_ldiff, Nat.testBit_and, e, Nat.testBit_two_pow_mul_add (b := 2 ^ c - 1) (2 * m) (by omega) j, bit_low]
  unfold pw
  rw [Nat.testBit_two_pow]
  by_cases h1 : j = c
  · subst h1
    simp [Nat.testBit_zero]
  · by_cases h2 : j < c
    · simp [show ¬ c < j by omega, h1]
    · obtain ⟨d, rfl⟩ : ∃ d, j = c + d + 1 := ⟨j - c - 1, by omega⟩
      rw [if_neg h2, show c + d + 1 - c = d + 1 by omega, Nat.testBit_succ, show (2 * m) / 2 = m by omega]
      simp [show ¬ c = c + d + 1 by omega, h1]
end Go.Proofs.YtbioondlmgolkaaDoor.Hu
