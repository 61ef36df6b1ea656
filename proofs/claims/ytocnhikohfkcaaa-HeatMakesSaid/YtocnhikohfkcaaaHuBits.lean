/- Words on sets as bits, and rules that write Go's bit operations on int64 over small natural numbers as those words. -/
import Derived.WalkKit
set_option linter.unusedVariables false
set_option linter.unusedSimpArgs false
namespace Go.Proofs.Ytocnhikohfkcaaa.Hu
open Go.RowKit

/-- a without b -/
def ldiff (a b : Nat) : Nat := a ^^^ (a &&& b)
def shr (a k : Nat) : Nat := a / 2 ^ k
def pw (k : Nat) : Nat := 2 ^ k
def tb (a k : Nat) : Nat := (a.testBit k).toNat
/-- small: fewer than 20 bits -/
def Sm (a : Nat) : Prop := a < 1048576

theorem Sm.lt {a : Nat} (h : Sm a) : a < 1048576 := h
theorem sm_of {a : Nat} (h : a < 1048576) : Sm a := h
theorem testBit_ldiff (a b i : Nat) : (ldiff a b).testBit i = (a.testBit i && !b.testBit i) := by
  unfold ldiff; rw [Nat.testBit_xor, Nat.testBit_and]; cases a.testBit i <;> cases b.testBit i <;> rfl
theorem ldiff_le (a b : Nat) : ldiff a b ≤ a := by
  apply Nat.le_of_testBit
  intro i h
  rw [testBit_ldiff] at h
  simp at h; exact h.1
theorem tb_lt (a k : Nat) : tb a k < 2 := by unfold tb; cases a.testBit k <;> decide
theorem tb_eq (a k : Nat) : tb a k = a / 2 ^ k % 2 := by
  unfold tb
  have h := Nat.testBit_eq_decide_div_mod_eq (x := a) (i := k)
  rw [h]
  have : a / 2 ^ k % 2 < 2 := Nat.mod_lt _ (by decide)
  by_cases e : a / 2 ^ k % 2 = 1
  · simp [e]
  · have : a / 2 ^ k % 2 = 0 := by omega
    simp [this]

theorem sm_and_l {a : Nat} (b : Nat) (h : Sm a) : Sm (a &&& b) := Nat.lt_of_le_of_lt Nat.and_le_left h
theorem sm_and_r {a : Nat} (b : Nat) (h : Sm a) : Sm (b &&& a) := Nat.lt_of_le_of_lt Nat.and_le_right h
theorem sm_ldiff {a : Nat} (b : Nat) (h : Sm a) : Sm (ldiff a b) := Nat.lt_of_le_of_lt (ldiff_le a b) h
theorem sm_or {a b : Nat} (h : Sm a) (h' : Sm b) : Sm (a ||| b) := Nat.or_lt_two_pow (n := 20) h h'
theorem sm_xor {a b : Nat} (h : Sm a) (h' : Sm b) : Sm (a ^^^ b) := Nat.xor_lt_two_pow (n := 20) h h'
theorem sm_shr {a : Nat} (k : Nat) (h : Sm a) : Sm (shr a k) := Nat.lt_of_le_of_lt (Nat.div_le_self _ _) h
theorem sm_tb (a k : Nat) : Sm (tb a k) := sm_of (Nat.lt_trans (tb_lt a k) (by decide))
theorem sm_pw {k : Nat} (h : k < 20) : Sm (pw k) := Nat.pow_lt_pow_right (by decide) h

theorem wrap_small (n : Nat) (h : n < 1048576) : IntKind.i64.wrap (n : Int) = n := by rw [IntKind.wrap_i64]; omega
theorem ofInt_small (a : Nat) (h : a < 1048576) : (BitVec.ofInt 64 (a : Int)).toNat = a := by
  rw [BitVec.ofInt_natCast, BitVec.toNat_ofNat, Nat.mod_eq_of_lt (by omega)]
theorem wrap_back (n : Nat) (x : BitVec 64) (h : x.toNat = n) (hn : n < 1048576) : IntKind.i64.wrap ((x.toNat : Nat) : Int) = (n : Int) := by
  rw [h]; exact wrap_small n hn
theorem band (a b : Nat) (ha : Sm a) (hb : Sm b) : bits .and .i64 (a : Int) (b : Int) = ((a &&& b : Nat) : Int) :=
  wrap_back _ (BitVec.ofInt 64 (a : Int) &&& BitVec.ofInt 64 (b : Int)) (by rw [BitVec.toNat_and, ofInt_small a ha, ofInt_small b hb]) (sm_and_l b ha).lt
theorem bor (a b : Nat) (ha : Sm a) (hb : Sm b) : bits .or .i64 (a : Int) (b : Int) = ((a ||| b : Nat) : Int) :=
  wrap_back _ (BitVec.ofInt 64 (a : Int) ||| BitVec.ofInt 64 (b : Int)) (by rw [BitVec.toNat_or, ofInt_small a ha, ofInt_small b hb]) (sm_or ha hb).lt
theorem bxor (a b : Nat) (ha : Sm a) (hb : Sm b) : bits .xor .i64 (a : Int) (b : Int) = ((a ^^^ b : Nat) : Int) :=
  wrap_back _ (BitVec.ofInt 64 (a : Int) ^^^ BitVec.ofInt 64 (b : Int)) (by rw [BitVec.toNat_xor, ofInt_small a ha, ofInt_small b hb]) (sm_xor ha hb).lt
theorem bandNot (a b : Nat) (ha : Sm a) (hb : Sm b) : bits .andNot .i64 (a : Int) (b : Int) = ((ldiff a b : Nat) : Int) :=
  wrap_back _ (BitVec.ofInt 64 (a : Int) &&& ~~~BitVec.ofInt 64 (b : Int)) (by
    apply Nat.eq_of_testBit_eq
    intro i
    have h1 := ofInt_small a ha
    have h2 := ofInt_small b hb
    rw [testBit_ldiff, BitVec.toNat_and, Nat.testBit_and, h1]
    by_cases hi : i < 64
    · have : (~~~BitVec.ofInt 64 (b : Int)).toNat.testBit i = !(BitVec.ofInt 64 (b : Int)).toNat.testBit i := by
        rw [← BitVec.getLsbD, ← BitVec.getLsbD, BitVec.getLsbD_not]; simp [hi]
      rw [this, h2]
    · have : a.testBit i = false := Nat.testBit_lt_two_pow (Nat.lt_of_lt_of_le ha (Nat.le_trans (show 1048576 ≤ 2 ^ 64 by decide) (Nat.pow_le_pow_right (by decide) (by omega))))
      simp [this]) (sm_ldiff b ha).lt
theorem shr_cast (a k : Nat) : (a : Int) / 2 ^ k = ((shr a k : Nat) : Int) := by unfold shr; simp
theorem shr_tmod (a k : Nat) : ((shr a k : Nat) : Int).tmod 2 = ((tb a k : Nat) : Int) := by
  rw [tb_eq]; unfold shr; rw [Int.tmod_eq_emod_of_nonneg (Int.natCast_nonneg _)]; simp
theorem shr_emod (a k : Nat) : ((shr a k : Nat) : Int) % 2 = ((tb a k : Nat) : Int) := by
  rw [tb_eq]; unfold shr; simp
theorem shr_and1 (a k : Nat) (ha : Sm a) : bits .and .i64 ((shr a k : Nat) : Int) 1 = ((tb a k : Nat) : Int) := by
  rw [tb_eq]
  have := band (shr a k) 1 (sm_shr k ha) (sm_of (by decide))
  rw [Nat.and_one_is_mod] at this
  exact this
theorem tb_eq_one (a k : Nat) : (((tb a k : Nat) : Int) = 1) = (a.testBit k = true) := by unfold tb; cases a.testBit k <;> simp
theorem tb_eq_zero (a k : Nat) : (((tb a k : Nat) : Int) = 0) = (a.testBit k = false) := by unfold tb; cases a.testBit k <;> simp
theorem tb_beq_one (a k : Nat) : (((tb a k : Nat) : Int) == 1) = a.testBit k := by unfold tb; cases a.testBit k <;> rfl
theorem tb_beq_zero (a k : Nat) : (((tb a k : Nat) : Int) == 0) = !a.testBit k := by unfold tb; cases a.testBit k <;> rfl
theorem pw_cast (k : Nat) (h : k < 20) : wrap64 (2 ^ k) = ((pw k : Nat) : Int) := by
  have : (2 : Int) ^ k = ((2 ^ k : Nat) : Int) := by simp
  rw [this, ← IntWalk.i64_left]; exact wrap_small _ (sm_pw h)
/-- how many of the first k bits are set -/
def szTo (s : Nat) : Nat → Nat
  | 0 => 0
  | k + 1 => szTo s k + tb s k
def size (s : Nat) : Nat := szTo s 64
theorem lt_up {a b : Nat} (h : a < b) : (a < b + 1) = True := eq_true (by omega)
attribute [go_sem] band bor bxor bandNot shr_cast shr_tmod shr_emod shr_and1 tb_eq_one tb_eq_zero tb_beq_one tb_beq_zero pw_cast sm_and_l sm_and_r sm_ldiff sm_or sm_xor sm_shr sm_tb sm_pw lt_up
end Go.Proofs.Ytocnhikohfkcaaa.Hu
