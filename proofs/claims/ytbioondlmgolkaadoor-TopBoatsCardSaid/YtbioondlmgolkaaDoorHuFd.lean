/- The program's fan: what holds while it grows. -/
import Derived.Sort.CutIn
import Derived.StillTailTactics
import Derived.Test.YtbioondlmgolkaaDoorG325
set_option linter.unusedVariables false
set_option linter.unusedSimpArgs false
namespace Go.Proofs.YtbioondlmgolkaaDoor.Hu
open Go.RowKit Go.Shelf
attribute [local go_sem] Oper.semAt_some
theorem shr_and1_u (a k : Nat) (ha : a < 18446744073709551616) : bits .and .u64 ((shr a k : Nat) : Int) 1 = ((tb a k : Nat) : Int) := by
  have hx : shr a k < 18446744073709551616 := Nat.lt_of_le_of_lt (Nat.div_le_self _ _) ha
  have h1 : shr a k &&& 1 = tb a k := by rw [tb_eq, Nat.and_one_is_mod]; rfl
  show IntKind.u64.wrap ((BitVec.ofInt 64 ((shr a k : Nat) : Int) &&& BitVec.ofInt 64 (1 : Int)).toNat : Int) = _
  rw [BitVec.toNat_and, ofNat64 _ hx, show (BitVec.ofInt 64 (1 : Int)).toNat = 1 from rfl, h1, u64_same _ (by rw [tb_eq]; omega)]
end Go.Proofs.YtbioondlmgolkaaDoor.Hu
