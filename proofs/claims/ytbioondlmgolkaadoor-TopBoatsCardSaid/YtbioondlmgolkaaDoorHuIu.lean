/- The program's iterator over the sets within a set: its contract; and the order of these sets. -/
import Derived.RangeFuncNested
import Derived.RangeFuncBound
import Derived.RangeFuncCalls
import Derived.RangeFuncLeaves
import Derived.Shelf.Abstract
import Derived.Shelf.RegionOpen
import Derived.OwnWalkIn
import Derived.TacticsInMore
import Derived.LoopNIn
import Derived.LoopIn
import Derived.Test.YtbioondlmgolkaaDoorHuW1
import Derived.Test.YtbioondlmgolkaaDoorG316
set_option linter.unusedVariables false
set_option linter.unusedSimpArgs false
namespace Go.Proofs.YtbioondlmgolkaaDoor.Hu
open Go.RowKit Go.Shelf
attribute [local go_sem] Oper.semAt_some
theorem boxed_at {W : World} {B : Nat} {t : TypeId} {v : Value} (h : B = W.heap.size) : Boxed (W.alloc (.cells #[v] t)) B t v := by rw [h]; exact Boxed.new W t v
theorem below_dr {B : Nat} {a w : World} (h : Below B a w) (n : Nat) : Below B a (w.drewN n) := ⟨h.os, h.tape, h.output, h.size, h.block⟩
end Go.Proofs.YtbioondlmgolkaaDoor.Hu
