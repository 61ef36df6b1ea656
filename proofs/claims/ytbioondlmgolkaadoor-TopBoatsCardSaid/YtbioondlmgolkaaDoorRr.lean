/- The document's test of boats, and a law's walk: ShiftFrom. -/
import Derived.BigQuiet
import Derived.Lib.TrailingZeros
import Derived.Laws.Bits64b
import Derived.BigRegion
import Derived.Laws.EntriesVeiled
import Derived.Sort.CutIn
import Derived.RangeFuncNested
import Derived.Test.YtbioondlmgolkaaDoorG310
import Derived.Test.YtbioondlmgolkaaDoorG311
import Derived.Test.YtbioondlmgolkaaDoorG308
import Derived.Test.YtbioondlmgolkaaDoorEq
set_option linter.unusedVariables false
set_option linter.unusedSimpArgs false
namespace Go.Proofs.YtbioondlmgolkaaDoor
open Go.RowKit Go.Shelf

/-- boats are right: plain -/
def RightP (l u : Nat → Int) (m many : Nat) (out : Nat → Nat) : Prop := (∀ x, x < m → out x < many) ∧ ∀ x y, x < m → y < x → ¬ (out x = out y ∧ l x ≤ u y ∧ l y ≤ u x)
end Go.Proofs.YtbioondlmgolkaaDoor
