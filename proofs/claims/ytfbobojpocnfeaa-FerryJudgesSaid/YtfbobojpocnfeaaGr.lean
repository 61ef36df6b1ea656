/- Words on graphs as rows of sets, and small lemmas on all of a range. -/
import Derived.Test.YtfbobojpocnfeaaSubs
namespace Go.Proofs.Ytfbobojpocnfeaa
open Go.RowKit

/-- no edge of the graph lies within the set -/
def quietB (g : List Nat) (s : Nat) : Bool := (List.range g.length).all fun i => !(s.testBit i && (((g[i]?.getD 0) &&& s) != 0))
theorem all_step {f : Nat → Bool} {k : Nat} (h : ∀ j, j < k → f j = true) (hk : f k = true) : ∀ j, j < k + 1 → f j = true := fun j hj => by
  by_cases e : j = k
  · rw [e]; exact hk
  · exact h j (by omega)
theorem all_of {f : Nat → Bool} {n : Nat} (h : ∀ j, j < n → f j = true) : (List.range n).all f = true := by
  rw [List.all_eq_true]; intro x hx; exact h x (List.mem_range.1 hx)
theorem all_not {f : Nat → Bool} {n k : Nat} (hk : k < n) (h : f k = false) : (List.range n).all f = false := by
  rw [Bool.eq_false_iff]; intro hc
  rw [List.all_eq_true] at hc
  rw [hc k (List.mem_range.2 hk)] at h; cases h
end Go.Proofs.Ytfbobojpocnfeaa
