/- has, areElements, isTwoTwo, IsTwoTwo: walks. -/
import Derived.BigQuiet
import Derived.Lib.TrailingZeros
import Derived.Laws.Bits64b
import Derived.Test.YtbioondlmgolkaaOp
set_option linter.unusedVariables false
set_option linter.unusedSimpArgs false
namespace Go.Proofs.Ytbioondlmgolkaa
open Go.RowKit Go.Shelf

theorem aft_sm {n : Nat} {r : Nat → Nat → Bool} (hn : n ≤ 12) (x : Nat) : Sm (aft n r x) := sm_bs _ (by omega)
theorem bef_sm {n : Nat} {r : Nat → Nat → Bool} (hn : n ≤ 12) (x : Nat) : Sm (bef n r x) := sm_bs _ (by omega)
set_option maxRecDepth 100000 in
theorem has_any (B n x y : Nat) (r : Nat → Nat → Bool) (w : World) (hn : n ≤ 12) (hx : x < n) (hy : y < n) (hO : OrdAt w B n r) :
    Calls Try.prog 82 #[.pointer (some ⟨B, 0, none⟩), .int .i64 (x : Int), .int .i64 (y : Int)] w fun e w' => e = .returned (.bool (r x y)) ∧ w' = w := by
  have l1 := hO.ca x hx
  have hs := aft_sm (r := r) hn x
  have hb := aft64 (n := n) (r := r) (x := x) hy
  rw [← hb]
  clear hb hO
  have h1 : (x : Int) < 12 := by omega
  have h2 : (0 : Int) ≤ (x : Int) := by omega
  have h3 : (0 : Int) ≤ (y : Int) := by omega
  have h4 : y < 20 := by omega
  generalize aft n r x = a at *
  go_enter Try.func82, Try.ntmps82
  go_wp2
  go_ret
  exact ⟨rfl, rfl⟩
end Go.Proofs.Ytbioondlmgolkaa
