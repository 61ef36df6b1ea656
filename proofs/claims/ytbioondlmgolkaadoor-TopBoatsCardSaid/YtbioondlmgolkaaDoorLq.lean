/- What the table of package bits holds when a law is called. -/
import Derived.LaidMore
import Derived.Stop.Joined
import Derived.Test.YtbioondlmgolkaaDoorLo
import Derived.Test.YtbioondlmgolkaaDoorHuTz
set_option linter.unusedVariables false
set_option linter.unusedSimpArgs false
namespace Go.Proofs.YtbioondlmgolkaaDoor
open Go.ChangeShapes Go.WideShapes Go.ChangeAt Go.WideMaps Go.WideElems Go.RowKit

def laid2 : List (String × DataW Unit) := [("math/bits.deBruijn64tab", Rows.laid_math_bits_deBruijn64tab)]
theorem g64 : Tryd.prog.globalNamed "math/bits.deBruijn64tab" = some 0 := by kernel_rfl
theorem t64 : (Tryd.prog.globals[0]?).map (·.type) = some 100 := by kernel_rfl
theorem c137 : Tryd.prog.cellsOf 100 = 64 := by kernel_rfl
theorem u137 : Tryd.prog.underlying 100 = some (.array 64 5) := by kernel_rfl
theorem u5 : Tryd.prog.underlying 5 = some (.int .u8) := by kernel_rfl
theorem c5 : Tryd.prog.cellsOf 5 = 1 := by kernel_rfl
theorem data64 : (Rows.laid_math_bits_deBruijn64tab : DataW Unit) = .agg (Lib.deBruijn64tab.map fun (k : Nat) => .lit (.int .u8 (k : Int))) := by
  unfold Rows.laid_math_bits_deBruijn64tab Lib.deBruijn64tab
  rfl
theorem len64 : Lib.deBruijn64tab.length = 64 := by decide
/-- The door's own heap meets the condition. -/
theorem door_met (os : Os) (args : Array Value) : laidMetH Tryd.prog laid2 ((World.doorLaid Tryd.prog 19 os).forCall (fun _ _ => 0) ⟨#[], args, []⟩).memory :=
  laidMetH_of_parts3 (fuel := 8) (laidMet_of_run' 8 (by kernel_rfl) (by kernel_rfl)) (by kernel_rfl) (by kernel_rfl)
theorem tab_of_laid {W : World} (h : laidMetH Tryd.prog laid2 W) : Hu.Tab W := by
  rw [MakeChecks.laidMetH_plain _ _ _ (by kernel_rfl)] at h
  obtain ⟨ps, ⟨g1, t1, cs1, f1, p1, q1, hg1, ht1, hv1, hd1, _, _⟩, _, _⟩ := h
  obtain rfl := Option.some.inj (g64.symm.trans hg1)
  obtain rfl := Option.some.inj (t64.symm.trans ht1)
  obtain ⟨xs, m1, rfl, hx1, hlen, hn3, hel⟩ := DataW.trod_array u137 hd1
  simp only [Prod.mk.injEq] at hx1
  rw [data64] at hx1
  have hxs := DataW.agg.inj hx1.1
  have hcell : ∀ j, j < 64 → W.cell? ⟨0, j, none⟩ = some (.int .u8 (Lib.deBruijn64tab.getD j 0)) := fun j hj => by
    have h0 := hel j hj
    rw [c5, Nat.mul_one, List.getElem?_eq_getElem (by omega)] at h0
    obtain ⟨k, e1, e2, _⟩ := DataW.trod_int u5 h0
    have hj2 : j < Lib.deBruijn64tab.length := by rw [len64]; exact hj
    have h3 := congrArg (fun l : List (DataW Unit) => l[j]?) hxs
    simp only [List.getElem?_map, List.getElem?_eq_getElem hj2, List.getElem?_eq_getElem (show j < xs.length by omega), Option.map_some, e2, Option.some.injEq, DataW.lit.injEq, Lit.int.injEq, true_and] at h3
    have h4 := World.var?_cell hg1 hv1 j
    rw [h4]
    have h5 : (cs1.toList.drop j)[0]? = some (.int .u8 k) := by
      have := congrArg (fun l : List Value => l[0]?) e1
      simpa using this
    rw [List.getElem?_drop, Nat.add_zero] at h5
    rw [← Array.getElem?_toList, h5, List.getD_eq_getElem?_getD, List.getElem?_eq_getElem hj2, Option.getD_some, h3]
  refine ⟨?_, fun j hj => hcell j (by rw [len64] at hj; exact hj)⟩
  obtain ⟨o, ho, _⟩ := cells_of_cell (hcell 0 (by decide))
  exact (Array.getElem?_eq_some_iff.1 ho).1
end Go.Proofs.YtbioondlmgolkaaDoor
