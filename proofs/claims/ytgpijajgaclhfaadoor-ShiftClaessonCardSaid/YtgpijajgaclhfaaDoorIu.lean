/- The program's iterator over the sets within a set: its contract; and the order of these sets. -/
import Derived.Test.YtgpijajgaclhfaaDoorW1
import Derived.Test.YtgpijajgaclhfaaDoorG1101
import Derived.RangeFuncNested
import Derived.RangeFuncBound
import Derived.RangeFuncCalls
import Derived.RangeFuncLeaves
import Derived.Shelf.Abstract
import Derived.Shelf.RegionOpen
import Derived.OwnWalkIn
import Derived.TacticsInMore
import Derived.LoopNIn
import Derived.LoopIn
set_option linter.unusedVariables false
set_option linter.unusedSimpArgs false
namespace Go.Proofs.YtgpijajgaclhfaaDoor
open Go.RowKit Go.Shelf
attribute [local go_sem] Oper.semAt_some

theorem cell_al {W : World} {a : Addr} {v : Value} (o : Obj) (h : W.cell? a = some v) : (W.alloc o).cell? a = some v := cell_kept h (World.grownBy_alloc W o none) (fun r e => by cases e)
theorem boxed_at {W : World} {B : Nat} {t : TypeId} {v : Value} (h : B = W.heap.size) : Boxed (W.alloc (.cells #[v] t)) B t v := by rw [h]; exact Boxed.new W t v
abbrev S20 := Fin 1048576
/-- what a round must keep for an iterator that reads one box of its own -/
def KeepsBox (B : Nat) (W W' : World) : Prop := ∀ v, W.cell? ⟨B, 0, none⟩ = some v → W'.cell? ⟨B, 0, none⟩ = some v
theorem keepsBox_t {Bs : Nat} {A B C : World} (h : KeepsBox Bs A B) (k : KeepsBox Bs B C) : KeepsBox Bs A C := fun v hv => k v (h v hv)
theorem KeepsBox.refl (B : Nat) (W : World) : KeepsBox B W W := fun _ h => h
theorem keepsBox_b {w : World} {Bs : Nat} (W : World) (l : Nat) (o o' : Obj) (_ : w.heap.size ≤ l) (h : W.heap[l]? = some o) (hc : o.isCells = false) (_ : o.isWalk = false) : KeepsBox Bs W (W.putObj l o') := fun v hv => by
  exact cell_kept hv (grownBy_putObj' W l o') (fun r e => by cases e; exact ⟨_, h, hc⟩)

theorem below_dr {B : Nat} {a w : World} (h : Below B a w) (n : Nat) : Below B a (w.drewN n) := ⟨h.os, h.tape, h.output, h.size, h.block⟩
end Go.Proofs.YtgpijajgaclhfaaDoor
