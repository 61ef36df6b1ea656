/- Regions that draw their order, of a class of worlds: operations that yield one value in every world of the class come first, in any order; what waits for all of them follows in the order of the text. -/
import Derived.StillTailTactics
import Derived.Deep.Quiet
import Derived.BigQuiet
import Derived.Lib.TrailingZeros
import Derived.Laws.Bits64b
import Derived.Deep.QuietTactic
import Derived.BigRegion
import Derived.Deep.DeepMust
import Derived.WalkKit
import Derived.OwnWalkIn
import Derived.Test.YtocnhikohfkcaaaHuIu
import Derived.Test.YtocnhikohfkcaaaHuQr
set_option linter.unusedVariables false
set_option linter.unusedSimpArgs false
namespace Go.Proofs.Ytocnhikohfkcaaa.Hu
open Go.RowKit

/-- a world in which what lay below B in w is as it was -/
def BW (B : Nat) (w : World) : Type := { W : World // Below B w W }
def BW.w {B : Nat} {w : World} (d : BW B w) : World := d.1
theorem BW.b {B : Nat} {w : World} (d : BW B w) : Below B w d.w := d.2
def BW.of {B : Nat} {w : World} (W : World) (h : Below B w W) : BW B w := ⟨W, h⟩
theorem BW.of_w {B : Nat} {w : World} (W : World) (h : Below B w W) : (BW.of W h).w = W := rfl
theorem BW.cell {B : Nat} {w : World} (d : BW B w) {a : Addr} {v : Value} (ha : a.block < B) (h : w.cell? a = some v) : d.w.cell? a = some v := (d.b.cell (p := a) ha).trans h
theorem BW.frozen {B : Nat} {w : World} (d : BW B w) {a : Addr} {v : Bool} (ha : a.block < B) (h : w.frozen? a = v) : d.w.frozen? a = v := (d.b.frozen (p := a) ha).trans h

instance instBW (B : Nat) (w : World) : Nonempty (BW B w) := ⟨BW.of w (Below.refl _ w)⟩

section
variable {P : Program} {ops : Array Oper} {md : Region.Mode} {C : World → Prop}
end
theorem Calls.bw {P : Program} {f : FuncId} {args : Array Value} {w0 : World} {d : BW w0.heap.size w0} {v : Value}
    (h : Calls P f args d.w fun e w' => e = .returned v ∧ Below w0.heap.size w0 w') : Calls P f args d.w fun e w' => e = .returned v ∧ ∃ d' : BW w0.heap.size w0, w' = d'.w :=
  h.mono fun _ _ ⟨he, hb⟩ => ⟨he, BW.of _ hb, rfl⟩
end Go.Proofs.Ytocnhikohfkcaaa.Hu
