/-
  NARROWER THAN 'FOR EVERY INPUT', by the rows' own cells (each row's printed sentence says how): HueFewest: laid · HueOrders: laid · HueVizing: laid · HueSided: laid · HueSides: laid · HueLists: laid · HueColours: laid · HueLoose: laid · HueKonig: laid · HueGalvin: laid · HueChecks: laid.
  DERIVED. THE GIVEN ROWS OF THIS SEAT. 11 by the template 'for every input the law returns true; each argument reads behind the call as it read before'; 0 by the template 'total and deterministic' (their statements: YtpknnjcbcndbbaaDoorTotals.lean).
  GIVEN WITH THE SEED: the statements are not yours to turn. If you find one false, say at which input.
  Laid BY PROGRAM, IN A SANDBOX (cutbox-rows.mjs): the forced cells as the released guide's own fill.sh prints them over the translation c8b86eb9f9816aa0… (all of the seat's roots in one cut). By AI agents, Wed Nov 11 2026. No macro, syntax, notation, axiom, sorry.
-/
import Derived.Test.YtpknnjcbcndbbaaDoorChecked
import GoSem.Claim
import GoSem.ClaimJoined
import GoSem.ClaimMapViews
import Derived.JoinedTies
import Derived.KernelRfl
namespace Go.Proofs.YtpknnjcbcndbbaaDoor
/- THE CELL 'sum', in the pinned program and in every row, IS THE sha256 OF THE DUMP (.gsa) THAT YtpknnjcbcndbbaaDoorProg.lean LOADS. Nothing in Lean hashes anything: it is a label: what it is worth is what the hold of that sum in a sandbox is worth. -/
noncomputable def Tryd.pinned : Pinned := { name := "ytpknnjcbcndbbaadoor", sum := "c8b86eb9f9816aa065f33fed39fb005d12dc8be1568028b363ca954a4c9408a3", checked := Tryd.checked }
namespace Rows
def none {H : Type} : Left H := { results := [], args := [] }

/- WHAT THE LISTED PACKAGE-LEVEL VARIABLES READ AS WHEN THE CALL BEGINS. Each datum BY PROGRAM (the guide's laid-datum.mjs) off the statement by which the dump's own 'gosem.cut.vars' lays the variable. In a bare row this is a premise. The card (YtpknnjcbcndbbaaDoorCards.lean) ties it to the program's text. -/
def laid_math_bits_deBruijn32tab {H : Type} : DataW H := .agg [.lit (.int .u8 0), .lit (.int .u8 1), .lit (.int .u8 28), .lit (.int .u8 2), .lit (.int .u8 29), .lit (.int .u8 14), .lit (.int .u8 24), .lit (.int .u8 3), .lit (.int .u8 30), .lit (.int .u8 22), .lit (.int .u8 20), .lit (.int .u8 15), .lit (.int .u8 25), .lit (.int .u8 17), .lit (.int .u8 4), .lit (.int .u8 8), .lit (.int .u8 31), .lit (.int .u8 27), .lit (.int .u8 13), .lit (.int .u8 23), .lit (.int .u8 21), .lit (.int .u8 19), .lit (.int .u8 16), .lit (.int .u8 7), .lit (.int .u8 26), .lit (.int .u8 12), .lit (.int .u8 18), .lit (.int .u8 6), .lit (.int .u8 11), .lit (.int .u8 5), .lit (.int .u8 10), .lit (.int .u8 9)]
def laid_math_bits_deBruijn64tab {H : Type} : DataW H := .agg [.lit (.int .u8 0), .lit (.int .u8 1), .lit (.int .u8 56), .lit (.int .u8 2), .lit (.int .u8 57), .lit (.int .u8 49), .lit (.int .u8 28), .lit (.int .u8 3), .lit (.int .u8 61), .lit (.int .u8 58), .lit (.int .u8 42), .lit (.int .u8 50), .lit (.int .u8 38), .lit (.int .u8 29), .lit (.int .u8 17), .lit (.int .u8 4), .lit (.int .u8 62), .lit (.int .u8 47), .lit (.int .u8 59), .lit (.int .u8 36), .lit (.int .u8 45), .lit (.int .u8 43), .lit (.int .u8 51), .lit (.int .u8 22), .lit (.int .u8 53), .lit (.int .u8 39), .lit (.int .u8 33), .lit (.int .u8 30), .lit (.int .u8 24), .lit (.int .u8 18), .lit (.int .u8 12), .lit (.int .u8 5), .lit (.int .u8 63), .lit (.int .u8 55), .lit (.int .u8 48), .lit (.int .u8 27), .lit (.int .u8 60), .lit (.int .u8 41), .lit (.int .u8 37), .lit (.int .u8 16), .lit (.int .u8 46), .lit (.int .u8 35), .lit (.int .u8 44), .lit (.int .u8 21), .lit (.int .u8 52), .lit (.int .u8 32), .lit (.int .u8 23), .lit (.int .u8 11), .lit (.int .u8 54), .lit (.int .u8 26), .lit (.int .u8 40), .lit (.int .u8 15), .lit (.int .u8 34), .lit (.int .u8 20), .lit (.int .u8 31), .lit (.int .u8 10), .lit (.int .u8 25), .lit (.int .u8 14), .lit (.int .u8 19), .lit (.int .u8 9), .lit (.int .u8 13), .lit (.int .u8 8), .lit (.int .u8 7), .lit (.int .u8 6)]

/-- 'forcolalaw07.HueFewest': WHATEVER THE INPUT: true; the input reads as it did. -/
def hueFewestSpec : ChangeSpec := { name := "hueFewest", fn := fun _ => fun
  | [d1, d2] => { results := [.lit (.bool true)], args := [d1, d2] }
  | _ => none }
def hueFewestRow : OpenClaim := { program := "ytpknnjcbcndbbaadoor", sum := "c8b86eb9f9816aa065f33fed39fb005d12dc8be1568028b363ca954a4c9408a3", func := "forcola/forcolalaw07.HueFewest", spec := "hueFewest", unfollowed := true, recurses := true, named := ["math/bits.deBruijn64tab", "math/bits.deBruijn32tab"], plainKeys := false, apart := false, laid := [("math/bits.deBruijn32tab", laid_math_bits_deBruijn32tab), ("math/bits.deBruijn64tab", laid_math_bits_deBruijn64tab)] }
def HueFewestSaid : Prop := hueFewestRow.holds Tryd.pinned (OpenSpec.ofChange hueFewestSpec)

/-- ITS FALSE NEIGHBOUR: 'it returns false'. Refute it at one input. -/
def hueFewestWrong : ChangeSpec := { name := "hueFewest", fn := fun _ => fun
  | [d1, d2] => { results := [.lit (.bool false)], args := [d1, d2] }
  | _ => none }
def HueFewestWrongFalsely : Prop := hueFewestRow.holds Tryd.pinned (OpenSpec.ofChange hueFewestWrong)

/-- 'forcolalaw07.HueOrders': WHATEVER THE INPUT: true; the input reads as it did. -/
def hueOrdersSpec : ChangeSpec := { name := "hueOrders", fn := fun _ => fun
  | [d1, d2, d3] => { results := [.lit (.bool true)], args := [d1, d2, d3] }
  | _ => none }
def hueOrdersRow : OpenClaim := { program := "ytpknnjcbcndbbaadoor", sum := "c8b86eb9f9816aa065f33fed39fb005d12dc8be1568028b363ca954a4c9408a3", func := "forcola/forcolalaw07.HueOrders", spec := "hueOrders", unfollowed := true, recurses := true, named := ["math/bits.deBruijn64tab", "math/bits.deBruijn32tab"], plainKeys := false, apart := false, laid := [("math/bits.deBruijn32tab", laid_math_bits_deBruijn32tab), ("math/bits.deBruijn64tab", laid_math_bits_deBruijn64tab)] }
def HueOrdersSaid : Prop := hueOrdersRow.holds Tryd.pinned (OpenSpec.ofChange hueOrdersSpec)

/-- ITS FALSE NEIGHBOUR: 'it returns false'. Refute it at one input. -/
def hueOrdersWrong : ChangeSpec := { name := "hueOrders", fn := fun _ => fun
  | [d1, d2, d3] => { results := [.lit (.bool false)], args := [d1, d2, d3] }
  | _ => none }
def HueOrdersWrongFalsely : Prop := hueOrdersRow.holds Tryd.pinned (OpenSpec.ofChange hueOrdersWrong)

/-- 'forcolalaw07.HueVizing': WHATEVER THE INPUT: true; the input reads as it did. -/
def hueVizingSpec : ChangeSpec := { name := "hueVizing", fn := fun _ => fun
  | [d1, d2] => { results := [.lit (.bool true)], args := [d1, d2] }
  | _ => none }
def hueVizingRow : OpenClaim := { program := "ytpknnjcbcndbbaadoor", sum := "c8b86eb9f9816aa065f33fed39fb005d12dc8be1568028b363ca954a4c9408a3", func := "forcola/forcolalaw07.HueVizing", spec := "hueVizing", unfollowed := true, recurses := true, named := ["math/bits.deBruijn32tab", "math/bits.deBruijn64tab"], plainKeys := false, apart := false, laid := [("math/bits.deBruijn32tab", laid_math_bits_deBruijn32tab), ("math/bits.deBruijn64tab", laid_math_bits_deBruijn64tab)] }
def HueVizingSaid : Prop := hueVizingRow.holds Tryd.pinned (OpenSpec.ofChange hueVizingSpec)

/-- ITS FALSE NEIGHBOUR: 'it returns false'. Refute it at one input. -/
def hueVizingWrong : ChangeSpec := { name := "hueVizing", fn := fun _ => fun
  | [d1, d2] => { results := [.lit (.bool false)], args := [d1, d2] }
  | _ => none }
def HueVizingWrongFalsely : Prop := hueVizingRow.holds Tryd.pinned (OpenSpec.ofChange hueVizingWrong)

/-- 'forcolalaw07.HueSided': WHATEVER THE INPUT: true; the input reads as it did. -/
def hueSidedSpec : ChangeSpec := { name := "hueSided", fn := fun _ => fun
  | [d1, d2] => { results := [.lit (.bool true)], args := [d1, d2] }
  | _ => none }
def hueSidedRow : OpenClaim := { program := "ytpknnjcbcndbbaadoor", sum := "c8b86eb9f9816aa065f33fed39fb005d12dc8be1568028b363ca954a4c9408a3", func := "forcola/forcolalaw07.HueSided", spec := "hueSided", unfollowed := true, recurses := true, named := ["math/bits.deBruijn32tab", "math/bits.deBruijn64tab"], plainKeys := false, apart := false, laid := [("math/bits.deBruijn32tab", laid_math_bits_deBruijn32tab), ("math/bits.deBruijn64tab", laid_math_bits_deBruijn64tab)] }
def HueSidedSaid : Prop := hueSidedRow.holds Tryd.pinned (OpenSpec.ofChange hueSidedSpec)

/-- ITS FALSE NEIGHBOUR: 'it returns false'. Refute it at one input. -/
def hueSidedWrong : ChangeSpec := { name := "hueSided", fn := fun _ => fun
  | [d1, d2] => { results := [.lit (.bool false)], args := [d1, d2] }
  | _ => none }
def HueSidedWrongFalsely : Prop := hueSidedRow.holds Tryd.pinned (OpenSpec.ofChange hueSidedWrong)

/-- 'forcolalaw07.HueSides': WHATEVER THE INPUT: true; the input reads as it did. -/
def hueSidesSpec : ChangeSpec := { name := "hueSides", fn := fun _ => fun
  | [d1, d2, d3] => { results := [.lit (.bool true)], args := [d1, d2, d3] }
  | _ => none }
def hueSidesRow : OpenClaim := { program := "ytpknnjcbcndbbaadoor", sum := "c8b86eb9f9816aa065f33fed39fb005d12dc8be1568028b363ca954a4c9408a3", func := "forcola/forcolalaw07.HueSides", spec := "hueSides", unfollowed := true, recurses := true, named := ["math/bits.deBruijn32tab", "math/bits.deBruijn64tab"], plainKeys := false, apart := false, laid := [("math/bits.deBruijn32tab", laid_math_bits_deBruijn32tab), ("math/bits.deBruijn64tab", laid_math_bits_deBruijn64tab)] }
def HueSidesSaid : Prop := hueSidesRow.holds Tryd.pinned (OpenSpec.ofChange hueSidesSpec)

/-- ITS FALSE NEIGHBOUR: 'it returns false'. Refute it at one input. -/
def hueSidesWrong : ChangeSpec := { name := "hueSides", fn := fun _ => fun
  | [d1, d2, d3] => { results := [.lit (.bool false)], args := [d1, d2, d3] }
  | _ => none }
def HueSidesWrongFalsely : Prop := hueSidesRow.holds Tryd.pinned (OpenSpec.ofChange hueSidesWrong)

/-- 'forcolalaw07.HueLists': WHATEVER THE INPUT: true; the input reads as it did. -/
def hueListsSpec : ChangeSpec := { name := "hueLists", fn := fun _ => fun
  | [d1, d2, d3] => { results := [.lit (.bool true)], args := [d1, d2, d3] }
  | _ => none }
def hueListsRow : OpenClaim := { program := "ytpknnjcbcndbbaadoor", sum := "c8b86eb9f9816aa065f33fed39fb005d12dc8be1568028b363ca954a4c9408a3", func := "forcola/forcolalaw07.HueLists", spec := "hueLists", unfollowed := true, recurses := true, named := ["math/bits.deBruijn64tab", "math/bits.deBruijn32tab"], plainKeys := false, apart := false, laid := [("math/bits.deBruijn32tab", laid_math_bits_deBruijn32tab), ("math/bits.deBruijn64tab", laid_math_bits_deBruijn64tab)] }
def HueListsSaid : Prop := hueListsRow.holds Tryd.pinned (OpenSpec.ofChange hueListsSpec)

/-- ITS FALSE NEIGHBOUR: 'it returns false'. Refute it at one input. -/
def hueListsWrong : ChangeSpec := { name := "hueLists", fn := fun _ => fun
  | [d1, d2, d3] => { results := [.lit (.bool false)], args := [d1, d2, d3] }
  | _ => none }
def HueListsWrongFalsely : Prop := hueListsRow.holds Tryd.pinned (OpenSpec.ofChange hueListsWrong)

/-- 'forcolalaw07.HueColours': WHATEVER THE INPUT: true; the input reads as it did. -/
def hueColoursSpec : ChangeSpec := { name := "hueColours", fn := fun _ => fun
  | [d1, d2, d3] => { results := [.lit (.bool true)], args := [d1, d2, d3] }
  | _ => none }
def hueColoursRow : OpenClaim := { program := "ytpknnjcbcndbbaadoor", sum := "c8b86eb9f9816aa065f33fed39fb005d12dc8be1568028b363ca954a4c9408a3", func := "forcola/forcolalaw07.HueColours", spec := "hueColours", unfollowed := true, recurses := true, named := ["math/bits.deBruijn64tab", "math/bits.deBruijn32tab"], plainKeys := false, apart := false, laid := [("math/bits.deBruijn32tab", laid_math_bits_deBruijn32tab), ("math/bits.deBruijn64tab", laid_math_bits_deBruijn64tab)] }
def HueColoursSaid : Prop := hueColoursRow.holds Tryd.pinned (OpenSpec.ofChange hueColoursSpec)

/-- ITS FALSE NEIGHBOUR: 'it returns false'. Refute it at one input. -/
def hueColoursWrong : ChangeSpec := { name := "hueColours", fn := fun _ => fun
  | [d1, d2, d3] => { results := [.lit (.bool false)], args := [d1, d2, d3] }
  | _ => none }
def HueColoursWrongFalsely : Prop := hueColoursRow.holds Tryd.pinned (OpenSpec.ofChange hueColoursWrong)

/-- 'forcolalaw07.HueLoose': WHATEVER THE INPUT: true; the input reads as it did. -/
def hueLooseSpec : ChangeSpec := { name := "hueLoose", fn := fun _ => fun
  | [d1, d2, d3] => { results := [.lit (.bool true)], args := [d1, d2, d3] }
  | _ => none }
def hueLooseRow : OpenClaim := { program := "ytpknnjcbcndbbaadoor", sum := "c8b86eb9f9816aa065f33fed39fb005d12dc8be1568028b363ca954a4c9408a3", func := "forcola/forcolalaw07.HueLoose", spec := "hueLoose", unfollowed := true, recurses := true, named := ["math/bits.deBruijn64tab", "math/bits.deBruijn32tab"], plainKeys := false, apart := false, laid := [("math/bits.deBruijn32tab", laid_math_bits_deBruijn32tab), ("math/bits.deBruijn64tab", laid_math_bits_deBruijn64tab)] }
def HueLooseSaid : Prop := hueLooseRow.holds Tryd.pinned (OpenSpec.ofChange hueLooseSpec)

/-- ITS FALSE NEIGHBOUR: 'it returns false'. Refute it at one input. -/
def hueLooseWrong : ChangeSpec := { name := "hueLoose", fn := fun _ => fun
  | [d1, d2, d3] => { results := [.lit (.bool false)], args := [d1, d2, d3] }
  | _ => none }
def HueLooseWrongFalsely : Prop := hueLooseRow.holds Tryd.pinned (OpenSpec.ofChange hueLooseWrong)

/-- 'forcolalaw07.HueKonig': WHATEVER THE INPUT: true; the input reads as it did. -/
def hueKonigSpec : ChangeSpec := { name := "hueKonig", fn := fun _ => fun
  | [d1, d2, d3] => { results := [.lit (.bool true)], args := [d1, d2, d3] }
  | _ => none }
def hueKonigRow : OpenClaim := { program := "ytpknnjcbcndbbaadoor", sum := "c8b86eb9f9816aa065f33fed39fb005d12dc8be1568028b363ca954a4c9408a3", func := "forcola/forcolalaw07.HueKonig", spec := "hueKonig", unfollowed := true, recurses := true, named := ["math/bits.deBruijn64tab", "math/bits.deBruijn32tab"], plainKeys := false, apart := false, laid := [("math/bits.deBruijn32tab", laid_math_bits_deBruijn32tab), ("math/bits.deBruijn64tab", laid_math_bits_deBruijn64tab)] }
def HueKonigSaid : Prop := hueKonigRow.holds Tryd.pinned (OpenSpec.ofChange hueKonigSpec)

/-- ITS FALSE NEIGHBOUR: 'it returns false'. Refute it at one input. -/
def hueKonigWrong : ChangeSpec := { name := "hueKonig", fn := fun _ => fun
  | [d1, d2, d3] => { results := [.lit (.bool false)], args := [d1, d2, d3] }
  | _ => none }
def HueKonigWrongFalsely : Prop := hueKonigRow.holds Tryd.pinned (OpenSpec.ofChange hueKonigWrong)

/-- 'forcolalaw07.HueGalvin': WHATEVER THE INPUT: true; the input reads as it did. -/
def hueGalvinSpec : ChangeSpec := { name := "hueGalvin", fn := fun _ => fun
  | [d1, d2, d3] => { results := [.lit (.bool true)], args := [d1, d2, d3] }
  | _ => none }
def hueGalvinRow : OpenClaim := { program := "ytpknnjcbcndbbaadoor", sum := "c8b86eb9f9816aa065f33fed39fb005d12dc8be1568028b363ca954a4c9408a3", func := "forcola/forcolalaw07.HueGalvin", spec := "hueGalvin", unfollowed := true, recurses := true, named := ["math/bits.deBruijn32tab", "math/bits.deBruijn64tab"], plainKeys := false, apart := false, laid := [("math/bits.deBruijn32tab", laid_math_bits_deBruijn32tab), ("math/bits.deBruijn64tab", laid_math_bits_deBruijn64tab)] }
def HueGalvinSaid : Prop := hueGalvinRow.holds Tryd.pinned (OpenSpec.ofChange hueGalvinSpec)

/-- ITS FALSE NEIGHBOUR: 'it returns false'. Refute it at one input. -/
def hueGalvinWrong : ChangeSpec := { name := "hueGalvin", fn := fun _ => fun
  | [d1, d2, d3] => { results := [.lit (.bool false)], args := [d1, d2, d3] }
  | _ => none }
def HueGalvinWrongFalsely : Prop := hueGalvinRow.holds Tryd.pinned (OpenSpec.ofChange hueGalvinWrong)

/-- 'forcolalaw07.HueChecks': WHATEVER THE INPUT: true; the input reads as it did. -/
def hueChecksSpec : ChangeSpec := { name := "hueChecks", fn := fun _ => fun
  | [d1, d2, d3] => { results := [.lit (.bool true)], args := [d1, d2, d3] }
  | _ => none }
def hueChecksRow : OpenClaim := { program := "ytpknnjcbcndbbaadoor", sum := "c8b86eb9f9816aa065f33fed39fb005d12dc8be1568028b363ca954a4c9408a3", func := "forcola/forcolalaw07.HueChecks", spec := "hueChecks", unfollowed := true, recurses := true, named := ["math/bits.deBruijn64tab", "math/bits.deBruijn32tab"], plainKeys := false, apart := false, laid := [("math/bits.deBruijn32tab", laid_math_bits_deBruijn32tab), ("math/bits.deBruijn64tab", laid_math_bits_deBruijn64tab)] }
def HueChecksSaid : Prop := hueChecksRow.holds Tryd.pinned (OpenSpec.ofChange hueChecksSpec)

/-- ITS FALSE NEIGHBOUR: 'it returns false'. Refute it at one input. -/
def hueChecksWrong : ChangeSpec := { name := "hueChecks", fn := fun _ => fun
  | [d1, d2, d3] => { results := [.lit (.bool false)], args := [d1, d2, d3] }
  | _ => none }
def HueChecksWrongFalsely : Prop := hueChecksRow.holds Tryd.pinned (OpenSpec.ofChange hueChecksWrong)

/- THE SECOND FORM. 'bulk': how many values and letters a reading holds, each counted each time it is reached (what is shared counts as often as it is met; a slice's spare places count too). A statement '..UptoSaid' is the law's where the arguments, and the package variables that the reading takes, are together of bulk at most 1048576: NARROWER than '..Said'. Prove '..Said' where nothing that the law and all that it calls make is longer than what came in: it says more and counts as full. Else prove '..UptoSaid'. A law counts once. -/
mutual
def uptoBulk {H : Type} : DataW H → Nat
  | .lit (.string bytes) => bytes.length + 1
  | .lit _ => 1
  | .nil => 1
  | .ptr d => uptoBulk d + 1
  | .slice elems spare => uptoBulkAll elems + uptoBulkAll spare + 1
  | .agg parts => uptoBulkAll parts + 1
  | .iface _ d => uptoBulk d + 1
  | .map entries => uptoBulkEntries entries + 1
  | .held _ => 1
def uptoBulkAll {H : Type} : List (DataW H) → Nat
  | [] => 0
  | d :: r => uptoBulk d + uptoBulkAll r
def uptoBulkEntries {H : Type} : List (Lit × DataW H) → Nat
  | [] => 0
  | x :: r => uptoBulkEntry x + uptoBulkEntries r
def uptoBulkEntry {H : Type} : Lit × DataW H → Nat
  | (.string bytes, d) => bytes.length + uptoBulk d + 1
  | (_, d) => uptoBulk d + 1
 end
def uptoSmall : (H : Type) → List (DataW H) → Bool := fun _ ds => decide (uptoBulkAll ds ≤ 1048576)
def OpenSpec.upto (s : _root_.Go.ChangeSpec) : _root_.Go.OpenSpec := { _root_.Go.OpenSpec.ofChange s with cond := some uptoSmall }

/-- 'forcolalaw07.HueFewest', WHERE WHAT IT READS IS OF BULK AT MOST 1048576: true; the input reads as it did. -/
def hueFewestUptoRow : OpenClaim := { program := "ytpknnjcbcndbbaadoor", sum := "c8b86eb9f9816aa065f33fed39fb005d12dc8be1568028b363ca954a4c9408a3", func := "forcola/forcolalaw07.HueFewest", spec := "hueFewest", unfollowed := true, recurses := true, named := ["math/bits.deBruijn64tab", "math/bits.deBruijn32tab"], plainKeys := false, apart := false, laid := [("math/bits.deBruijn32tab", laid_math_bits_deBruijn32tab), ("math/bits.deBruijn64tab", laid_math_bits_deBruijn64tab)], narrowed := true }
def HueFewestUptoSaid : Prop := hueFewestUptoRow.holds Tryd.pinned (OpenSpec.upto hueFewestSpec)

/-- 'forcolalaw07.HueOrders', WHERE WHAT IT READS IS OF BULK AT MOST 1048576: true; the input reads as it did. -/
def hueOrdersUptoRow : OpenClaim := { program := "ytpknnjcbcndbbaadoor", sum := "c8b86eb9f9816aa065f33fed39fb005d12dc8be1568028b363ca954a4c9408a3", func := "forcola/forcolalaw07.HueOrders", spec := "hueOrders", unfollowed := true, recurses := true, named := ["math/bits.deBruijn64tab", "math/bits.deBruijn32tab"], plainKeys := false, apart := false, laid := [("math/bits.deBruijn32tab", laid_math_bits_deBruijn32tab), ("math/bits.deBruijn64tab", laid_math_bits_deBruijn64tab)], narrowed := true }
def HueOrdersUptoSaid : Prop := hueOrdersUptoRow.holds Tryd.pinned (OpenSpec.upto hueOrdersSpec)

/-- 'forcolalaw07.HueVizing', WHERE WHAT IT READS IS OF BULK AT MOST 1048576: true; the input reads as it did. -/
def hueVizingUptoRow : OpenClaim := { program := "ytpknnjcbcndbbaadoor", sum := "c8b86eb9f9816aa065f33fed39fb005d12dc8be1568028b363ca954a4c9408a3", func := "forcola/forcolalaw07.HueVizing", spec := "hueVizing", unfollowed := true, recurses := true, named := ["math/bits.deBruijn32tab", "math/bits.deBruijn64tab"], plainKeys := false, apart := false, laid := [("math/bits.deBruijn32tab", laid_math_bits_deBruijn32tab), ("math/bits.deBruijn64tab", laid_math_bits_deBruijn64tab)], narrowed := true }
def HueVizingUptoSaid : Prop := hueVizingUptoRow.holds Tryd.pinned (OpenSpec.upto hueVizingSpec)

/-- 'forcolalaw07.HueSided', WHERE WHAT IT READS IS OF BULK AT MOST 1048576: true; the input reads as it did. -/
def hueSidedUptoRow : OpenClaim := { program := "ytpknnjcbcndbbaadoor", sum := "c8b86eb9f9816aa065f33fed39fb005d12dc8be1568028b363ca954a4c9408a3", func := "forcola/forcolalaw07.HueSided", spec := "hueSided", unfollowed := true, recurses := true, named := ["math/bits.deBruijn32tab", "math/bits.deBruijn64tab"], plainKeys := false, apart := false, laid := [("math/bits.deBruijn32tab", laid_math_bits_deBruijn32tab), ("math/bits.deBruijn64tab", laid_math_bits_deBruijn64tab)], narrowed := true }
def HueSidedUptoSaid : Prop := hueSidedUptoRow.holds Tryd.pinned (OpenSpec.upto hueSidedSpec)

/-- 'forcolalaw07.HueSides', WHERE WHAT IT READS IS OF BULK AT MOST 1048576: true; the input reads as it did. -/
def hueSidesUptoRow : OpenClaim := { program := "ytpknnjcbcndbbaadoor", sum := "c8b86eb9f9816aa065f33fed39fb005d12dc8be1568028b363ca954a4c9408a3", func := "forcola/forcolalaw07.HueSides", spec := "hueSides", unfollowed := true, recurses := true, named := ["math/bits.deBruijn32tab", "math/bits.deBruijn64tab"], plainKeys := false, apart := false, laid := [("math/bits.deBruijn32tab", laid_math_bits_deBruijn32tab), ("math/bits.deBruijn64tab", laid_math_bits_deBruijn64tab)], narrowed := true }
def HueSidesUptoSaid : Prop := hueSidesUptoRow.holds Tryd.pinned (OpenSpec.upto hueSidesSpec)

/-- 'forcolalaw07.HueLists', WHERE WHAT IT READS IS OF BULK AT MOST 1048576: true; the input reads as it did. -/
def hueListsUptoRow : OpenClaim := { program := "ytpknnjcbcndbbaadoor", sum := "c8b86eb9f9816aa065f33fed39fb005d12dc8be1568028b363ca954a4c9408a3", func := "forcola/forcolalaw07.HueLists", spec := "hueLists", unfollowed := true, recurses := true, named := ["math/bits.deBruijn64tab", "math/bits.deBruijn32tab"], plainKeys := false, apart := false, laid := [("math/bits.deBruijn32tab", laid_math_bits_deBruijn32tab), ("math/bits.deBruijn64tab", laid_math_bits_deBruijn64tab)], narrowed := true }
def HueListsUptoSaid : Prop := hueListsUptoRow.holds Tryd.pinned (OpenSpec.upto hueListsSpec)

/-- 'forcolalaw07.HueColours', WHERE WHAT IT READS IS OF BULK AT MOST 1048576: true; the input reads as it did. -/
def hueColoursUptoRow : OpenClaim := { program := "ytpknnjcbcndbbaadoor", sum := "c8b86eb9f9816aa065f33fed39fb005d12dc8be1568028b363ca954a4c9408a3", func := "forcola/forcolalaw07.HueColours", spec := "hueColours", unfollowed := true, recurses := true, named := ["math/bits.deBruijn64tab", "math/bits.deBruijn32tab"], plainKeys := false, apart := false, laid := [("math/bits.deBruijn32tab", laid_math_bits_deBruijn32tab), ("math/bits.deBruijn64tab", laid_math_bits_deBruijn64tab)], narrowed := true }
def HueColoursUptoSaid : Prop := hueColoursUptoRow.holds Tryd.pinned (OpenSpec.upto hueColoursSpec)

/-- 'forcolalaw07.HueLoose', WHERE WHAT IT READS IS OF BULK AT MOST 1048576: true; the input reads as it did. -/
def hueLooseUptoRow : OpenClaim := { program := "ytpknnjcbcndbbaadoor", sum := "c8b86eb9f9816aa065f33fed39fb005d12dc8be1568028b363ca954a4c9408a3", func := "forcola/forcolalaw07.HueLoose", spec := "hueLoose", unfollowed := true, recurses := true, named := ["math/bits.deBruijn64tab", "math/bits.deBruijn32tab"], plainKeys := false, apart := false, laid := [("math/bits.deBruijn32tab", laid_math_bits_deBruijn32tab), ("math/bits.deBruijn64tab", laid_math_bits_deBruijn64tab)], narrowed := true }
def HueLooseUptoSaid : Prop := hueLooseUptoRow.holds Tryd.pinned (OpenSpec.upto hueLooseSpec)

/-- 'forcolalaw07.HueKonig', WHERE WHAT IT READS IS OF BULK AT MOST 1048576: true; the input reads as it did. -/
def hueKonigUptoRow : OpenClaim := { program := "ytpknnjcbcndbbaadoor", sum := "c8b86eb9f9816aa065f33fed39fb005d12dc8be1568028b363ca954a4c9408a3", func := "forcola/forcolalaw07.HueKonig", spec := "hueKonig", unfollowed := true, recurses := true, named := ["math/bits.deBruijn64tab", "math/bits.deBruijn32tab"], plainKeys := false, apart := false, laid := [("math/bits.deBruijn32tab", laid_math_bits_deBruijn32tab), ("math/bits.deBruijn64tab", laid_math_bits_deBruijn64tab)], narrowed := true }
def HueKonigUptoSaid : Prop := hueKonigUptoRow.holds Tryd.pinned (OpenSpec.upto hueKonigSpec)

/-- 'forcolalaw07.HueGalvin', WHERE WHAT IT READS IS OF BULK AT MOST 1048576: true; the input reads as it did. -/
def hueGalvinUptoRow : OpenClaim := { program := "ytpknnjcbcndbbaadoor", sum := "c8b86eb9f9816aa065f33fed39fb005d12dc8be1568028b363ca954a4c9408a3", func := "forcola/forcolalaw07.HueGalvin", spec := "hueGalvin", unfollowed := true, recurses := true, named := ["math/bits.deBruijn32tab", "math/bits.deBruijn64tab"], plainKeys := false, apart := false, laid := [("math/bits.deBruijn32tab", laid_math_bits_deBruijn32tab), ("math/bits.deBruijn64tab", laid_math_bits_deBruijn64tab)], narrowed := true }
def HueGalvinUptoSaid : Prop := hueGalvinUptoRow.holds Tryd.pinned (OpenSpec.upto hueGalvinSpec)

/-- 'forcolalaw07.HueChecks', WHERE WHAT IT READS IS OF BULK AT MOST 1048576: true; the input reads as it did. -/
def hueChecksUptoRow : OpenClaim := { program := "ytpknnjcbcndbbaadoor", sum := "c8b86eb9f9816aa065f33fed39fb005d12dc8be1568028b363ca954a4c9408a3", func := "forcola/forcolalaw07.HueChecks", spec := "hueChecks", unfollowed := true, recurses := true, named := ["math/bits.deBruijn64tab", "math/bits.deBruijn32tab"], plainKeys := false, apart := false, laid := [("math/bits.deBruijn32tab", laid_math_bits_deBruijn32tab), ("math/bits.deBruijn64tab", laid_math_bits_deBruijn64tab)], narrowed := true }
def HueChecksUptoSaid : Prop := hueChecksUptoRow.holds Tryd.pinned (OpenSpec.upto hueChecksSpec)

end Rows
end Go.Proofs.YtpknnjcbcndbbaaDoor
