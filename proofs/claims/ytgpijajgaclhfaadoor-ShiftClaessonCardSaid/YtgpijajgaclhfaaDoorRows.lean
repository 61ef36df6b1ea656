/-
  NARROWER THAN 'FOR EVERY INPUT', by the rows' own cells (each row's printed sentence says how): ShiftFrom: laid · ShiftPeaks: laid · ShiftIntervals: laid · ShiftFishburn: laid · ShiftClaesson: laid · ShiftAscents: laid · ShiftJudges: laid · ShiftPositions: laid · ShiftScott: laid · ShiftChecks: laid.
  DERIVED. THE GIVEN ROWS OF THIS SEAT. 10 by the template 'for every input the law returns true; each argument reads behind the call as it read before'; 0 by the template 'total and deterministic' (their statements: YtgpijajgaclhfaaDoorTotals.lean).
  GIVEN WITH THE SEED: the statements are not yours to turn. If you find one false, say at which input.
  Laid BY PROGRAM, IN A SANDBOX (cutbox-rows.mjs): the forced cells as the released guide's own fill.sh prints them over the translation 6511dbe90b16ad2e… (all of the seat's roots in one cut). By AI agents, Wed Nov 11 2026. No macro, syntax, notation, axiom, sorry.
-/
import Derived.Test.YtgpijajgaclhfaaDoorChecked
import GoSem.Claim
import GoSem.ClaimJoined
import GoSem.ClaimMapViews
import Derived.JoinedTies
import Derived.KernelRfl
namespace Go.Proofs.YtgpijajgaclhfaaDoor
/- THE CELL 'sum', in the pinned program and in every row, IS THE sha256 OF THE DUMP (.gsa) THAT YtgpijajgaclhfaaDoorProg.lean LOADS. Nothing in Lean hashes anything: it is a label: what it is worth is what the hold of that sum in a sandbox is worth. -/
noncomputable def Tryd.pinned : Pinned := { name := "ytgpijajgaclhfaadoor", sum := "6511dbe90b16ad2e3816f0abdfb88bc913874317d49123fc64d3abbd7b19841a", checked := Tryd.checked }
namespace Rows
def none {H : Type} : Left H := { results := [], args := [] }

/- WHAT THE LISTED PACKAGE-LEVEL VARIABLES READ AS WHEN THE CALL BEGINS. Each datum BY PROGRAM (the guide's laid-datum.mjs) off the statement by which the dump's own 'gosem.cut.vars' lays the variable. In a bare row this is a premise. The card (YtgpijajgaclhfaaDoorCards.lean) ties it to the program's text. -/
def laid_math_bits_deBruijn32tab {H : Type} : DataW H := .agg [.lit (.int .u8 0), .lit (.int .u8 1), .lit (.int .u8 28), .lit (.int .u8 2), .lit (.int .u8 29), .lit (.int .u8 14), .lit (.int .u8 24), .lit (.int .u8 3), .lit (.int .u8 30), .lit (.int .u8 22), .lit (.int .u8 20), .lit (.int .u8 15), .lit (.int .u8 25), .lit (.int .u8 17), .lit (.int .u8 4), .lit (.int .u8 8), .lit (.int .u8 31), .lit (.int .u8 27), .lit (.int .u8 13), .lit (.int .u8 23), .lit (.int .u8 21), .lit (.int .u8 19), .lit (.int .u8 16), .lit (.int .u8 7), .lit (.int .u8 26), .lit (.int .u8 12), .lit (.int .u8 18), .lit (.int .u8 6), .lit (.int .u8 11), .lit (.int .u8 5), .lit (.int .u8 10), .lit (.int .u8 9)]
def laid_math_bits_deBruijn64tab {H : Type} : DataW H := .agg [.lit (.int .u8 0), .lit (.int .u8 1), .lit (.int .u8 56), .lit (.int .u8 2), .lit (.int .u8 57), .lit (.int .u8 49), .lit (.int .u8 28), .lit (.int .u8 3), .lit (.int .u8 61), .lit (.int .u8 58), .lit (.int .u8 42), .lit (.int .u8 50), .lit (.int .u8 38), .lit (.int .u8 29), .lit (.int .u8 17), .lit (.int .u8 4), .lit (.int .u8 62), .lit (.int .u8 47), .lit (.int .u8 59), .lit (.int .u8 36), .lit (.int .u8 45), .lit (.int .u8 43), .lit (.int .u8 51), .lit (.int .u8 22), .lit (.int .u8 53), .lit (.int .u8 39), .lit (.int .u8 33), .lit (.int .u8 30), .lit (.int .u8 24), .lit (.int .u8 18), .lit (.int .u8 12), .lit (.int .u8 5), .lit (.int .u8 63), .lit (.int .u8 55), .lit (.int .u8 48), .lit (.int .u8 27), .lit (.int .u8 60), .lit (.int .u8 41), .lit (.int .u8 37), .lit (.int .u8 16), .lit (.int .u8 46), .lit (.int .u8 35), .lit (.int .u8 44), .lit (.int .u8 21), .lit (.int .u8 52), .lit (.int .u8 32), .lit (.int .u8 23), .lit (.int .u8 11), .lit (.int .u8 54), .lit (.int .u8 26), .lit (.int .u8 40), .lit (.int .u8 15), .lit (.int .u8 34), .lit (.int .u8 20), .lit (.int .u8 31), .lit (.int .u8 10), .lit (.int .u8 25), .lit (.int .u8 14), .lit (.int .u8 19), .lit (.int .u8 9), .lit (.int .u8 13), .lit (.int .u8 8), .lit (.int .u8 7), .lit (.int .u8 6)]

/-- 'forcolalaw10.ShiftFrom': WHATEVER THE INPUT: true; the input reads as it did. -/
def shiftFromSpec : ChangeSpec := { name := "shiftFrom", fn := fun _ => fun
  | [d] => { results := [.lit (.bool true)], args := [d] }
  | _ => none }
def shiftFromRow : OpenClaim := { program := "ytgpijajgaclhfaadoor", sum := "6511dbe90b16ad2e3816f0abdfb88bc913874317d49123fc64d3abbd7b19841a", func := "forcola/forcolalaw10.ShiftFrom", spec := "shiftFrom", unfollowed := true, recurses := true, named := ["math/bits.deBruijn32tab", "math/bits.deBruijn64tab"], plainKeys := false, apart := false, laid := [("math/bits.deBruijn32tab", laid_math_bits_deBruijn32tab), ("math/bits.deBruijn64tab", laid_math_bits_deBruijn64tab)] }
def ShiftFromSaid : Prop := shiftFromRow.holds Tryd.pinned (OpenSpec.ofChange shiftFromSpec)

/-- ITS FALSE NEIGHBOUR: 'it returns false'. Refute it at one input. -/
def shiftFromWrong : ChangeSpec := { name := "shiftFrom", fn := fun _ => fun
  | [d] => { results := [.lit (.bool false)], args := [d] }
  | _ => none }
def ShiftFromWrongFalsely : Prop := shiftFromRow.holds Tryd.pinned (OpenSpec.ofChange shiftFromWrong)

/-- 'forcolalaw10.ShiftPeaks': WHATEVER THE INPUT: true; the input reads as it did. -/
def shiftPeaksSpec : ChangeSpec := { name := "shiftPeaks", fn := fun _ => fun
  | [d] => { results := [.lit (.bool true)], args := [d] }
  | _ => none }
def shiftPeaksRow : OpenClaim := { program := "ytgpijajgaclhfaadoor", sum := "6511dbe90b16ad2e3816f0abdfb88bc913874317d49123fc64d3abbd7b19841a", func := "forcola/forcolalaw10.ShiftPeaks", spec := "shiftPeaks", unfollowed := true, recurses := true, named := ["math/bits.deBruijn32tab", "math/bits.deBruijn64tab"], plainKeys := false, apart := false, laid := [("math/bits.deBruijn32tab", laid_math_bits_deBruijn32tab), ("math/bits.deBruijn64tab", laid_math_bits_deBruijn64tab)] }
def ShiftPeaksSaid : Prop := shiftPeaksRow.holds Tryd.pinned (OpenSpec.ofChange shiftPeaksSpec)

/-- ITS FALSE NEIGHBOUR: 'it returns false'. Refute it at one input. -/
def shiftPeaksWrong : ChangeSpec := { name := "shiftPeaks", fn := fun _ => fun
  | [d] => { results := [.lit (.bool false)], args := [d] }
  | _ => none }
def ShiftPeaksWrongFalsely : Prop := shiftPeaksRow.holds Tryd.pinned (OpenSpec.ofChange shiftPeaksWrong)

/-- 'forcolalaw10.ShiftIntervals': WHATEVER THE INPUT: true; the input reads as it did. -/
def shiftIntervalsSpec : ChangeSpec := { name := "shiftIntervals", fn := fun _ => fun
  | [d] => { results := [.lit (.bool true)], args := [d] }
  | _ => none }
def shiftIntervalsRow : OpenClaim := { program := "ytgpijajgaclhfaadoor", sum := "6511dbe90b16ad2e3816f0abdfb88bc913874317d49123fc64d3abbd7b19841a", func := "forcola/forcolalaw10.ShiftIntervals", spec := "shiftIntervals", unfollowed := true, recurses := true, named := ["math/bits.deBruijn32tab", "math/bits.deBruijn64tab"], plainKeys := false, apart := false, laid := [("math/bits.deBruijn32tab", laid_math_bits_deBruijn32tab), ("math/bits.deBruijn64tab", laid_math_bits_deBruijn64tab)] }
def ShiftIntervalsSaid : Prop := shiftIntervalsRow.holds Tryd.pinned (OpenSpec.ofChange shiftIntervalsSpec)

/-- ITS FALSE NEIGHBOUR: 'it returns false'. Refute it at one input. -/
def shiftIntervalsWrong : ChangeSpec := { name := "shiftIntervals", fn := fun _ => fun
  | [d] => { results := [.lit (.bool false)], args := [d] }
  | _ => none }
def ShiftIntervalsWrongFalsely : Prop := shiftIntervalsRow.holds Tryd.pinned (OpenSpec.ofChange shiftIntervalsWrong)

/-- 'forcolalaw10.ShiftFishburn': WHATEVER THE INPUT: true; the input reads as it did. -/
def shiftFishburnSpec : ChangeSpec := { name := "shiftFishburn", fn := fun _ => fun
  | [d1, d2] => { results := [.lit (.bool true)], args := [d1, d2] }
  | _ => none }
def shiftFishburnRow : OpenClaim := { program := "ytgpijajgaclhfaadoor", sum := "6511dbe90b16ad2e3816f0abdfb88bc913874317d49123fc64d3abbd7b19841a", func := "forcola/forcolalaw10.ShiftFishburn", spec := "shiftFishburn", unfollowed := true, recurses := true, named := ["math/bits.deBruijn32tab", "math/bits.deBruijn64tab"], plainKeys := false, apart := false, laid := [("math/bits.deBruijn32tab", laid_math_bits_deBruijn32tab), ("math/bits.deBruijn64tab", laid_math_bits_deBruijn64tab)] }
def ShiftFishburnSaid : Prop := shiftFishburnRow.holds Tryd.pinned (OpenSpec.ofChange shiftFishburnSpec)

/-- ITS FALSE NEIGHBOUR: 'it returns false'. Refute it at one input. -/
def shiftFishburnWrong : ChangeSpec := { name := "shiftFishburn", fn := fun _ => fun
  | [d1, d2] => { results := [.lit (.bool false)], args := [d1, d2] }
  | _ => none }
def ShiftFishburnWrongFalsely : Prop := shiftFishburnRow.holds Tryd.pinned (OpenSpec.ofChange shiftFishburnWrong)

/-- 'forcolalaw10.ShiftClaesson': WHATEVER THE INPUT: true; the input reads as it did. -/
def shiftClaessonSpec : ChangeSpec := { name := "shiftClaesson", fn := fun _ => fun
  | [d] => { results := [.lit (.bool true)], args := [d] }
  | _ => none }
def shiftClaessonRow : OpenClaim := { program := "ytgpijajgaclhfaadoor", sum := "6511dbe90b16ad2e3816f0abdfb88bc913874317d49123fc64d3abbd7b19841a", func := "forcola/forcolalaw10.ShiftClaesson", spec := "shiftClaesson", unfollowed := true, recurses := true, named := ["math/bits.deBruijn32tab", "math/bits.deBruijn64tab"], plainKeys := false, apart := false, laid := [("math/bits.deBruijn32tab", laid_math_bits_deBruijn32tab), ("math/bits.deBruijn64tab", laid_math_bits_deBruijn64tab)] }
def ShiftClaessonSaid : Prop := shiftClaessonRow.holds Tryd.pinned (OpenSpec.ofChange shiftClaessonSpec)

/-- ITS FALSE NEIGHBOUR: 'it returns false'. Refute it at one input. -/
def shiftClaessonWrong : ChangeSpec := { name := "shiftClaesson", fn := fun _ => fun
  | [d] => { results := [.lit (.bool false)], args := [d] }
  | _ => none }
def ShiftClaessonWrongFalsely : Prop := shiftClaessonRow.holds Tryd.pinned (OpenSpec.ofChange shiftClaessonWrong)

/-- 'forcolalaw10.ShiftAscents': WHATEVER THE INPUT: true; the input reads as it did. -/
def shiftAscentsSpec : ChangeSpec := { name := "shiftAscents", fn := fun _ => fun
  | [d1, d2] => { results := [.lit (.bool true)], args := [d1, d2] }
  | _ => none }
def shiftAscentsRow : OpenClaim := { program := "ytgpijajgaclhfaadoor", sum := "6511dbe90b16ad2e3816f0abdfb88bc913874317d49123fc64d3abbd7b19841a", func := "forcola/forcolalaw10.ShiftAscents", spec := "shiftAscents", unfollowed := true, recurses := true, named := ["math/bits.deBruijn32tab", "math/bits.deBruijn64tab"], plainKeys := false, apart := false, laid := [("math/bits.deBruijn32tab", laid_math_bits_deBruijn32tab), ("math/bits.deBruijn64tab", laid_math_bits_deBruijn64tab)] }
def ShiftAscentsSaid : Prop := shiftAscentsRow.holds Tryd.pinned (OpenSpec.ofChange shiftAscentsSpec)

/-- ITS FALSE NEIGHBOUR: 'it returns false'. Refute it at one input. -/
def shiftAscentsWrong : ChangeSpec := { name := "shiftAscents", fn := fun _ => fun
  | [d1, d2] => { results := [.lit (.bool false)], args := [d1, d2] }
  | _ => none }
def ShiftAscentsWrongFalsely : Prop := shiftAscentsRow.holds Tryd.pinned (OpenSpec.ofChange shiftAscentsWrong)

/-- 'forcolalaw10.ShiftJudges': WHATEVER THE INPUT: true; the input reads as it did. -/
def shiftJudgesSpec : ChangeSpec := { name := "shiftJudges", fn := fun _ => fun
  | [d1, d2, d3] => { results := [.lit (.bool true)], args := [d1, d2, d3] }
  | _ => none }
def shiftJudgesRow : OpenClaim := { program := "ytgpijajgaclhfaadoor", sum := "6511dbe90b16ad2e3816f0abdfb88bc913874317d49123fc64d3abbd7b19841a", func := "forcola/forcolalaw10.ShiftJudges", spec := "shiftJudges", unfollowed := true, recurses := true, named := ["math/bits.deBruijn32tab", "math/bits.deBruijn64tab"], plainKeys := false, apart := false, laid := [("math/bits.deBruijn32tab", laid_math_bits_deBruijn32tab), ("math/bits.deBruijn64tab", laid_math_bits_deBruijn64tab)] }
def ShiftJudgesSaid : Prop := shiftJudgesRow.holds Tryd.pinned (OpenSpec.ofChange shiftJudgesSpec)

/-- ITS FALSE NEIGHBOUR: 'it returns false'. Refute it at one input. -/
def shiftJudgesWrong : ChangeSpec := { name := "shiftJudges", fn := fun _ => fun
  | [d1, d2, d3] => { results := [.lit (.bool false)], args := [d1, d2, d3] }
  | _ => none }
def ShiftJudgesWrongFalsely : Prop := shiftJudgesRow.holds Tryd.pinned (OpenSpec.ofChange shiftJudgesWrong)

/-- 'forcolalaw10.ShiftPositions': WHATEVER THE INPUT: true; the input reads as it did. -/
def shiftPositionsSpec : ChangeSpec := { name := "shiftPositions", fn := fun _ => fun
  | [d] => { results := [.lit (.bool true)], args := [d] }
  | _ => none }
def shiftPositionsRow : OpenClaim := { program := "ytgpijajgaclhfaadoor", sum := "6511dbe90b16ad2e3816f0abdfb88bc913874317d49123fc64d3abbd7b19841a", func := "forcola/forcolalaw10.ShiftPositions", spec := "shiftPositions", unfollowed := true, recurses := true, named := ["math/bits.deBruijn32tab", "math/bits.deBruijn64tab"], plainKeys := false, apart := false, laid := [("math/bits.deBruijn32tab", laid_math_bits_deBruijn32tab), ("math/bits.deBruijn64tab", laid_math_bits_deBruijn64tab)] }
def ShiftPositionsSaid : Prop := shiftPositionsRow.holds Tryd.pinned (OpenSpec.ofChange shiftPositionsSpec)

/-- ITS FALSE NEIGHBOUR: 'it returns false'. Refute it at one input. -/
def shiftPositionsWrong : ChangeSpec := { name := "shiftPositions", fn := fun _ => fun
  | [d] => { results := [.lit (.bool false)], args := [d] }
  | _ => none }
def ShiftPositionsWrongFalsely : Prop := shiftPositionsRow.holds Tryd.pinned (OpenSpec.ofChange shiftPositionsWrong)

/-- 'forcolalaw10.ShiftScott': WHATEVER THE INPUT: true; the input reads as it did. -/
def shiftScottSpec : ChangeSpec := { name := "shiftScott", fn := fun _ => fun
  | [d] => { results := [.lit (.bool true)], args := [d] }
  | _ => none }
def shiftScottRow : OpenClaim := { program := "ytgpijajgaclhfaadoor", sum := "6511dbe90b16ad2e3816f0abdfb88bc913874317d49123fc64d3abbd7b19841a", func := "forcola/forcolalaw10.ShiftScott", spec := "shiftScott", unfollowed := true, recurses := true, named := ["math/bits.deBruijn32tab", "math/bits.deBruijn64tab"], plainKeys := false, apart := false, laid := [("math/bits.deBruijn32tab", laid_math_bits_deBruijn32tab), ("math/bits.deBruijn64tab", laid_math_bits_deBruijn64tab)] }
def ShiftScottSaid : Prop := shiftScottRow.holds Tryd.pinned (OpenSpec.ofChange shiftScottSpec)

/-- ITS FALSE NEIGHBOUR: 'it returns false'. Refute it at one input. -/
def shiftScottWrong : ChangeSpec := { name := "shiftScott", fn := fun _ => fun
  | [d] => { results := [.lit (.bool false)], args := [d] }
  | _ => none }
def ShiftScottWrongFalsely : Prop := shiftScottRow.holds Tryd.pinned (OpenSpec.ofChange shiftScottWrong)

/-- 'forcolalaw10.ShiftChecks': WHATEVER THE INPUT: true; the input reads as it did. -/
def shiftChecksSpec : ChangeSpec := { name := "shiftChecks", fn := fun _ => fun
  | [d] => { results := [.lit (.bool true)], args := [d] }
  | _ => none }
def shiftChecksRow : OpenClaim := { program := "ytgpijajgaclhfaadoor", sum := "6511dbe90b16ad2e3816f0abdfb88bc913874317d49123fc64d3abbd7b19841a", func := "forcola/forcolalaw10.ShiftChecks", spec := "shiftChecks", unfollowed := true, recurses := true, named := ["math/bits.deBruijn32tab", "math/bits.deBruijn64tab"], plainKeys := false, apart := false, laid := [("math/bits.deBruijn32tab", laid_math_bits_deBruijn32tab), ("math/bits.deBruijn64tab", laid_math_bits_deBruijn64tab)] }
def ShiftChecksSaid : Prop := shiftChecksRow.holds Tryd.pinned (OpenSpec.ofChange shiftChecksSpec)

/-- ITS FALSE NEIGHBOUR: 'it returns false'. Refute it at one input. -/
def shiftChecksWrong : ChangeSpec := { name := "shiftChecks", fn := fun _ => fun
  | [d] => { results := [.lit (.bool false)], args := [d] }
  | _ => none }
def ShiftChecksWrongFalsely : Prop := shiftChecksRow.holds Tryd.pinned (OpenSpec.ofChange shiftChecksWrong)

/- THE SECOND FORM. 'bulk': how many values and letters a reading holds, each counted each time it is reached (what is shared counts as often as it is met; a slice's spare places count too). A statement '..UptoSaid' is the law's where the arguments, and the package variables that the reading takes, are together of bulk at most 1048576: NARROWER than '..Said'. Prove '..Said' where nothing that the law and all that it calls make is longer than what came in: it says more and counts as full. Else prove '..UptoSaid'. A law counts once. -/
mutual
def uptoBulk {H : Type} : DataW H → Nat
  | .lit (.string bytes) => bytes.length + 1
  | .lit _ => 1
  | .nil => 1
  | .ptr d => uptoBulk d + 1
  | .slice elems spare => uptoBulkAll elems + uptoBulkAll spare + 1
  | .agg parts => uptoBulkAll parts + 1
  | .iface _ d => uptoBulk d + 1
  | .map entries => uptoBulkEntries entries + 1
  | .held _ => 1
def uptoBulkAll {H : Type} : List (DataW H) → Nat
  | [] => 0
  | d :: r => uptoBulk d + uptoBulkAll r
def uptoBulkEntries {H : Type} : List (Lit × DataW H) → Nat
  | [] => 0
  | x :: r => uptoBulkEntry x + uptoBulkEntries r
def uptoBulkEntry {H : Type} : Lit × DataW H → Nat
  | (.string bytes, d) => bytes.length + uptoBulk d + 1
  | (_, d) => uptoBulk d + 1
 end
def uptoSmall : (H : Type) → List (DataW H) → Bool := fun _ ds => decide (uptoBulkAll ds ≤ 1048576)
def OpenSpec.upto (s : _root_.Go.ChangeSpec) : _root_.Go.OpenSpec := { _root_.Go.OpenSpec.ofChange s with cond := some uptoSmall }

/-- 'forcolalaw10.ShiftFrom', WHERE WHAT IT READS IS OF BULK AT MOST 1048576: true; the input reads as it did. -/
def shiftFromUptoRow : OpenClaim := { program := "ytgpijajgaclhfaadoor", sum := "6511dbe90b16ad2e3816f0abdfb88bc913874317d49123fc64d3abbd7b19841a", func := "forcola/forcolalaw10.ShiftFrom", spec := "shiftFrom", unfollowed := true, recurses := true, named := ["math/bits.deBruijn32tab", "math/bits.deBruijn64tab"], plainKeys := false, apart := false, laid := [("math/bits.deBruijn32tab", laid_math_bits_deBruijn32tab), ("math/bits.deBruijn64tab", laid_math_bits_deBruijn64tab)], narrowed := true }
def ShiftFromUptoSaid : Prop := shiftFromUptoRow.holds Tryd.pinned (OpenSpec.upto shiftFromSpec)

/-- 'forcolalaw10.ShiftPeaks', WHERE WHAT IT READS IS OF BULK AT MOST 1048576: true; the input reads as it did. -/
def shiftPeaksUptoRow : OpenClaim := { program := "ytgpijajgaclhfaadoor", sum := "6511dbe90b16ad2e3816f0abdfb88bc913874317d49123fc64d3abbd7b19841a", func := "forcola/forcolalaw10.ShiftPeaks", spec := "shiftPeaks", unfollowed := true, recurses := true, named := ["math/bits.deBruijn32tab", "math/bits.deBruijn64tab"], plainKeys := false, apart := false, laid := [("math/bits.deBruijn32tab", laid_math_bits_deBruijn32tab), ("math/bits.deBruijn64tab", laid_math_bits_deBruijn64tab)], narrowed := true }
def ShiftPeaksUptoSaid : Prop := shiftPeaksUptoRow.holds Tryd.pinned (OpenSpec.upto shiftPeaksSpec)

/-- 'forcolalaw10.ShiftIntervals', WHERE WHAT IT READS IS OF BULK AT MOST 1048576: true; the input reads as it did. -/
def shiftIntervalsUptoRow : OpenClaim := { program := "ytgpijajgaclhfaadoor", sum := "6511dbe90b16ad2e3816f0abdfb88bc913874317d49123fc64d3abbd7b19841a", func := "forcola/forcolalaw10.ShiftIntervals", spec := "shiftIntervals", unfollowed := true, recurses := true, named := ["math/bits.deBruijn32tab", "math/bits.deBruijn64tab"], plainKeys := false, apart := false, laid := [("math/bits.deBruijn32tab", laid_math_bits_deBruijn32tab), ("math/bits.deBruijn64tab", laid_math_bits_deBruijn64tab)], narrowed := true }
def ShiftIntervalsUptoSaid : Prop := shiftIntervalsUptoRow.holds Tryd.pinned (OpenSpec.upto shiftIntervalsSpec)

/-- 'forcolalaw10.ShiftFishburn', WHERE WHAT IT READS IS OF BULK AT MOST 1048576: true; the input reads as it did. -/
def shiftFishburnUptoRow : OpenClaim := { program := "ytgpijajgaclhfaadoor", sum := "6511dbe90b16ad2e3816f0abdfb88bc913874317d49123fc64d3abbd7b19841a", func := "forcola/forcolalaw10.ShiftFishburn", spec := "shiftFishburn", unfollowed := true, recurses := true, named := ["math/bits.deBruijn32tab", "math/bits.deBruijn64tab"], plainKeys := false, apart := false, laid := [("math/bits.deBruijn32tab", laid_math_bits_deBruijn32tab), ("math/bits.deBruijn64tab", laid_math_bits_deBruijn64tab)], narrowed := true }
def ShiftFishburnUptoSaid : Prop := shiftFishburnUptoRow.holds Tryd.pinned (OpenSpec.upto shiftFishburnSpec)

/-- 'forcolalaw10.ShiftClaesson', WHERE WHAT IT READS IS OF BULK AT MOST 1048576: true; the input reads as it did. -/
def shiftClaessonUptoRow : OpenClaim := { program := "ytgpijajgaclhfaadoor", sum := "6511dbe90b16ad2e3816f0abdfb88bc913874317d49123fc64d3abbd7b19841a", func := "forcola/forcolalaw10.ShiftClaesson", spec := "shiftClaesson", unfollowed := true, recurses := true, named := ["math/bits.deBruijn32tab", "math/bits.deBruijn64tab"], plainKeys := false, apart := false, laid := [("math/bits.deBruijn32tab", laid_math_bits_deBruijn32tab), ("math/bits.deBruijn64tab", laid_math_bits_deBruijn64tab)], narrowed := true }
def ShiftClaessonUptoSaid : Prop := shiftClaessonUptoRow.holds Tryd.pinned (OpenSpec.upto shiftClaessonSpec)

/-- 'forcolalaw10.ShiftAscents', WHERE WHAT IT READS IS OF BULK AT MOST 1048576: true; the input reads as it did. -/
def shiftAscentsUptoRow : OpenClaim := { program := "ytgpijajgaclhfaadoor", sum := "6511dbe90b16ad2e3816f0abdfb88bc913874317d49123fc64d3abbd7b19841a", func := "forcola/forcolalaw10.ShiftAscents", spec := "shiftAscents", unfollowed := true, recurses := true, named := ["math/bits.deBruijn32tab", "math/bits.deBruijn64tab"], plainKeys := false, apart := false, laid := [("math/bits.deBruijn32tab", laid_math_bits_deBruijn32tab), ("math/bits.deBruijn64tab", laid_math_bits_deBruijn64tab)], narrowed := true }
def ShiftAscentsUptoSaid : Prop := shiftAscentsUptoRow.holds Tryd.pinned (OpenSpec.upto shiftAscentsSpec)

/-- 'forcolalaw10.ShiftJudges', WHERE WHAT IT READS IS OF BULK AT MOST 1048576: true; the input reads as it did. -/
def shiftJudgesUptoRow : OpenClaim := { program := "ytgpijajgaclhfaadoor", sum := "6511dbe90b16ad2e3816f0abdfb88bc913874317d49123fc64d3abbd7b19841a", func := "forcola/forcolalaw10.ShiftJudges", spec := "shiftJudges", unfollowed := true, recurses := true, named := ["math/bits.deBruijn32tab", "math/bits.deBruijn64tab"], plainKeys := false, apart := false, laid := [("math/bits.deBruijn32tab", laid_math_bits_deBruijn32tab), ("math/bits.deBruijn64tab", laid_math_bits_deBruijn64tab)], narrowed := true }
def ShiftJudgesUptoSaid : Prop := shiftJudgesUptoRow.holds Tryd.pinned (OpenSpec.upto shiftJudgesSpec)

/-- 'forcolalaw10.ShiftPositions', WHERE WHAT IT READS IS OF BULK AT MOST 1048576: true; the input reads as it did. -/
def shiftPositionsUptoRow : OpenClaim := { program := "ytgpijajgaclhfaadoor", sum := "6511dbe90b16ad2e3816f0abdfb88bc913874317d49123fc64d3abbd7b19841a", func := "forcola/forcolalaw10.ShiftPositions", spec := "shiftPositions", unfollowed := true, recurses := true, named := ["math/bits.deBruijn32tab", "math/bits.deBruijn64tab"], plainKeys := false, apart := false, laid := [("math/bits.deBruijn32tab", laid_math_bits_deBruijn32tab), ("math/bits.deBruijn64tab", laid_math_bits_deBruijn64tab)], narrowed := true }
def ShiftPositionsUptoSaid : Prop := shiftPositionsUptoRow.holds Tryd.pinned (OpenSpec.upto shiftPositionsSpec)

/-- 'forcolalaw10.ShiftScott', WHERE WHAT IT READS IS OF BULK AT MOST 1048576: true; the input reads as it did. -/
def shiftScottUptoRow : OpenClaim := { program := "ytgpijajgaclhfaadoor", sum := "6511dbe90b16ad2e3816f0abdfb88bc913874317d49123fc64d3abbd7b19841a", func := "forcola/forcolalaw10.ShiftScott", spec := "shiftScott", unfollowed := true, recurses := true, named := ["math/bits.deBruijn32tab", "math/bits.deBruijn64tab"], plainKeys := false, apart := false, laid := [("math/bits.deBruijn32tab", laid_math_bits_deBruijn32tab), ("math/bits.deBruijn64tab", laid_math_bits_deBruijn64tab)], narrowed := true }
def ShiftScottUptoSaid : Prop := shiftScottUptoRow.holds Tryd.pinned (OpenSpec.upto shiftScottSpec)

/-- 'forcolalaw10.ShiftChecks', WHERE WHAT IT READS IS OF BULK AT MOST 1048576: true; the input reads as it did. -/
def shiftChecksUptoRow : OpenClaim := { program := "ytgpijajgaclhfaadoor", sum := "6511dbe90b16ad2e3816f0abdfb88bc913874317d49123fc64d3abbd7b19841a", func := "forcola/forcolalaw10.ShiftChecks", spec := "shiftChecks", unfollowed := true, recurses := true, named := ["math/bits.deBruijn32tab", "math/bits.deBruijn64tab"], plainKeys := false, apart := false, laid := [("math/bits.deBruijn32tab", laid_math_bits_deBruijn32tab), ("math/bits.deBruijn64tab", laid_math_bits_deBruijn64tab)], narrowed := true }
def ShiftChecksUptoSaid : Prop := shiftChecksUptoRow.holds Tryd.pinned (OpenSpec.upto shiftChecksSpec)

end Rows
end Go.Proofs.YtgpijajgaclhfaaDoor
