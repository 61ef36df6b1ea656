/-
  No cell of these rows narrows 'for every input' (looked for: loops, veiled, ifaces, maps, wideKeys, modest, calm, conditions, laid).
  DERIVED. THE GIVEN ROWS OF THIS SEAT. 7 by the template 'for every input the law returns true; each argument reads behind the call as it read before'; 0 by the template 'total and deterministic' (their statements: YtfbobojpocnfeaaTotals.lean).
  GIVEN WITH THE SEED: the statements are not yours to turn. If you find one false, say at which input.
  Laid BY PROGRAM, IN A SANDBOX (cutbox-rows.mjs): the forced cells as the released guide's own fill.sh prints them over the translation 9a6c8ddd2d22fbfb… (all of the seat's roots in one cut). By AI agents, Wed Nov 11 2026. No macro, syntax, notation, axiom, sorry.
-/
import Derived.Test.YtfbobojpocnfeaaChecked
import GoSem.Claim
import GoSem.ClaimJoined
import GoSem.ClaimMapViews
import Derived.JoinedTies
import Derived.KernelRfl
namespace Go.Proofs.Ytfbobojpocnfeaa
/- THE CELL 'sum', in the pinned program and in every row, IS THE sha256 OF THE DUMP (.gsa) THAT YtfbobojpocnfeaaProg.lean LOADS. Nothing in Lean hashes anything: it is a label: what it is worth is what the hold of that sum in a sandbox is worth. -/
noncomputable def Try.pinned : Pinned := { name := "ytfbobojpocnfeaa", sum := "9a6c8ddd2d22fbfb2c3917537719dfa1f97b24c6df64da6a96431a6433af57fb", checked := Try.checked }
namespace Rows
def none {H : Type} : Left H := { results := [], args := [] }

/-- 'forcolalaw08.FerryPlans': WHATEVER THE INPUT: true; the input reads as it did. -/
def ferryPlansSpec : ChangeSpec := { name := "ferryPlans", fn := fun _ => fun
  | [d1, d2, d3] => { results := [.lit (.bool true)], args := [d1, d2, d3] }
  | _ => none }
def ferryPlansRow : OpenClaim := { program := "ytfbobojpocnfeaa", sum := "9a6c8ddd2d22fbfb2c3917537719dfa1f97b24c6df64da6a96431a6433af57fb", func := "forcola/forcolalaw08.FerryPlans", spec := "ferryPlans", unfollowed := true, recurses := true, plainKeys := false, apart := false }
def FerryPlansSaid : Prop := ferryPlansRow.holds Try.pinned (OpenSpec.ofChange ferryPlansSpec)

/-- ITS FALSE NEIGHBOUR: 'it returns false'. Refute it at one input. -/
def ferryPlansWrong : ChangeSpec := { name := "ferryPlans", fn := fun _ => fun
  | [d1, d2, d3] => { results := [.lit (.bool false)], args := [d1, d2, d3] }
  | _ => none }
def FerryPlansWrongFalsely : Prop := ferryPlansRow.holds Try.pinned (OpenSpec.ofChange ferryPlansWrong)

/-- 'forcolalaw08.FerryJudges': WHATEVER THE INPUT: true; the input reads as it did. -/
def ferryJudgesSpec : ChangeSpec := { name := "ferryJudges", fn := fun _ => fun
  | [d1, d2, d3] => { results := [.lit (.bool true)], args := [d1, d2, d3] }
  | _ => none }
def ferryJudgesRow : OpenClaim := { program := "ytfbobojpocnfeaa", sum := "9a6c8ddd2d22fbfb2c3917537719dfa1f97b24c6df64da6a96431a6433af57fb", func := "forcola/forcolalaw08.FerryJudges", spec := "ferryJudges", unfollowed := true, recurses := true, plainKeys := false, apart := false }
def FerryJudgesSaid : Prop := ferryJudgesRow.holds Try.pinned (OpenSpec.ofChange ferryJudgesSpec)

/-- ITS FALSE NEIGHBOUR: 'it returns false'. Refute it at one input. -/
def ferryJudgesWrong : ChangeSpec := { name := "ferryJudges", fn := fun _ => fun
  | [d1, d2, d3] => { results := [.lit (.bool false)], args := [d1, d2, d3] }
  | _ => none }
def FerryJudgesWrongFalsely : Prop := ferryJudgesRow.holds Try.pinned (OpenSpec.ofChange ferryJudgesWrong)

/-- 'forcolalaw08.FerryStructures': WHATEVER THE INPUT: true; the input reads as it did. -/
def ferryStructuresSpec : ChangeSpec := { name := "ferryStructures", fn := fun _ => fun
  | [d1, d2, d3] => { results := [.lit (.bool true)], args := [d1, d2, d3] }
  | _ => none }
def ferryStructuresRow : OpenClaim := { program := "ytfbobojpocnfeaa", sum := "9a6c8ddd2d22fbfb2c3917537719dfa1f97b24c6df64da6a96431a6433af57fb", func := "forcola/forcolalaw08.FerryStructures", spec := "ferryStructures", unfollowed := true, recurses := true, plainKeys := false, apart := false }
def FerryStructuresSaid : Prop := ferryStructuresRow.holds Try.pinned (OpenSpec.ofChange ferryStructuresSpec)

/-- ITS FALSE NEIGHBOUR: 'it returns false'. Refute it at one input. -/
def ferryStructuresWrong : ChangeSpec := { name := "ferryStructures", fn := fun _ => fun
  | [d1, d2, d3] => { results := [.lit (.bool false)], args := [d1, d2, d3] }
  | _ => none }
def FerryStructuresWrongFalsely : Prop := ferryStructuresRow.holds Try.pinned (OpenSpec.ofChange ferryStructuresWrong)

/-- 'forcolalaw08.FerryFives': WHATEVER THE INPUT: true; the input reads as it did. -/
def ferryFivesSpec : ChangeSpec := { name := "ferryFives", fn := fun _ => fun
  | [d1, d2, d3] => { results := [.lit (.bool true)], args := [d1, d2, d3] }
  | _ => none }
def ferryFivesRow : OpenClaim := { program := "ytfbobojpocnfeaa", sum := "9a6c8ddd2d22fbfb2c3917537719dfa1f97b24c6df64da6a96431a6433af57fb", func := "forcola/forcolalaw08.FerryFives", spec := "ferryFives", unfollowed := true, recurses := true, plainKeys := false, apart := false }
def FerryFivesSaid : Prop := ferryFivesRow.holds Try.pinned (OpenSpec.ofChange ferryFivesSpec)

/-- ITS FALSE NEIGHBOUR: 'it returns false'. Refute it at one input. -/
def ferryFivesWrong : ChangeSpec := { name := "ferryFives", fn := fun _ => fun
  | [d1, d2, d3] => { results := [.lit (.bool false)], args := [d1, d2, d3] }
  | _ => none }
def FerryFivesWrongFalsely : Prop := ferryFivesRow.holds Try.pinned (OpenSpec.ofChange ferryFivesWrong)

/-- 'forcolalaw08.FerryAlcuin': WHATEVER THE INPUT: true; the input reads as it did. -/
def ferryAlcuinSpec : ChangeSpec := { name := "ferryAlcuin", fn := fun _ => fun
  | [d1, d2, d3] => { results := [.lit (.bool true)], args := [d1, d2, d3] }
  | _ => none }
def ferryAlcuinRow : OpenClaim := { program := "ytfbobojpocnfeaa", sum := "9a6c8ddd2d22fbfb2c3917537719dfa1f97b24c6df64da6a96431a6433af57fb", func := "forcola/forcolalaw08.FerryAlcuin", spec := "ferryAlcuin", unfollowed := true, recurses := true, plainKeys := false, apart := false }
def FerryAlcuinSaid : Prop := ferryAlcuinRow.holds Try.pinned (OpenSpec.ofChange ferryAlcuinSpec)

/-- ITS FALSE NEIGHBOUR: 'it returns false'. Refute it at one input. -/
def ferryAlcuinWrong : ChangeSpec := { name := "ferryAlcuin", fn := fun _ => fun
  | [d1, d2, d3] => { results := [.lit (.bool false)], args := [d1, d2, d3] }
  | _ => none }
def FerryAlcuinWrongFalsely : Prop := ferryAlcuinRow.holds Try.pinned (OpenSpec.ofChange ferryAlcuinWrong)

/-- 'forcolalaw08.FerryCovers': WHATEVER THE INPUT: true; the input reads as it did. -/
def ferryCoversSpec : ChangeSpec := { name := "ferryCovers", fn := fun _ => fun
  | [d1, d2, d3] => { results := [.lit (.bool true)], args := [d1, d2, d3] }
  | _ => none }
def ferryCoversRow : OpenClaim := { program := "ytfbobojpocnfeaa", sum := "9a6c8ddd2d22fbfb2c3917537719dfa1f97b24c6df64da6a96431a6433af57fb", func := "forcola/forcolalaw08.FerryCovers", spec := "ferryCovers", unfollowed := true, recurses := true, plainKeys := false, apart := false }
def FerryCoversSaid : Prop := ferryCoversRow.holds Try.pinned (OpenSpec.ofChange ferryCoversSpec)

/-- ITS FALSE NEIGHBOUR: 'it returns false'. Refute it at one input. -/
def ferryCoversWrong : ChangeSpec := { name := "ferryCovers", fn := fun _ => fun
  | [d1, d2, d3] => { results := [.lit (.bool false)], args := [d1, d2, d3] }
  | _ => none }
def FerryCoversWrongFalsely : Prop := ferryCoversRow.holds Try.pinned (OpenSpec.ofChange ferryCoversWrong)

/-- 'forcolalaw08.FerryChecks': WHATEVER THE INPUT: true; the input reads as it did. -/
def ferryChecksSpec : ChangeSpec := { name := "ferryChecks", fn := fun _ => fun
  | [d1, d2, d3] => { results := [.lit (.bool true)], args := [d1, d2, d3] }
  | _ => none }
def ferryChecksRow : OpenClaim := { program := "ytfbobojpocnfeaa", sum := "9a6c8ddd2d22fbfb2c3917537719dfa1f97b24c6df64da6a96431a6433af57fb", func := "forcola/forcolalaw08.FerryChecks", spec := "ferryChecks", unfollowed := true, recurses := true, plainKeys := false, apart := false }
def FerryChecksSaid : Prop := ferryChecksRow.holds Try.pinned (OpenSpec.ofChange ferryChecksSpec)

/-- ITS FALSE NEIGHBOUR: 'it returns false'. Refute it at one input. -/
def ferryChecksWrong : ChangeSpec := { name := "ferryChecks", fn := fun _ => fun
  | [d1, d2, d3] => { results := [.lit (.bool false)], args := [d1, d2, d3] }
  | _ => none }
def FerryChecksWrongFalsely : Prop := ferryChecksRow.holds Try.pinned (OpenSpec.ofChange ferryChecksWrong)

/- THE SECOND FORM. 'bulk': how many values and letters a reading holds, each counted each time it is reached (what is shared counts as often as it is met; a slice's spare places count too). A statement '..UptoSaid' is the law's where the arguments, and the package variables that the reading takes, are together of bulk at most 1048576: NARROWER than '..Said'. Prove '..Said' where nothing that the law and all that it calls make is longer than what came in: it says more and counts as full. Else prove '..UptoSaid'. A law counts once. -/
mutual
def uptoBulk {H : Type} : DataW H → Nat
  | .lit (.string bytes) => bytes.length + 1
  | .lit _ => 1
  | .nil => 1
  | .ptr d => uptoBulk d + 1
  | .slice elems spare => uptoBulkAll elems + uptoBulkAll spare + 1
  | .agg parts => uptoBulkAll parts + 1
  | .iface _ d => uptoBulk d + 1
  | .map entries => uptoBulkEntries entries + 1
  | .held _ => 1
def uptoBulkAll {H : Type} : List (DataW H) → Nat
  | [] => 0
  | d :: r => uptoBulk d + uptoBulkAll r
def uptoBulkEntries {H : Type} : List (Lit × DataW H) → Nat
  | [] => 0
  | x :: r => uptoBulkEntry x + uptoBulkEntries r
def uptoBulkEntry {H : Type} : Lit × DataW H → Nat
  | (.string bytes, d) => bytes.length + uptoBulk d + 1
  | (_, d) => uptoBulk d + 1
 end
def uptoSmall : (H : Type) → List (DataW H) → Bool := fun _ ds => decide (uptoBulkAll ds ≤ 1048576)
def OpenSpec.upto (s : _root_.Go.ChangeSpec) : _root_.Go.OpenSpec := { _root_.Go.OpenSpec.ofChange s with cond := some uptoSmall }

/-- 'forcolalaw08.FerryPlans', WHERE WHAT IT READS IS OF BULK AT MOST 1048576: true; the input reads as it did. -/
def ferryPlansUptoRow : OpenClaim := { program := "ytfbobojpocnfeaa", sum := "9a6c8ddd2d22fbfb2c3917537719dfa1f97b24c6df64da6a96431a6433af57fb", func := "forcola/forcolalaw08.FerryPlans", spec := "ferryPlans", unfollowed := true, recurses := true, plainKeys := false, apart := false, narrowed := true }
def FerryPlansUptoSaid : Prop := ferryPlansUptoRow.holds Try.pinned (OpenSpec.upto ferryPlansSpec)

/-- 'forcolalaw08.FerryJudges', WHERE WHAT IT READS IS OF BULK AT MOST 1048576: true; the input reads as it did. -/
def ferryJudgesUptoRow : OpenClaim := { program := "ytfbobojpocnfeaa", sum := "9a6c8ddd2d22fbfb2c3917537719dfa1f97b24c6df64da6a96431a6433af57fb", func := "forcola/forcolalaw08.FerryJudges", spec := "ferryJudges", unfollowed := true, recurses := true, plainKeys := false, apart := false, narrowed := true }
def FerryJudgesUptoSaid : Prop := ferryJudgesUptoRow.holds Try.pinned (OpenSpec.upto ferryJudgesSpec)

/-- 'forcolalaw08.FerryStructures', WHERE WHAT IT READS IS OF BULK AT MOST 1048576: true; the input reads as it did. -/
def ferryStructuresUptoRow : OpenClaim := { program := "ytfbobojpocnfeaa", sum := "9a6c8ddd2d22fbfb2c3917537719dfa1f97b24c6df64da6a96431a6433af57fb", func := "forcola/forcolalaw08.FerryStructures", spec := "ferryStructures", unfollowed := true, recurses := true, plainKeys := false, apart := false, narrowed := true }
def FerryStructuresUptoSaid : Prop := ferryStructuresUptoRow.holds Try.pinned (OpenSpec.upto ferryStructuresSpec)

/-- 'forcolalaw08.FerryFives', WHERE WHAT IT READS IS OF BULK AT MOST 1048576: true; the input reads as it did. -/
def ferryFivesUptoRow : OpenClaim := { program := "ytfbobojpocnfeaa", sum := "9a6c8ddd2d22fbfb2c3917537719dfa1f97b24c6df64da6a96431a6433af57fb", func := "forcola/forcolalaw08.FerryFives", spec := "ferryFives", unfollowed := true, recurses := true, plainKeys := false, apart := false, narrowed := true }
def FerryFivesUptoSaid : Prop := ferryFivesUptoRow.holds Try.pinned (OpenSpec.upto ferryFivesSpec)

/-- 'forcolalaw08.FerryAlcuin', WHERE WHAT IT READS IS OF BULK AT MOST 1048576: true; the input reads as it did. -/
def ferryAlcuinUptoRow : OpenClaim := { program := "ytfbobojpocnfeaa", sum := "9a6c8ddd2d22fbfb2c3917537719dfa1f97b24c6df64da6a96431a6433af57fb", func := "forcola/forcolalaw08.FerryAlcuin", spec := "ferryAlcuin", unfollowed := true, recurses := true, plainKeys := false, apart := false, narrowed := true }
def FerryAlcuinUptoSaid : Prop := ferryAlcuinUptoRow.holds Try.pinned (OpenSpec.upto ferryAlcuinSpec)

/-- 'forcolalaw08.FerryCovers', WHERE WHAT IT READS IS OF BULK AT MOST 1048576: true; the input reads as it did. -/
def ferryCoversUptoRow : OpenClaim := { program := "ytfbobojpocnfeaa", sum := "9a6c8ddd2d22fbfb2c3917537719dfa1f97b24c6df64da6a96431a6433af57fb", func := "forcola/forcolalaw08.FerryCovers", spec := "ferryCovers", unfollowed := true, recurses := true, plainKeys := false, apart := false, narrowed := true }
def FerryCoversUptoSaid : Prop := ferryCoversUptoRow.holds Try.pinned (OpenSpec.upto ferryCoversSpec)

/-- 'forcolalaw08.FerryChecks', WHERE WHAT IT READS IS OF BULK AT MOST 1048576: true; the input reads as it did. -/
def ferryChecksUptoRow : OpenClaim := { program := "ytfbobojpocnfeaa", sum := "9a6c8ddd2d22fbfb2c3917537719dfa1f97b24c6df64da6a96431a6433af57fb", func := "forcola/forcolalaw08.FerryChecks", spec := "ferryChecks", unfollowed := true, recurses := true, plainKeys := false, apart := false, narrowed := true }
def FerryChecksUptoSaid : Prop := ferryChecksUptoRow.holds Try.pinned (OpenSpec.upto ferryChecksSpec)

end Rows
end Go.Proofs.Ytfbobojpocnfeaa
