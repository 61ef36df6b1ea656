/-
  No cell of these rows narrows 'for every input' (looked for: loops, veiled, ifaces, maps, wideKeys, modest, calm, conditions, laid).
  DERIVED. THE GIVEN ROWS OF THIS SEAT. 7 by the template 'for every input the law returns true; each argument reads behind the call as it read before'; 0 by the template 'total and deterministic' (their statements: YtocnhikohfkcaaaTotals.lean).
  GIVEN WITH THE SEED: the statements are not yours to turn. If you find one false, say at which input.
  Laid BY PROGRAM, IN A SANDBOX (cutbox-rows.mjs): the forced cells as the released guide's own fill.sh prints them over the translation d1e7b42e89c2bbc9… (all of the seat's roots in one cut). By AI agents, Wed Nov 11 2026. No macro, syntax, notation, axiom, sorry.
-/
import Derived.Test.YtocnhikohfkcaaaChecked
import GoSem.Claim
import GoSem.ClaimJoined
import GoSem.ClaimMapViews
import Derived.JoinedTies
import Derived.KernelRfl
namespace Go.Proofs.Ytocnhikohfkcaaa
/- THE CELL 'sum', in the pinned program and in every row, IS THE sha256 OF THE DUMP (.gsa) THAT YtocnhikohfkcaaaProg.lean LOADS. Nothing in Lean hashes anything: it is a label: what it is worth is what the hold of that sum in a sandbox is worth. -/
noncomputable def Try.pinned : Pinned := { name := "ytocnhikohfkcaaa", sum := "d1e7b42e89c2bbc9bd528a9e7d7907b47fb010765c924471ac6473ca7062cc6d", checked := Try.checked }
namespace Rows
def none {H : Type} : Left H := { results := [], args := [] }

/-- 'forcolalaw09.HeatMakes': WHATEVER THE INPUT: true; the input reads as it did. -/
def heatMakesSpec : ChangeSpec := { name := "heatMakes", fn := fun _ => fun
  | [d] => { results := [.lit (.bool true)], args := [d] }
  | _ => none }
def heatMakesRow : OpenClaim := { program := "ytocnhikohfkcaaa", sum := "d1e7b42e89c2bbc9bd528a9e7d7907b47fb010765c924471ac6473ca7062cc6d", func := "forcola/forcolalaw09.HeatMakes", spec := "heatMakes", inPlace := ["internal/abi.NoEscape"], unfollowed := true, recurses := true, plainKeys := false, apart := false }
def HeatMakesSaid : Prop := heatMakesRow.holds Try.pinned (OpenSpec.ofChange heatMakesSpec)

/-- ITS FALSE NEIGHBOUR: 'it returns false'. Refute it at one input. -/
def heatMakesWrong : ChangeSpec := { name := "heatMakes", fn := fun _ => fun
  | [d] => { results := [.lit (.bool false)], args := [d] }
  | _ => none }
def HeatMakesWrongFalsely : Prop := heatMakesRow.holds Try.pinned (OpenSpec.ofChange heatMakesWrong)

/-- 'forcolalaw09.HeatTriples': WHATEVER THE INPUT: true; the input reads as it did. -/
def heatTriplesSpec : ChangeSpec := { name := "heatTriples", fn := fun _ => fun
  | [d] => { results := [.lit (.bool true)], args := [d] }
  | _ => none }
def heatTriplesRow : OpenClaim := { program := "ytocnhikohfkcaaa", sum := "d1e7b42e89c2bbc9bd528a9e7d7907b47fb010765c924471ac6473ca7062cc6d", func := "forcola/forcolalaw09.HeatTriples", spec := "heatTriples", inPlace := ["internal/abi.NoEscape"], unfollowed := true, recurses := true, plainKeys := false, apart := false }
def HeatTriplesSaid : Prop := heatTriplesRow.holds Try.pinned (OpenSpec.ofChange heatTriplesSpec)

/-- ITS FALSE NEIGHBOUR: 'it returns false'. Refute it at one input. -/
def heatTriplesWrong : ChangeSpec := { name := "heatTriples", fn := fun _ => fun
  | [d] => { results := [.lit (.bool false)], args := [d] }
  | _ => none }
def HeatTriplesWrongFalsely : Prop := heatTriplesRow.holds Try.pinned (OpenSpec.ofChange heatTriplesWrong)

/-- 'forcolalaw09.HeatJudges': WHATEVER THE INPUT: true; the input reads as it did. -/
def heatJudgesSpec : ChangeSpec := { name := "heatJudges", fn := fun _ => fun
  | [d1, d2, d3] => { results := [.lit (.bool true)], args := [d1, d2, d3] }
  | _ => none }
def heatJudgesRow : OpenClaim := { program := "ytocnhikohfkcaaa", sum := "d1e7b42e89c2bbc9bd528a9e7d7907b47fb010765c924471ac6473ca7062cc6d", func := "forcola/forcolalaw09.HeatJudges", spec := "heatJudges", inPlace := ["internal/abi.NoEscape"], unfollowed := true, recurses := true, plainKeys := false, apart := false }
def HeatJudgesSaid : Prop := heatJudgesRow.holds Try.pinned (OpenSpec.ofChange heatJudgesSpec)

/-- ITS FALSE NEIGHBOUR: 'it returns false'. Refute it at one input. -/
def heatJudgesWrong : ChangeSpec := { name := "heatJudges", fn := fun _ => fun
  | [d1, d2, d3] => { results := [.lit (.bool false)], args := [d1, d2, d3] }
  | _ => none }
def HeatJudgesWrongFalsely : Prop := heatJudgesRow.holds Try.pinned (OpenSpec.ofChange heatJudgesWrong)

/-- 'forcolalaw09.HeatKirkman': WHATEVER THE INPUT: true; the input reads as it did. -/
def heatKirkmanSpec : ChangeSpec := { name := "heatKirkman", fn := fun _ => fun
  | [d1, d2] => { results := [.lit (.bool true)], args := [d1, d2] }
  | _ => none }
def heatKirkmanRow : OpenClaim := { program := "ytocnhikohfkcaaa", sum := "d1e7b42e89c2bbc9bd528a9e7d7907b47fb010765c924471ac6473ca7062cc6d", func := "forcola/forcolalaw09.HeatKirkman", spec := "heatKirkman", inPlace := ["internal/abi.NoEscape"], unfollowed := true, recurses := true, plainKeys := false, apart := false }
def HeatKirkmanSaid : Prop := heatKirkmanRow.holds Try.pinned (OpenSpec.ofChange heatKirkmanSpec)

/-- ITS FALSE NEIGHBOUR: 'it returns false'. Refute it at one input. -/
def heatKirkmanWrong : ChangeSpec := { name := "heatKirkman", fn := fun _ => fun
  | [d1, d2] => { results := [.lit (.bool false)], args := [d1, d2] }
  | _ => none }
def HeatKirkmanWrongFalsely : Prop := heatKirkmanRow.holds Try.pinned (OpenSpec.ofChange heatKirkmanWrong)

/-- 'forcolalaw09.HeatWerra': WHATEVER THE INPUT: true; the input reads as it did. -/
def heatWerraSpec : ChangeSpec := { name := "heatWerra", fn := fun _ => fun
  | [d1, d2] => { results := [.lit (.bool true)], args := [d1, d2] }
  | _ => none }
def heatWerraRow : OpenClaim := { program := "ytocnhikohfkcaaa", sum := "d1e7b42e89c2bbc9bd528a9e7d7907b47fb010765c924471ac6473ca7062cc6d", func := "forcola/forcolalaw09.HeatWerra", spec := "heatWerra", inPlace := ["internal/abi.NoEscape"], unfollowed := true, recurses := true, plainKeys := false, apart := false }
def HeatWerraSaid : Prop := heatWerraRow.holds Try.pinned (OpenSpec.ofChange heatWerraSpec)

/-- ITS FALSE NEIGHBOUR: 'it returns false'. Refute it at one input. -/
def heatWerraWrong : ChangeSpec := { name := "heatWerra", fn := fun _ => fun
  | [d1, d2] => { results := [.lit (.bool false)], args := [d1, d2] }
  | _ => none }
def HeatWerraWrongFalsely : Prop := heatWerraRow.holds Try.pinned (OpenSpec.ofChange heatWerraWrong)

/-- 'forcolalaw09.HeatRussell': WHATEVER THE INPUT: true; the input reads as it did. -/
def heatRussellSpec : ChangeSpec := { name := "heatRussell", fn := fun _ => fun
  | [d1, d2] => { results := [.lit (.bool true)], args := [d1, d2] }
  | _ => none }
def heatRussellRow : OpenClaim := { program := "ytocnhikohfkcaaa", sum := "d1e7b42e89c2bbc9bd528a9e7d7907b47fb010765c924471ac6473ca7062cc6d", func := "forcola/forcolalaw09.HeatRussell", spec := "heatRussell", inPlace := ["internal/abi.NoEscape"], unfollowed := true, recurses := true, plainKeys := false, apart := false }
def HeatRussellSaid : Prop := heatRussellRow.holds Try.pinned (OpenSpec.ofChange heatRussellSpec)

/-- ITS FALSE NEIGHBOUR: 'it returns false'. Refute it at one input. -/
def heatRussellWrong : ChangeSpec := { name := "heatRussell", fn := fun _ => fun
  | [d1, d2] => { results := [.lit (.bool false)], args := [d1, d2] }
  | _ => none }
def HeatRussellWrongFalsely : Prop := heatRussellRow.holds Try.pinned (OpenSpec.ofChange heatRussellWrong)

/-- 'forcolalaw09.HeatChecks': WHATEVER THE INPUT: true; the input reads as it did. -/
def heatChecksSpec : ChangeSpec := { name := "heatChecks", fn := fun _ => fun
  | [d1, d2] => { results := [.lit (.bool true)], args := [d1, d2] }
  | _ => none }
def heatChecksRow : OpenClaim := { program := "ytocnhikohfkcaaa", sum := "d1e7b42e89c2bbc9bd528a9e7d7907b47fb010765c924471ac6473ca7062cc6d", func := "forcola/forcolalaw09.HeatChecks", spec := "heatChecks", inPlace := ["internal/abi.NoEscape"], unfollowed := true, recurses := true, plainKeys := false, apart := false }
def HeatChecksSaid : Prop := heatChecksRow.holds Try.pinned (OpenSpec.ofChange heatChecksSpec)

/-- ITS FALSE NEIGHBOUR: 'it returns false'. Refute it at one input. -/
def heatChecksWrong : ChangeSpec := { name := "heatChecks", fn := fun _ => fun
  | [d1, d2] => { results := [.lit (.bool false)], args := [d1, d2] }
  | _ => none }
def HeatChecksWrongFalsely : Prop := heatChecksRow.holds Try.pinned (OpenSpec.ofChange heatChecksWrong)

/- THE SECOND FORM. 'bulk': how many values and letters a reading holds, each counted each time it is reached (what is shared counts as often as it is met; a slice's spare places count too). A statement '..UptoSaid' is the law's where the arguments, and the package variables that the reading takes, are together of bulk at most 1048576: NARROWER than '..Said'. Prove '..Said' where nothing that the law and all that it calls make is longer than what came in: it says more and counts as full. Else prove '..UptoSaid'. A law counts once. -/
mutual
def uptoBulk {H : Type} : DataW H → Nat
  | .lit (.string bytes) => bytes.length + 1
  | .lit _ => 1
  | .nil => 1
  | .ptr d => uptoBulk d + 1
  | .slice elems spare => uptoBulkAll elems + uptoBulkAll spare + 1
  | .agg parts => uptoBulkAll parts + 1
  | .iface _ d => uptoBulk d + 1
  | .map entries => uptoBulkEntries entries + 1
  | .held _ => 1
def uptoBulkAll {H : Type} : List (DataW H) → Nat
  | [] => 0
  | d :: r => uptoBulk d + uptoBulkAll r
def uptoBulkEntries {H : Type} : List (Lit × DataW H) → Nat
  | [] => 0
  | x :: r => uptoBulkEntry x + uptoBulkEntries r
def uptoBulkEntry {H : Type} : Lit × DataW H → Nat
  | (.string bytes, d) => bytes.length + uptoBulk d + 1
  | (_, d) => uptoBulk d + 1
 end
def uptoSmall : (H : Type) → List (DataW H) → Bool := fun _ ds => decide (uptoBulkAll ds ≤ 1048576)
def OpenSpec.upto (s : _root_.Go.ChangeSpec) : _root_.Go.OpenSpec := { _root_.Go.OpenSpec.ofChange s with cond := some uptoSmall }

/-- 'forcolalaw09.HeatMakes', WHERE WHAT IT READS IS OF BULK AT MOST 1048576: true; the input reads as it did. -/
def heatMakesUptoRow : OpenClaim := { program := "ytocnhikohfkcaaa", sum := "d1e7b42e89c2bbc9bd528a9e7d7907b47fb010765c924471ac6473ca7062cc6d", func := "forcola/forcolalaw09.HeatMakes", spec := "heatMakes", inPlace := ["internal/abi.NoEscape"], unfollowed := true, recurses := true, plainKeys := false, apart := false, narrowed := true }
def HeatMakesUptoSaid : Prop := heatMakesUptoRow.holds Try.pinned (OpenSpec.upto heatMakesSpec)

/-- 'forcolalaw09.HeatTriples', WHERE WHAT IT READS IS OF BULK AT MOST 1048576: true; the input reads as it did. -/
def heatTriplesUptoRow : OpenClaim := { program := "ytocnhikohfkcaaa", sum := "d1e7b42e89c2bbc9bd528a9e7d7907b47fb010765c924471ac6473ca7062cc6d", func := "forcola/forcolalaw09.HeatTriples", spec := "heatTriples", inPlace := ["internal/abi.NoEscape"], unfollowed := true, recurses := true, plainKeys := false, apart := false, narrowed := true }
def HeatTriplesUptoSaid : Prop := heatTriplesUptoRow.holds Try.pinned (OpenSpec.upto heatTriplesSpec)

/-- 'forcolalaw09.HeatJudges', WHERE WHAT IT READS IS OF BULK AT MOST 1048576: true; the input reads as it did. -/
def heatJudgesUptoRow : OpenClaim := { program := "ytocnhikohfkcaaa", sum := "d1e7b42e89c2bbc9bd528a9e7d7907b47fb010765c924471ac6473ca7062cc6d", func := "forcola/forcolalaw09.HeatJudges", spec := "heatJudges", inPlace := ["internal/abi.NoEscape"], unfollowed := true, recurses := true, plainKeys := false, apart := false, narrowed := true }
def HeatJudgesUptoSaid : Prop := heatJudgesUptoRow.holds Try.pinned (OpenSpec.upto heatJudgesSpec)

/-- 'forcolalaw09.HeatKirkman', WHERE WHAT IT READS IS OF BULK AT MOST 1048576: true; the input reads as it did. -/
def heatKirkmanUptoRow : OpenClaim := { program := "ytocnhikohfkcaaa", sum := "d1e7b42e89c2bbc9bd528a9e7d7907b47fb010765c924471ac6473ca7062cc6d", func := "forcola/forcolalaw09.HeatKirkman", spec := "heatKirkman", inPlace := ["internal/abi.NoEscape"], unfollowed := true, recurses := true, plainKeys := false, apart := false, narrowed := true }
def HeatKirkmanUptoSaid : Prop := heatKirkmanUptoRow.holds Try.pinned (OpenSpec.upto heatKirkmanSpec)

/-- 'forcolalaw09.HeatWerra', WHERE WHAT IT READS IS OF BULK AT MOST 1048576: true; the input reads as it did. -/
def heatWerraUptoRow : OpenClaim := { program := "ytocnhikohfkcaaa", sum := "d1e7b42e89c2bbc9bd528a9e7d7907b47fb010765c924471ac6473ca7062cc6d", func := "forcola/forcolalaw09.HeatWerra", spec := "heatWerra", inPlace := ["internal/abi.NoEscape"], unfollowed := true, recurses := true, plainKeys := false, apart := false, narrowed := true }
def HeatWerraUptoSaid : Prop := heatWerraUptoRow.holds Try.pinned (OpenSpec.upto heatWerraSpec)

/-- 'forcolalaw09.HeatRussell', WHERE WHAT IT READS IS OF BULK AT MOST 1048576: true; the input reads as it did. -/
def heatRussellUptoRow : OpenClaim := { program := "ytocnhikohfkcaaa", sum := "d1e7b42e89c2bbc9bd528a9e7d7907b47fb010765c924471ac6473ca7062cc6d", func := "forcola/forcolalaw09.HeatRussell", spec := "heatRussell", inPlace := ["internal/abi.NoEscape"], unfollowed := true, recurses := true, plainKeys := false, apart := false, narrowed := true }
def HeatRussellUptoSaid : Prop := heatRussellUptoRow.holds Try.pinned (OpenSpec.upto heatRussellSpec)

/-- 'forcolalaw09.HeatChecks', WHERE WHAT IT READS IS OF BULK AT MOST 1048576: true; the input reads as it did. -/
def heatChecksUptoRow : OpenClaim := { program := "ytocnhikohfkcaaa", sum := "d1e7b42e89c2bbc9bd528a9e7d7907b47fb010765c924471ac6473ca7062cc6d", func := "forcola/forcolalaw09.HeatChecks", spec := "heatChecks", inPlace := ["internal/abi.NoEscape"], unfollowed := true, recurses := true, plainKeys := false, apart := false, narrowed := true }
def HeatChecksUptoSaid : Prop := heatChecksUptoRow.holds Try.pinned (OpenSpec.upto heatChecksSpec)

end Rows
end Go.Proofs.Ytocnhikohfkcaaa
