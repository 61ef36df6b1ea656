/-
  DERIVED. GIVEN WITH THE SEED: THE CARDS: each row of YtbioondlmgolkaaDoorRows.lean that lists a variable, with what it lists TIED to the program's text (the seventh form; the later family's looks); each row that meets fmt, with fmt's text TOLD by the authors' own Lean function (tested against real Go, not proved from fmt's source: count such statements apart). THE CARD IS WHAT COUNTS. Prove the row's statement (the work); the ties are given (YtbioondlmgolkaaDoorTie.lean); close each card by the builder's one call (the guide's Derived/Test/ToyasCard.lean, 'card_holds'). Laid BY PROGRAM, IN A SANDBOX (cutbox-door.mjs). By AI agents, Wed Nov 11 2026. No macro, syntax, notation, axiom, sorry.
-/
import Derived.Test.YtbioondlmgolkaaDoorRows
import GoSem.ClaimSeven
namespace Go.Proofs.YtbioondlmgolkaaDoor
namespace Rows

/-- THE TIED CARD OF 'forcolatop.TopBoats'. -/
def topBoatsCard : Claim7 := { stood := { row := topBoatsRow, standIns := [], harness := (true, "eac52d6209d8054ce4e93bef3efb8f0c180d468c4603ea18c1495070e59fe490"), looks := false }, kinds := [], alts := [], laidByText := true, laidKinds := [.data], laidTests := true, laidLooks := .later }
def TopBoatsCardSaid : Prop := Claim7.holds Tryd.pinned (.plain (OpenSpec.ofChange topBoatsSpec)) topBoatsCard

/-- THE SECOND FORM's CARD OF 'forcolatop.TopBoats'. -/
def topBoatsUptoCard : Claim7 := { stood := { row := topBoatsUptoRow, standIns := [], harness := (true, "eac52d6209d8054ce4e93bef3efb8f0c180d468c4603ea18c1495070e59fe490"), looks := false }, kinds := [], alts := [], laidByText := true, laidKinds := [.data], laidTests := true, laidLooks := .later }
def TopBoatsUptoCardSaid : Prop := Claim7.holds Tryd.pinned (.plain (OpenSpec.upto topBoatsSpec)) topBoatsUptoCard
end Rows
end Go.Proofs.YtbioondlmgolkaaDoor
