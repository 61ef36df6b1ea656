/-
  DERIVED. GIVEN WITH THE SEED: THE CARDS: each row of YtpknnjcbcndbbaaDoorRows.lean that lists a variable, with what it lists TIED to the program's text (the seventh form; the later family's looks); each row that meets fmt, with fmt's text TOLD by the authors' own Lean function (tested against real Go, not proved from fmt's source: count such statements apart). THE CARD IS WHAT COUNTS. Prove the row's statement (the work); the ties are given (YtpknnjcbcndbbaaDoorTie.lean); close each card by the builder's one call (the guide's Derived/Test/ToyasCard.lean, 'card_holds'). Laid BY PROGRAM, IN A SANDBOX (cutbox-door.mjs). By AI agents, Wed Nov 11 2026. No macro, syntax, notation, axiom, sorry.
-/
import Derived.Test.YtpknnjcbcndbbaaDoorRows
import GoSem.ClaimSeven
namespace Go.Proofs.YtpknnjcbcndbbaaDoor
namespace Rows

/-- THE TIED CARD OF 'forcolalaw07.HueFewest'. -/
def hueFewestCard : Claim7 := { stood := { row := hueFewestRow, standIns := [], harness := (true, "ec3fb8d08523d09b6938df323023b4fac3b59d4fb994db6e1ff08518722b3ecd"), looks := false }, kinds := [], alts := [], laidByText := true, laidKinds := [.data, .data], laidTests := true, laidLooks := .later }
def HueFewestCardSaid : Prop := Claim7.holds Tryd.pinned (.plain (OpenSpec.ofChange hueFewestSpec)) hueFewestCard

/-- THE TIED CARD OF 'forcolalaw07.HueOrders'. -/
def hueOrdersCard : Claim7 := { stood := { row := hueOrdersRow, standIns := [], harness := (true, "ec3fb8d08523d09b6938df323023b4fac3b59d4fb994db6e1ff08518722b3ecd"), looks := false }, kinds := [], alts := [], laidByText := true, laidKinds := [.data, .data], laidTests := true, laidLooks := .later }
def HueOrdersCardSaid : Prop := Claim7.holds Tryd.pinned (.plain (OpenSpec.ofChange hueOrdersSpec)) hueOrdersCard

/-- THE TIED CARD OF 'forcolalaw07.HueVizing'. -/
def hueVizingCard : Claim7 := { stood := { row := hueVizingRow, standIns := [], harness := (true, "ec3fb8d08523d09b6938df323023b4fac3b59d4fb994db6e1ff08518722b3ecd"), looks := false }, kinds := [], alts := [], laidByText := true, laidKinds := [.data, .data], laidTests := true, laidLooks := .later }
def HueVizingCardSaid : Prop := Claim7.holds Tryd.pinned (.plain (OpenSpec.ofChange hueVizingSpec)) hueVizingCard

/-- THE TIED CARD OF 'forcolalaw07.HueSided'. -/
def hueSidedCard : Claim7 := { stood := { row := hueSidedRow, standIns := [], harness := (true, "ec3fb8d08523d09b6938df323023b4fac3b59d4fb994db6e1ff08518722b3ecd"), looks := false }, kinds := [], alts := [], laidByText := true, laidKinds := [.data, .data], laidTests := true, laidLooks := .later }
def HueSidedCardSaid : Prop := Claim7.holds Tryd.pinned (.plain (OpenSpec.ofChange hueSidedSpec)) hueSidedCard

/-- THE TIED CARD OF 'forcolalaw07.HueSides'. -/
def hueSidesCard : Claim7 := { stood := { row := hueSidesRow, standIns := [], harness := (true, "ec3fb8d08523d09b6938df323023b4fac3b59d4fb994db6e1ff08518722b3ecd"), looks := false }, kinds := [], alts := [], laidByText := true, laidKinds := [.data, .data], laidTests := true, laidLooks := .later }
def HueSidesCardSaid : Prop := Claim7.holds Tryd.pinned (.plain (OpenSpec.ofChange hueSidesSpec)) hueSidesCard

/-- THE TIED CARD OF 'forcolalaw07.HueLists'. -/
def hueListsCard : Claim7 := { stood := { row := hueListsRow, standIns := [], harness := (true, "ec3fb8d08523d09b6938df323023b4fac3b59d4fb994db6e1ff08518722b3ecd"), looks := false }, kinds := [], alts := [], laidByText := true, laidKinds := [.data, .data], laidTests := true, laidLooks := .later }
def HueListsCardSaid : Prop := Claim7.holds Tryd.pinned (.plain (OpenSpec.ofChange hueListsSpec)) hueListsCard

/-- THE TIED CARD OF 'forcolalaw07.HueColours'. -/
def hueColoursCard : Claim7 := { stood := { row := hueColoursRow, standIns := [], harness := (true, "ec3fb8d08523d09b6938df323023b4fac3b59d4fb994db6e1ff08518722b3ecd"), looks := false }, kinds := [], alts := [], laidByText := true, laidKinds := [.data, .data], laidTests := true, laidLooks := .later }
def HueColoursCardSaid : Prop := Claim7.holds Tryd.pinned (.plain (OpenSpec.ofChange hueColoursSpec)) hueColoursCard

/-- THE TIED CARD OF 'forcolalaw07.HueLoose'. -/
def hueLooseCard : Claim7 := { stood := { row := hueLooseRow, standIns := [], harness := (true, "ec3fb8d08523d09b6938df323023b4fac3b59d4fb994db6e1ff08518722b3ecd"), looks := false }, kinds := [], alts := [], laidByText := true, laidKinds := [.data, .data], laidTests := true, laidLooks := .later }
def HueLooseCardSaid : Prop := Claim7.holds Tryd.pinned (.plain (OpenSpec.ofChange hueLooseSpec)) hueLooseCard

/-- THE TIED CARD OF 'forcolalaw07.HueKonig'. -/
def hueKonigCard : Claim7 := { stood := { row := hueKonigRow, standIns := [], harness := (true, "ec3fb8d08523d09b6938df323023b4fac3b59d4fb994db6e1ff08518722b3ecd"), looks := false }, kinds := [], alts := [], laidByText := true, laidKinds := [.data, .data], laidTests := true, laidLooks := .later }
def HueKonigCardSaid : Prop := Claim7.holds Tryd.pinned (.plain (OpenSpec.ofChange hueKonigSpec)) hueKonigCard

/-- THE TIED CARD OF 'forcolalaw07.HueGalvin'. -/
def hueGalvinCard : Claim7 := { stood := { row := hueGalvinRow, standIns := [], harness := (true, "ec3fb8d08523d09b6938df323023b4fac3b59d4fb994db6e1ff08518722b3ecd"), looks := false }, kinds := [], alts := [], laidByText := true, laidKinds := [.data, .data], laidTests := true, laidLooks := .later }
def HueGalvinCardSaid : Prop := Claim7.holds Tryd.pinned (.plain (OpenSpec.ofChange hueGalvinSpec)) hueGalvinCard

/-- THE TIED CARD OF 'forcolalaw07.HueChecks'. -/
def hueChecksCard : Claim7 := { stood := { row := hueChecksRow, standIns := [], harness := (true, "ec3fb8d08523d09b6938df323023b4fac3b59d4fb994db6e1ff08518722b3ecd"), looks := false }, kinds := [], alts := [], laidByText := true, laidKinds := [.data, .data], laidTests := true, laidLooks := .later }
def HueChecksCardSaid : Prop := Claim7.holds Tryd.pinned (.plain (OpenSpec.ofChange hueChecksSpec)) hueChecksCard

/-- THE SECOND FORM's CARD OF 'forcolalaw07.HueFewest'. -/
def hueFewestUptoCard : Claim7 := { stood := { row := hueFewestUptoRow, standIns := [], harness := (true, "ec3fb8d08523d09b6938df323023b4fac3b59d4fb994db6e1ff08518722b3ecd"), looks := false }, kinds := [], alts := [], laidByText := true, laidKinds := [.data, .data], laidTests := true, laidLooks := .later }
def HueFewestUptoCardSaid : Prop := Claim7.holds Tryd.pinned (.plain (OpenSpec.upto hueFewestSpec)) hueFewestUptoCard

/-- THE SECOND FORM's CARD OF 'forcolalaw07.HueOrders'. -/
def hueOrdersUptoCard : Claim7 := { stood := { row := hueOrdersUptoRow, standIns := [], harness := (true, "ec3fb8d08523d09b6938df323023b4fac3b59d4fb994db6e1ff08518722b3ecd"), looks := false }, kinds := [], alts := [], laidByText := true, laidKinds := [.data, .data], laidTests := true, laidLooks := .later }
def HueOrdersUptoCardSaid : Prop := Claim7.holds Tryd.pinned (.plain (OpenSpec.upto hueOrdersSpec)) hueOrdersUptoCard

/-- THE SECOND FORM's CARD OF 'forcolalaw07.HueVizing'. -/
def hueVizingUptoCard : Claim7 := { stood := { row := hueVizingUptoRow, standIns := [], harness := (true, "ec3fb8d08523d09b6938df323023b4fac3b59d4fb994db6e1ff08518722b3ecd"), looks := false }, kinds := [], alts := [], laidByText := true, laidKinds := [.data, .data], laidTests := true, laidLooks := .later }
def HueVizingUptoCardSaid : Prop := Claim7.holds Tryd.pinned (.plain (OpenSpec.upto hueVizingSpec)) hueVizingUptoCard

/-- THE SECOND FORM's CARD OF 'forcolalaw07.HueSided'. -/
def hueSidedUptoCard : Claim7 := { stood := { row := hueSidedUptoRow, standIns := [], harness := (true, "ec3fb8d08523d09b6938df323023b4fac3b59d4fb994db6e1ff08518722b3ecd"), looks := false }, kinds := [], alts := [], laidByText := true, laidKinds := [.data, .data], laidTests := true, laidLooks := .later }
def HueSidedUptoCardSaid : Prop := Claim7.holds Tryd.pinned (.plain (OpenSpec.upto hueSidedSpec)) hueSidedUptoCard

/-- THE SECOND FORM's CARD OF 'forcolalaw07.HueSides'. -/
def hueSidesUptoCard : Claim7 := { stood := { row := hueSidesUptoRow, standIns := [], harness := (true, "ec3fb8d08523d09b6938df323023b4fac3b59d4fb994db6e1ff08518722b3ecd"), looks := false }, kinds := [], alts := [], laidByText := true, laidKinds := [.data, .data], laidTests := true, laidLooks := .later }
def HueSidesUptoCardSaid : Prop := Claim7.holds Tryd.pinned (.plain (OpenSpec.upto hueSidesSpec)) hueSidesUptoCard

/-- THE SECOND FORM's CARD OF 'forcolalaw07.HueLists'. -/
def hueListsUptoCard : Claim7 := { stood := { row := hueListsUptoRow, standIns := [], harness := (true, "ec3fb8d08523d09b6938df323023b4fac3b59d4fb994db6e1ff08518722b3ecd"), looks := false }, kinds := [], alts := [], laidByText := true, laidKinds := [.data, .data], laidTests := true, laidLooks := .later }
def HueListsUptoCardSaid : Prop := Claim7.holds Tryd.pinned (.plain (OpenSpec.upto hueListsSpec)) hueListsUptoCard

/-- THE SECOND FORM's CARD OF 'forcolalaw07.HueColours'. -/
def hueColoursUptoCard : Claim7 := { stood := { row := hueColoursUptoRow, standIns := [], harness := (true, "ec3fb8d08523d09b6938df323023b4fac3b59d4fb994db6e1ff08518722b3ecd"), looks := false }, kinds := [], alts := [], laidByText := true, laidKinds := [.data, .data], laidTests := true, laidLooks := .later }
def HueColoursUptoCardSaid : Prop := Claim7.holds Tryd.pinned (.plain (OpenSpec.upto hueColoursSpec)) hueColoursUptoCard

/-- THE SECOND FORM's CARD OF 'forcolalaw07.HueLoose'. -/
def hueLooseUptoCard : Claim7 := { stood := { row := hueLooseUptoRow, standIns := [], harness := (true, "ec3fb8d08523d09b6938df323023b4fac3b59d4fb994db6e1ff08518722b3ecd"), looks := false }, kinds := [], alts := [], laidByText := true, laidKinds := [.data, .data], laidTests := true, laidLooks := .later }
def HueLooseUptoCardSaid : Prop := Claim7.holds Tryd.pinned (.plain (OpenSpec.upto hueLooseSpec)) hueLooseUptoCard

/-- THE SECOND FORM's CARD OF 'forcolalaw07.HueKonig'. -/
def hueKonigUptoCard : Claim7 := { stood := { row := hueKonigUptoRow, standIns := [], harness := (true, "ec3fb8d08523d09b6938df323023b4fac3b59d4fb994db6e1ff08518722b3ecd"), looks := false }, kinds := [], alts := [], laidByText := true, laidKinds := [.data, .data], laidTests := true, laidLooks := .later }
def HueKonigUptoCardSaid : Prop := Claim7.holds Tryd.pinned (.plain (OpenSpec.upto hueKonigSpec)) hueKonigUptoCard

/-- THE SECOND FORM's CARD OF 'forcolalaw07.HueGalvin'. -/
def hueGalvinUptoCard : Claim7 := { stood := { row := hueGalvinUptoRow, standIns := [], harness := (true, "ec3fb8d08523d09b6938df323023b4fac3b59d4fb994db6e1ff08518722b3ecd"), looks := false }, kinds := [], alts := [], laidByText := true, laidKinds := [.data, .data], laidTests := true, laidLooks := .later }
def HueGalvinUptoCardSaid : Prop := Claim7.holds Tryd.pinned (.plain (OpenSpec.upto hueGalvinSpec)) hueGalvinUptoCard

/-- THE SECOND FORM's CARD OF 'forcolalaw07.HueChecks'. -/
def hueChecksUptoCard : Claim7 := { stood := { row := hueChecksUptoRow, standIns := [], harness := (true, "ec3fb8d08523d09b6938df323023b4fac3b59d4fb994db6e1ff08518722b3ecd"), looks := false }, kinds := [], alts := [], laidByText := true, laidKinds := [.data, .data], laidTests := true, laidLooks := .later }
def HueChecksUptoCardSaid : Prop := Claim7.holds Tryd.pinned (.plain (OpenSpec.upto hueChecksSpec)) hueChecksUptoCard
end Rows
end Go.Proofs.YtpknnjcbcndbbaaDoor
