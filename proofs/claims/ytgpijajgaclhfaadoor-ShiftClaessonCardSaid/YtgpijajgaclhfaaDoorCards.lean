/-
  DERIVED. GIVEN WITH THE SEED: THE CARDS: each row of YtgpijajgaclhfaaDoorRows.lean that lists a variable, with what it lists TIED to the program's text (the seventh form; the later family's looks); each row that meets fmt, with fmt's text TOLD by the authors' own Lean function (tested against real Go, not proved from fmt's source: count such statements apart). THE CARD IS WHAT COUNTS. Prove the row's statement (the work); the ties are given (YtgpijajgaclhfaaDoorTie.lean); close each card by the builder's one call (the guide's Derived/Test/ToyasCard.lean, 'card_holds'). Laid BY PROGRAM, IN A SANDBOX (cutbox-door.mjs). By AI agents, Wed Nov 11 2026. No macro, syntax, notation, axiom, sorry.
-/
import Derived.Test.YtgpijajgaclhfaaDoorRows
import GoSem.ClaimSeven
namespace Go.Proofs.YtgpijajgaclhfaaDoor
namespace Rows

/-- THE TIED CARD OF 'forcolalaw10.ShiftFrom'. -/
def shiftFromCard : Claim7 := { stood := { row := shiftFromRow, standIns := [], harness := (true, "8d8a86580ca6b4141ac65a33e9f1baa67f49c99411723b9fb6550f13f350a7da"), looks := false }, kinds := [], alts := [], laidByText := true, laidKinds := [.data, .data], laidTests := true, laidLooks := .later }
def ShiftFromCardSaid : Prop := Claim7.holds Tryd.pinned (.plain (OpenSpec.ofChange shiftFromSpec)) shiftFromCard

/-- THE TIED CARD OF 'forcolalaw10.ShiftPeaks'. -/
def shiftPeaksCard : Claim7 := { stood := { row := shiftPeaksRow, standIns := [], harness := (true, "8d8a86580ca6b4141ac65a33e9f1baa67f49c99411723b9fb6550f13f350a7da"), looks := false }, kinds := [], alts := [], laidByText := true, laidKinds := [.data, .data], laidTests := true, laidLooks := .later }
def ShiftPeaksCardSaid : Prop := Claim7.holds Tryd.pinned (.plain (OpenSpec.ofChange shiftPeaksSpec)) shiftPeaksCard

/-- THE TIED CARD OF 'forcolalaw10.ShiftIntervals'. -/
def shiftIntervalsCard : Claim7 := { stood := { row := shiftIntervalsRow, standIns := [], harness := (true, "8d8a86580ca6b4141ac65a33e9f1baa67f49c99411723b9fb6550f13f350a7da"), looks := false }, kinds := [], alts := [], laidByText := true, laidKinds := [.data, .data], laidTests := true, laidLooks := .later }
def ShiftIntervalsCardSaid : Prop := Claim7.holds Tryd.pinned (.plain (OpenSpec.ofChange shiftIntervalsSpec)) shiftIntervalsCard

/-- THE TIED CARD OF 'forcolalaw10.ShiftFishburn'. -/
def shiftFishburnCard : Claim7 := { stood := { row := shiftFishburnRow, standIns := [], harness := (true, "8d8a86580ca6b4141ac65a33e9f1baa67f49c99411723b9fb6550f13f350a7da"), looks := false }, kinds := [], alts := [], laidByText := true, laidKinds := [.data, .data], laidTests := true, laidLooks := .later }
def ShiftFishburnCardSaid : Prop := Claim7.holds Tryd.pinned (.plain (OpenSpec.ofChange shiftFishburnSpec)) shiftFishburnCard

/-- THE TIED CARD OF 'forcolalaw10.ShiftClaesson'. -/
def shiftClaessonCard : Claim7 := { stood := { row := shiftClaessonRow, standIns := [], harness := (true, "8d8a86580ca6b4141ac65a33e9f1baa67f49c99411723b9fb6550f13f350a7da"), looks := false }, kinds := [], alts := [], laidByText := true, laidKinds := [.data, .data], laidTests := true, laidLooks := .later }
def ShiftClaessonCardSaid : Prop := Claim7.holds Tryd.pinned (.plain (OpenSpec.ofChange shiftClaessonSpec)) shiftClaessonCard

/-- THE TIED CARD OF 'forcolalaw10.ShiftAscents'. -/
def shiftAscentsCard : Claim7 := { stood := { row := shiftAscentsRow, standIns := [], harness := (true, "8d8a86580ca6b4141ac65a33e9f1baa67f49c99411723b9fb6550f13f350a7da"), looks := false }, kinds := [], alts := [], laidByText := true, laidKinds := [.data, .data], laidTests := true, laidLooks := .later }
def ShiftAscentsCardSaid : Prop := Claim7.holds Tryd.pinned (.plain (OpenSpec.ofChange shiftAscentsSpec)) shiftAscentsCard

/-- THE TIED CARD OF 'forcolalaw10.ShiftJudges'. -/
def shiftJudgesCard : Claim7 := { stood := { row := shiftJudgesRow, standIns := [], harness := (true, "8d8a86580ca6b4141ac65a33e9f1baa67f49c99411723b9fb6550f13f350a7da"), looks := false }, kinds := [], alts := [], laidByText := true, laidKinds := [.data, .data], laidTests := true, laidLooks := .later }
def ShiftJudgesCardSaid : Prop := Claim7.holds Tryd.pinned (.plain (OpenSpec.ofChange shiftJudgesSpec)) shiftJudgesCard

/-- THE TIED CARD OF 'forcolalaw10.ShiftPositions'. -/
def shiftPositionsCard : Claim7 := { stood := { row := shiftPositionsRow, standIns := [], harness := (true, "8d8a86580ca6b4141ac65a33e9f1baa67f49c99411723b9fb6550f13f350a7da"), looks := false }, kinds := [], alts := [], laidByText := true, laidKinds := [.data, .data], laidTests := true, laidLooks := .later }
def ShiftPositionsCardSaid : Prop := Claim7.holds Tryd.pinned (.plain (OpenSpec.ofChange shiftPositionsSpec)) shiftPositionsCard

/-- THE TIED CARD OF 'forcolalaw10.ShiftScott'. -/
def shiftScottCard : Claim7 := { stood := { row := shiftScottRow, standIns := [], harness := (true, "8d8a86580ca6b4141ac65a33e9f1baa67f49c99411723b9fb6550f13f350a7da"), looks := false }, kinds := [], alts := [], laidByText := true, laidKinds := [.data, .data], laidTests := true, laidLooks := .later }
def ShiftScottCardSaid : Prop := Claim7.holds Tryd.pinned (.plain (OpenSpec.ofChange shiftScottSpec)) shiftScottCard

/-- THE TIED CARD OF 'forcolalaw10.ShiftChecks'. -/
def shiftChecksCard : Claim7 := { stood := { row := shiftChecksRow, standIns := [], harness := (true, "8d8a86580ca6b4141ac65a33e9f1baa67f49c99411723b9fb6550f13f350a7da"), looks := false }, kinds := [], alts := [], laidByText := true, laidKinds := [.data, .data], laidTests := true, laidLooks := .later }
def ShiftChecksCardSaid : Prop := Claim7.holds Tryd.pinned (.plain (OpenSpec.ofChange shiftChecksSpec)) shiftChecksCard

/-- THE SECOND FORM's CARD OF 'forcolalaw10.ShiftFrom'. -/
def shiftFromUptoCard : Claim7 := { stood := { row := shiftFromUptoRow, standIns := [], harness := (true, "8d8a86580ca6b4141ac65a33e9f1baa67f49c99411723b9fb6550f13f350a7da"), looks := false }, kinds := [], alts := [], laidByText := true, laidKinds := [.data, .data], laidTests := true, laidLooks := .later }
def ShiftFromUptoCardSaid : Prop := Claim7.holds Tryd.pinned (.plain (OpenSpec.upto shiftFromSpec)) shiftFromUptoCard

/-- THE SECOND FORM's CARD OF 'forcolalaw10.ShiftPeaks'. -/
def shiftPeaksUptoCard : Claim7 := { stood := { row := shiftPeaksUptoRow, standIns := [], harness := (true, "8d8a86580ca6b4141ac65a33e9f1baa67f49c99411723b9fb6550f13f350a7da"), looks := false }, kinds := [], alts := [], laidByText := true, laidKinds := [.data, .data], laidTests := true, laidLooks := .later }
def ShiftPeaksUptoCardSaid : Prop := Claim7.holds Tryd.pinned (.plain (OpenSpec.upto shiftPeaksSpec)) shiftPeaksUptoCard

/-- THE SECOND FORM's CARD OF 'forcolalaw10.ShiftIntervals'. -/
def shiftIntervalsUptoCard : Claim7 := { stood := { row := shiftIntervalsUptoRow, standIns := [], harness := (true, "8d8a86580ca6b4141ac65a33e9f1baa67f49c99411723b9fb6550f13f350a7da"), looks := false }, kinds := [], alts := [], laidByText := true, laidKinds := [.data, .data], laidTests := true, laidLooks := .later }
def ShiftIntervalsUptoCardSaid : Prop := Claim7.holds Tryd.pinned (.plain (OpenSpec.upto shiftIntervalsSpec)) shiftIntervalsUptoCard

/-- THE SECOND FORM's CARD OF 'forcolalaw10.ShiftFishburn'. -/
def shiftFishburnUptoCard : Claim7 := { stood := { row := shiftFishburnUptoRow, standIns := [], harness := (true, "8d8a86580ca6b4141ac65a33e9f1baa67f49c99411723b9fb6550f13f350a7da"), looks := false }, kinds := [], alts := [], laidByText := true, laidKinds := [.data, .data], laidTests := true, laidLooks := .later }
def ShiftFishburnUptoCardSaid : Prop := Claim7.holds Tryd.pinned (.plain (OpenSpec.upto shiftFishburnSpec)) shiftFishburnUptoCard

/-- THE SECOND FORM's CARD OF 'forcolalaw10.ShiftClaesson'. -/
def shiftClaessonUptoCard : Claim7 := { stood := { row := shiftClaessonUptoRow, standIns := [], harness := (true, "8d8a86580ca6b4141ac65a33e9f1baa67f49c99411723b9fb6550f13f350a7da"), looks := false }, kinds := [], alts := [], laidByText := true, laidKinds := [.data, .data], laidTests := true, laidLooks := .later }
def ShiftClaessonUptoCardSaid : Prop := Claim7.holds Tryd.pinned (.plain (OpenSpec.upto shiftClaessonSpec)) shiftClaessonUptoCard

/-- THE SECOND FORM's CARD OF 'forcolalaw10.ShiftAscents'. -/
def shiftAscentsUptoCard : Claim7 := { stood := { row := shiftAscentsUptoRow, standIns := [], harness := (true, "8d8a86580ca6b4141ac65a33e9f1baa67f49c99411723b9fb6550f13f350a7da"), looks := false }, kinds := [], alts := [], laidByText := true, laidKinds := [.data, .data], laidTests := true, laidLooks := .later }
def ShiftAscentsUptoCardSaid : Prop := Claim7.holds Tryd.pinned (.plain (OpenSpec.upto shiftAscentsSpec)) shiftAscentsUptoCard

/-- THE SECOND FORM's CARD OF 'forcolalaw10.ShiftJudges'. -/
def shiftJudgesUptoCard : Claim7 := { stood := { row := shiftJudgesUptoRow, standIns := [], harness := (true, "8d8a86580ca6b4141ac65a33e9f1baa67f49c99411723b9fb6550f13f350a7da"), looks := false }, kinds := [], alts := [], laidByText := true, laidKinds := [.data, .data], laidTests := true, laidLooks := .later }
def ShiftJudgesUptoCardSaid : Prop := Claim7.holds Tryd.pinned (.plain (OpenSpec.upto shiftJudgesSpec)) shiftJudgesUptoCard

/-- THE SECOND FORM's CARD OF 'forcolalaw10.ShiftPositions'. -/
def shiftPositionsUptoCard : Claim7 := { stood := { row := shiftPositionsUptoRow, standIns := [], harness := (true, "8d8a86580ca6b4141ac65a33e9f1baa67f49c99411723b9fb6550f13f350a7da"), looks := false }, kinds := [], alts := [], laidByText := true, laidKinds := [.data, .data], laidTests := true, laidLooks := .later }
def ShiftPositionsUptoCardSaid : Prop := Claim7.holds Tryd.pinned (.plain (OpenSpec.upto shiftPositionsSpec)) shiftPositionsUptoCard

/-- THE SECOND FORM's CARD OF 'forcolalaw10.ShiftScott'. -/
def shiftScottUptoCard : Claim7 := { stood := { row := shiftScottUptoRow, standIns := [], harness := (true, "8d8a86580ca6b4141ac65a33e9f1baa67f49c99411723b9fb6550f13f350a7da"), looks := false }, kinds := [], alts := [], laidByText := true, laidKinds := [.data, .data], laidTests := true, laidLooks := .later }
def ShiftScottUptoCardSaid : Prop := Claim7.holds Tryd.pinned (.plain (OpenSpec.upto shiftScottSpec)) shiftScottUptoCard

/-- THE SECOND FORM's CARD OF 'forcolalaw10.ShiftChecks'. -/
def shiftChecksUptoCard : Claim7 := { stood := { row := shiftChecksUptoRow, standIns := [], harness := (true, "8d8a86580ca6b4141ac65a33e9f1baa67f49c99411723b9fb6550f13f350a7da"), looks := false }, kinds := [], alts := [], laidByText := true, laidKinds := [.data, .data], laidTests := true, laidLooks := .later }
def ShiftChecksUptoCardSaid : Prop := Claim7.holds Tryd.pinned (.plain (OpenSpec.upto shiftChecksSpec)) shiftChecksUptoCard
end Rows
end Go.Proofs.YtgpijajgaclhfaaDoor
