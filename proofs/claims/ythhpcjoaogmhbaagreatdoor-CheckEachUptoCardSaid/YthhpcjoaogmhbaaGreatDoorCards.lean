/-
  DERIVED. GIVEN WITH THE SEED: THE CARDS: each row of YthhpcjoaogmhbaaGreatDoorRows.lean that lists a variable, with what it lists TIED to the program's text (the seventh form; the later family's looks); each row that meets fmt, with fmt's text TOLD by the authors' own Lean function (tested against real Go, not proved from fmt's source: count such statements apart). THE CARD IS WHAT COUNTS. Prove the row's statement (the work); the ties are given (YthhpcjoaogmhbaaGreatDoorTie.lean); close each card by the builder's one call (the guide's Derived/Test/ToyasCard.lean, 'card_holds'). Laid BY PROGRAM, IN A SANDBOX (cutbox-door.mjs). By AI agents, Wed Nov 11 2026. No macro, syntax, notation, axiom, sorry.
-/
import Derived.Test.YthhpcjoaogmhbaaGreatDoorRows
import GoSem.ClaimSeven
namespace Go.Proofs.YthhpcjoaogmhbaaGreatDoor
namespace Rows

/-- THE TIED CARD OF 'mordantlaw07.CheckSight'. -/
def checkSightCard : Claim7 := { stood := { row := checkSightRow, standIns := [], harness := (true, "eacf32a0f1a8beaecb1d24c687d29d66c3c17116d19f732f74d7050d641c3033"), looks := true }, kinds := [], alts := [], laidByText := true, laidKinds := [.data, .data, .data], laidTests := true, laidLooks := .later }
def CheckSightCardSaid : Prop := Claim7.holds Tryz.pinned (.plain (OpenSpec.ofChange checkSightSpec)) checkSightCard

/-- THE TIED CARD OF 'mordantlaw07.CheckPlaces'. -/
def checkPlacesCard : Claim7 := { stood := { row := checkPlacesRow, standIns := [], harness := (true, "eacf32a0f1a8beaecb1d24c687d29d66c3c17116d19f732f74d7050d641c3033"), looks := true }, kinds := [], alts := [], laidByText := true, laidKinds := [.data, .data, .data], laidTests := true, laidLooks := .later }
def CheckPlacesCardSaid : Prop := Claim7.holds Tryz.pinned (.plain (OpenSpec.ofChange checkPlacesSpec)) checkPlacesCard

/-- THE TIED CARD OF 'mordantlaw07.CheckEach'. -/
def checkEachCard : Claim7 := { stood := { row := checkEachRow, standIns := [], harness := (true, "eacf32a0f1a8beaecb1d24c687d29d66c3c17116d19f732f74d7050d641c3033"), looks := true }, kinds := [], alts := [], laidByText := true, laidKinds := [.data, .data, .data], laidTests := true, laidLooks := .later }
def CheckEachCardSaid : Prop := Claim7.holds Tryz.pinned (.plain (OpenSpec.ofChange checkEachSpec)) checkEachCard

/-- THE SECOND FORM's CARD OF 'mordantlaw07.CheckSight'. -/
def checkSightUptoCard : Claim7 := { stood := { row := checkSightUptoRow, standIns := [], harness := (true, "eacf32a0f1a8beaecb1d24c687d29d66c3c17116d19f732f74d7050d641c3033"), looks := true }, kinds := [], alts := [], laidByText := true, laidKinds := [.data, .data, .data], laidTests := true, laidLooks := .later }
def CheckSightUptoCardSaid : Prop := Claim7.holds Tryz.pinned (.plain (OpenSpec.upto checkSightSpec)) checkSightUptoCard

/-- THE SECOND FORM's CARD OF 'mordantlaw07.CheckPlaces'. -/
def checkPlacesUptoCard : Claim7 := { stood := { row := checkPlacesUptoRow, standIns := [], harness := (true, "eacf32a0f1a8beaecb1d24c687d29d66c3c17116d19f732f74d7050d641c3033"), looks := true }, kinds := [], alts := [], laidByText := true, laidKinds := [.data, .data, .data], laidTests := true, laidLooks := .later }
def CheckPlacesUptoCardSaid : Prop := Claim7.holds Tryz.pinned (.plain (OpenSpec.upto checkPlacesSpec)) checkPlacesUptoCard

/-- THE SECOND FORM's CARD OF 'mordantlaw07.CheckEach'. -/
def checkEachUptoCard : Claim7 := { stood := { row := checkEachUptoRow, standIns := [], harness := (true, "eacf32a0f1a8beaecb1d24c687d29d66c3c17116d19f732f74d7050d641c3033"), looks := true }, kinds := [], alts := [], laidByText := true, laidKinds := [.data, .data, .data], laidTests := true, laidLooks := .later }
def CheckEachUptoCardSaid : Prop := Claim7.holds Tryz.pinned (.plain (OpenSpec.upto checkEachSpec)) checkEachUptoCard
end Rows
end Go.Proofs.YthhpcjoaogmhbaaGreatDoor
