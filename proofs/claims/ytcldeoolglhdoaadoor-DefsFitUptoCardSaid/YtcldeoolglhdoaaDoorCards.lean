/-
  DERIVED. GIVEN WITH THE SEED: THE CARDS: each row of YtcldeoolglhdoaaDoorRows.lean that lists a variable, with what it lists TIED to the program's text (the seventh form; the later family's looks); each row that meets fmt, with fmt's text TOLD by the authors' own Lean function (tested against real Go, not proved from fmt's source: count such statements apart). THE CARD IS WHAT COUNTS. Prove the row's statement (the work); the ties are given (YtcldeoolglhdoaaDoorTie.lean); close each card by the builder's one call (the guide's Derived/Test/ToyasCard.lean, 'card_holds'). Laid BY PROGRAM, IN A SANDBOX (cutbox-door.mjs). By AI agents, Wed Nov 11 2026. No macro, syntax, notation, axiom, sorry.
-/
import Derived.Test.YtcldeoolglhdoaaDoorRows
import GoSem.ClaimSeven
namespace Go.Proofs.YtcldeoolglhdoaaDoor
namespace Rows

/-- THE TIED CARD OF 'mordantlaw18.DefsUses'. -/
def defsUsesCard : Claim7 := { stood := { row := defsUsesRow, standIns := [], harness := (true, "f4861b87165c50562346a233d9c895c3aad99800f8542bf570099f40fe84674d"), looks := false }, kinds := [], alts := [], laidByText := true, laidKinds := [.data], laidTests := true, laidLooks := .later }
def DefsUsesCardSaid : Prop := Claim7.holds Tryd.pinned (.plain (OpenSpec.ofChange defsUsesSpec)) defsUsesCard

/-- THE TIED CARD OF 'mordantlaw18.DefsOf'. -/
def defsOfCard : Claim7 := { stood := { row := defsOfRow, standIns := [], harness := (true, "f4861b87165c50562346a233d9c895c3aad99800f8542bf570099f40fe84674d"), looks := false }, kinds := [], alts := [], laidByText := true, laidKinds := [.data], laidTests := true, laidLooks := .later }
def DefsOfCardSaid : Prop := Claim7.holds Tryd.pinned (.plain (OpenSpec.ofChange defsOfSpec)) defsOfCard

/-- THE TIED CARD OF 'mordantlaw18.DefsMet'. -/
def defsMetCard : Claim7 := { stood := { row := defsMetRow, standIns := [], harness := (true, "f4861b87165c50562346a233d9c895c3aad99800f8542bf570099f40fe84674d"), looks := false }, kinds := [], alts := [], laidByText := true, laidKinds := [.data], laidTests := true, laidLooks := .later }
def DefsMetCardSaid : Prop := Claim7.holds Tryd.pinned (.plain (OpenSpec.ofChange defsMetSpec)) defsMetCard

/-- THE TIED CARD OF 'mordantlaw18.DefsFit'. -/
def defsFitCard : Claim7 := { stood := { row := defsFitRow, standIns := [], harness := (true, "f4861b87165c50562346a233d9c895c3aad99800f8542bf570099f40fe84674d"), looks := false }, kinds := [], alts := [], laidByText := true, laidKinds := [.data], laidTests := true, laidLooks := .later }
def DefsFitCardSaid : Prop := Claim7.holds Tryd.pinned (.plain (OpenSpec.ofChange defsFitSpec)) defsFitCard

/-- THE SECOND FORM's CARD OF 'mordantlaw18.DefsUses'. -/
def defsUsesUptoCard : Claim7 := { stood := { row := defsUsesUptoRow, standIns := [], harness := (true, "f4861b87165c50562346a233d9c895c3aad99800f8542bf570099f40fe84674d"), looks := false }, kinds := [], alts := [], laidByText := true, laidKinds := [.data], laidTests := true, laidLooks := .later }
def DefsUsesUptoCardSaid : Prop := Claim7.holds Tryd.pinned (.plain (OpenSpec.upto defsUsesSpec)) defsUsesUptoCard

/-- THE SECOND FORM's CARD OF 'mordantlaw18.DefsOf'. -/
def defsOfUptoCard : Claim7 := { stood := { row := defsOfUptoRow, standIns := [], harness := (true, "f4861b87165c50562346a233d9c895c3aad99800f8542bf570099f40fe84674d"), looks := false }, kinds := [], alts := [], laidByText := true, laidKinds := [.data], laidTests := true, laidLooks := .later }
def DefsOfUptoCardSaid : Prop := Claim7.holds Tryd.pinned (.plain (OpenSpec.upto defsOfSpec)) defsOfUptoCard

/-- THE SECOND FORM's CARD OF 'mordantlaw18.DefsMet'. -/
def defsMetUptoCard : Claim7 := { stood := { row := defsMetUptoRow, standIns := [], harness := (true, "f4861b87165c50562346a233d9c895c3aad99800f8542bf570099f40fe84674d"), looks := false }, kinds := [], alts := [], laidByText := true, laidKinds := [.data], laidTests := true, laidLooks := .later }
def DefsMetUptoCardSaid : Prop := Claim7.holds Tryd.pinned (.plain (OpenSpec.upto defsMetSpec)) defsMetUptoCard

/-- THE SECOND FORM's CARD OF 'mordantlaw18.DefsFit'. -/
def defsFitUptoCard : Claim7 := { stood := { row := defsFitUptoRow, standIns := [], harness := (true, "f4861b87165c50562346a233d9c895c3aad99800f8542bf570099f40fe84674d"), looks := false }, kinds := [], alts := [], laidByText := true, laidKinds := [.data], laidTests := true, laidLooks := .later }
def DefsFitUptoCardSaid : Prop := Claim7.holds Tryd.pinned (.plain (OpenSpec.upto defsFitSpec)) defsFitUptoCard
end Rows
end Go.Proofs.YtcldeoolglhdoaaDoor
