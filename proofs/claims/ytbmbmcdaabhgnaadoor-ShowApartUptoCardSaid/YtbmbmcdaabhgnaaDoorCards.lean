/-
  DERIVED. GIVEN WITH THE SEED: THE CARDS: each row of YtbmbmcdaabhgnaaDoorRows.lean that lists a variable, with what it lists TIED to the program's text (the seventh form; the later family's looks); each row that meets fmt, with fmt's text TOLD by the authors' own Lean function (tested against real Go, not proved from fmt's source: count such statements apart). THE CARD IS WHAT COUNTS. Prove the row's statement (the work); the ties are given (YtbmbmcdaabhgnaaDoorTie.lean); close each card by the builder's one call (the guide's Derived/Test/ToyasCard.lean, 'card_holds'). Laid BY PROGRAM, IN A SANDBOX (cutbox-door.mjs). By AI agents, Wed Nov 11 2026. No macro, syntax, notation, axiom, sorry.
-/
import Derived.Test.YtbmbmcdaabhgnaaDoorRows
import GoSem.ClaimSeven
namespace Go.Proofs.YtbmbmcdaabhgnaaDoor
namespace Rows

/-- THE TIED CARD OF 'mordantlaw03.ShowExprs'. -/
def showExprsCard : Claim7 := { stood := { row := showExprsRow, standIns := [], harness := (true, "59f695b70a30858340096989b66551d61236fd5d2e7d7b12489bb8d1b2e4526a"), looks := false }, kinds := [], alts := [], laidByText := true, laidKinds := [.data, .data, .data], laidTests := true, laidLooks := .later }
def ShowExprsCardSaid : Prop := Claim7.holds Tryd.pinned (.plain (OpenSpec.ofChange showExprsSpec)) showExprsCard

/-- THE TIED CARD OF 'mordantlaw03.ShowTexts'. -/
def showTextsCard : Claim7 := { stood := { row := showTextsRow, standIns := [], harness := (true, "59f695b70a30858340096989b66551d61236fd5d2e7d7b12489bb8d1b2e4526a"), looks := false }, kinds := [], alts := [], laidByText := true, laidKinds := [.data, .data, .data], laidTests := true, laidLooks := .later }
def ShowTextsCardSaid : Prop := Claim7.holds Tryd.pinned (.plain (OpenSpec.ofChange showTextsSpec)) showTextsCard

/-- THE TIED CARD OF 'mordantlaw03.ShowApart'. -/
def showApartCard : Claim7 := { stood := { row := showApartRow, standIns := [], harness := (true, "59f695b70a30858340096989b66551d61236fd5d2e7d7b12489bb8d1b2e4526a"), looks := false }, kinds := [], alts := [], laidByText := true, laidKinds := [.data, .data, .data], laidTests := true, laidLooks := .later }
def ShowApartCardSaid : Prop := Claim7.holds Tryd.pinned (.plain (OpenSpec.ofChange showApartSpec)) showApartCard

/-- THE TIED CARD OF 'mordantlaw03.ShowWhole'. -/
def showWholeCard : Claim7 := { stood := { row := showWholeRow, standIns := [], harness := (true, "59f695b70a30858340096989b66551d61236fd5d2e7d7b12489bb8d1b2e4526a"), looks := false }, kinds := [], alts := [], laidByText := true, laidKinds := [.data, .data, .data], laidTests := true, laidLooks := .later }
def ShowWholeCardSaid : Prop := Claim7.holds Tryd.pinned (.plain (OpenSpec.ofChange showWholeSpec)) showWholeCard

/-- THE SECOND FORM's CARD OF 'mordantlaw03.ShowExprs'. -/
def showExprsUptoCard : Claim7 := { stood := { row := showExprsUptoRow, standIns := [], harness := (true, "59f695b70a30858340096989b66551d61236fd5d2e7d7b12489bb8d1b2e4526a"), looks := false }, kinds := [], alts := [], laidByText := true, laidKinds := [.data, .data, .data], laidTests := true, laidLooks := .later }
def ShowExprsUptoCardSaid : Prop := Claim7.holds Tryd.pinned (.plain (OpenSpec.upto showExprsSpec)) showExprsUptoCard

/-- THE SECOND FORM's CARD OF 'mordantlaw03.ShowTexts'. -/
def showTextsUptoCard : Claim7 := { stood := { row := showTextsUptoRow, standIns := [], harness := (true, "59f695b70a30858340096989b66551d61236fd5d2e7d7b12489bb8d1b2e4526a"), looks := false }, kinds := [], alts := [], laidByText := true, laidKinds := [.data, .data, .data], laidTests := true, laidLooks := .later }
def ShowTextsUptoCardSaid : Prop := Claim7.holds Tryd.pinned (.plain (OpenSpec.upto showTextsSpec)) showTextsUptoCard

/-- THE SECOND FORM's CARD OF 'mordantlaw03.ShowApart'. -/
def showApartUptoCard : Claim7 := { stood := { row := showApartUptoRow, standIns := [], harness := (true, "59f695b70a30858340096989b66551d61236fd5d2e7d7b12489bb8d1b2e4526a"), looks := false }, kinds := [], alts := [], laidByText := true, laidKinds := [.data, .data, .data], laidTests := true, laidLooks := .later }
def ShowApartUptoCardSaid : Prop := Claim7.holds Tryd.pinned (.plain (OpenSpec.upto showApartSpec)) showApartUptoCard

/-- THE SECOND FORM's CARD OF 'mordantlaw03.ShowWhole'. -/
def showWholeUptoCard : Claim7 := { stood := { row := showWholeUptoRow, standIns := [], harness := (true, "59f695b70a30858340096989b66551d61236fd5d2e7d7b12489bb8d1b2e4526a"), looks := false }, kinds := [], alts := [], laidByText := true, laidKinds := [.data, .data, .data], laidTests := true, laidLooks := .later }
def ShowWholeUptoCardSaid : Prop := Claim7.holds Tryd.pinned (.plain (OpenSpec.upto showWholeSpec)) showWholeUptoCard
end Rows
end Go.Proofs.YtbmbmcdaabhgnaaDoor
