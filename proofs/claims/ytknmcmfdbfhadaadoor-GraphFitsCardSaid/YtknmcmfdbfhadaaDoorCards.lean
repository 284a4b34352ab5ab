/-
  DERIVED. GIVEN WITH THE SEED: THE CARDS: each row of YtknmcmfdbfhadaaDoorRows.lean that lists a variable, with what it lists TIED to the program's text (the seventh form; the later family's looks); each row that meets fmt, with fmt's text TOLD by the authors' own Lean function (tested against real Go, not proved from fmt's source: count such statements apart). THE CARD IS WHAT COUNTS. Prove the row's statement (the work); the ties are given (YtknmcmfdbfhadaaDoorTie.lean); close each card by the builder's one call (the guide's Derived/Test/ToyasCard.lean, 'card_holds'). Laid BY PROGRAM, IN A SANDBOX (cutbox-door.mjs). By AI agents, Wed Nov 11 2026. No macro, syntax, notation, axiom, sorry.
-/
import Derived.Test.YtknmcmfdbfhadaaDoorRows
import GoSem.ClaimSeven
namespace Go.Proofs.YtknmcmfdbfhadaaDoor
namespace Rows

/-- THE TIED CARD OF 'mordantlaw15.GraphChecks'. -/
def graphChecksCard : Claim7 := { stood := { row := graphChecksRow, standIns := [], harness := (true, "b59deeafe2f277c21a64f43dacbdb5873a907ebc11217d56e3bfea30f7d052e2"), looks := false }, kinds := [], alts := [], laidByText := true, laidKinds := [.data], laidTests := true, laidLooks := .later }
def GraphChecksCardSaid : Prop := Claim7.holds Tryd.pinned (.plain (OpenSpec.ofChange graphChecksSpec)) graphChecksCard

/-- THE TIED CARD OF 'mordantlaw15.GraphReaches'. -/
def graphReachesCard : Claim7 := { stood := { row := graphReachesRow, standIns := [], harness := (true, "b59deeafe2f277c21a64f43dacbdb5873a907ebc11217d56e3bfea30f7d052e2"), looks := false }, kinds := [], alts := [], laidByText := true, laidKinds := [.data], laidTests := true, laidLooks := .later }
def GraphReachesCardSaid : Prop := Claim7.holds Tryd.pinned (.plain (OpenSpec.ofChange graphReachesSpec)) graphReachesCard

/-- THE TIED CARD OF 'mordantlaw15.GraphParts'. -/
def graphPartsCard : Claim7 := { stood := { row := graphPartsRow, standIns := [], harness := (true, "b59deeafe2f277c21a64f43dacbdb5873a907ebc11217d56e3bfea30f7d052e2"), looks := false }, kinds := [], alts := [], laidByText := true, laidKinds := [.data], laidTests := true, laidLooks := .later }
def GraphPartsCardSaid : Prop := Claim7.holds Tryd.pinned (.plain (OpenSpec.ofChange graphPartsSpec)) graphPartsCard

/-- THE TIED CARD OF 'mordantlaw15.GraphPaths'. -/
def graphPathsCard : Claim7 := { stood := { row := graphPathsRow, standIns := [], harness := (true, "b59deeafe2f277c21a64f43dacbdb5873a907ebc11217d56e3bfea30f7d052e2"), looks := false }, kinds := [], alts := [], laidByText := true, laidKinds := [.data], laidTests := true, laidLooks := .later }
def GraphPathsCardSaid : Prop := Claim7.holds Tryd.pinned (.plain (OpenSpec.ofChange graphPathsSpec)) graphPathsCard

/-- THE TIED CARD OF 'mordantlaw15.GraphFits'. -/
def graphFitsCard : Claim7 := { stood := { row := graphFitsRow, standIns := [], harness := (true, "b59deeafe2f277c21a64f43dacbdb5873a907ebc11217d56e3bfea30f7d052e2"), looks := false }, kinds := [], alts := [], laidByText := true, laidKinds := [.data], laidTests := true, laidLooks := .later }
def GraphFitsCardSaid : Prop := Claim7.holds Tryd.pinned (.plain (OpenSpec.ofChange graphFitsSpec)) graphFitsCard

/-- THE TIED CARD OF 'mordantlaw15.GraphMore'. -/
def graphMoreCard : Claim7 := { stood := { row := graphMoreRow, standIns := [], harness := (true, "b59deeafe2f277c21a64f43dacbdb5873a907ebc11217d56e3bfea30f7d052e2"), looks := false }, kinds := [], alts := [], laidByText := true, laidKinds := [.data], laidTests := true, laidLooks := .later }
def GraphMoreCardSaid : Prop := Claim7.holds Tryd.pinned (.plain (OpenSpec.ofChange graphMoreSpec)) graphMoreCard

/-- THE TIED CARD OF 'mordantlaw15.GraphShort'. -/
def graphShortCard : Claim7 := { stood := { row := graphShortRow, standIns := [], harness := (true, "b59deeafe2f277c21a64f43dacbdb5873a907ebc11217d56e3bfea30f7d052e2"), looks := false }, kinds := [], alts := [], laidByText := true, laidKinds := [.data], laidTests := true, laidLooks := .later }
def GraphShortCardSaid : Prop := Claim7.holds Tryd.pinned (.plain (OpenSpec.ofChange graphShortSpec)) graphShortCard

/-- THE SECOND FORM's CARD OF 'mordantlaw15.GraphChecks'. -/
def graphChecksUptoCard : Claim7 := { stood := { row := graphChecksUptoRow, standIns := [], harness := (true, "b59deeafe2f277c21a64f43dacbdb5873a907ebc11217d56e3bfea30f7d052e2"), looks := false }, kinds := [], alts := [], laidByText := true, laidKinds := [.data], laidTests := true, laidLooks := .later }
def GraphChecksUptoCardSaid : Prop := Claim7.holds Tryd.pinned (.plain (OpenSpec.upto graphChecksSpec)) graphChecksUptoCard

/-- THE SECOND FORM's CARD OF 'mordantlaw15.GraphReaches'. -/
def graphReachesUptoCard : Claim7 := { stood := { row := graphReachesUptoRow, standIns := [], harness := (true, "b59deeafe2f277c21a64f43dacbdb5873a907ebc11217d56e3bfea30f7d052e2"), looks := false }, kinds := [], alts := [], laidByText := true, laidKinds := [.data], laidTests := true, laidLooks := .later }
def GraphReachesUptoCardSaid : Prop := Claim7.holds Tryd.pinned (.plain (OpenSpec.upto graphReachesSpec)) graphReachesUptoCard

/-- THE SECOND FORM's CARD OF 'mordantlaw15.GraphParts'. -/
def graphPartsUptoCard : Claim7 := { stood := { row := graphPartsUptoRow, standIns := [], harness := (true, "b59deeafe2f277c21a64f43dacbdb5873a907ebc11217d56e3bfea30f7d052e2"), looks := false }, kinds := [], alts := [], laidByText := true, laidKinds := [.data], laidTests := true, laidLooks := .later }
def GraphPartsUptoCardSaid : Prop := Claim7.holds Tryd.pinned (.plain (OpenSpec.upto graphPartsSpec)) graphPartsUptoCard

/-- THE SECOND FORM's CARD OF 'mordantlaw15.GraphPaths'. -/
def graphPathsUptoCard : Claim7 := { stood := { row := graphPathsUptoRow, standIns := [], harness := (true, "b59deeafe2f277c21a64f43dacbdb5873a907ebc11217d56e3bfea30f7d052e2"), looks := false }, kinds := [], alts := [], laidByText := true, laidKinds := [.data], laidTests := true, laidLooks := .later }
def GraphPathsUptoCardSaid : Prop := Claim7.holds Tryd.pinned (.plain (OpenSpec.upto graphPathsSpec)) graphPathsUptoCard

/-- THE SECOND FORM's CARD OF 'mordantlaw15.GraphFits'. -/
def graphFitsUptoCard : Claim7 := { stood := { row := graphFitsUptoRow, standIns := [], harness := (true, "b59deeafe2f277c21a64f43dacbdb5873a907ebc11217d56e3bfea30f7d052e2"), looks := false }, kinds := [], alts := [], laidByText := true, laidKinds := [.data], laidTests := true, laidLooks := .later }
def GraphFitsUptoCardSaid : Prop := Claim7.holds Tryd.pinned (.plain (OpenSpec.upto graphFitsSpec)) graphFitsUptoCard

/-- THE SECOND FORM's CARD OF 'mordantlaw15.GraphMore'. -/
def graphMoreUptoCard : Claim7 := { stood := { row := graphMoreUptoRow, standIns := [], harness := (true, "b59deeafe2f277c21a64f43dacbdb5873a907ebc11217d56e3bfea30f7d052e2"), looks := false }, kinds := [], alts := [], laidByText := true, laidKinds := [.data], laidTests := true, laidLooks := .later }
def GraphMoreUptoCardSaid : Prop := Claim7.holds Tryd.pinned (.plain (OpenSpec.upto graphMoreSpec)) graphMoreUptoCard

/-- THE SECOND FORM's CARD OF 'mordantlaw15.GraphShort'. -/
def graphShortUptoCard : Claim7 := { stood := { row := graphShortUptoRow, standIns := [], harness := (true, "b59deeafe2f277c21a64f43dacbdb5873a907ebc11217d56e3bfea30f7d052e2"), looks := false }, kinds := [], alts := [], laidByText := true, laidKinds := [.data], laidTests := true, laidLooks := .later }
def GraphShortUptoCardSaid : Prop := Claim7.holds Tryd.pinned (.plain (OpenSpec.upto graphShortSpec)) graphShortUptoCard
end Rows
end Go.Proofs.YtknmcmfdbfhadaaDoor
