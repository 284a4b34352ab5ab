/-
  DERIVED. GIVEN WITH THE SEED: THE CARDS: each row of YtnmfbaahabcocaaDoorRows.lean that lists a variable, with what it lists TIED to the program's text (the seventh form; the later family's looks); each row that meets fmt, with fmt's text TOLD by the authors' own Lean function (tested against real Go, not proved from fmt's source: count such statements apart). THE CARD IS WHAT COUNTS. Prove the row's statement (the work); the ties are given (YtnmfbaahabcocaaDoorTie.lean); close each card by the builder's one call (the guide's Derived/Test/ToyasCard.lean, 'card_holds'). Laid BY PROGRAM, IN A SANDBOX (cutbox-door.mjs). By AI agents, Wed Nov 11 2026. No macro, syntax, notation, axiom, sorry.
-/
import Derived.Test.YtnmfbaahabcocaaDoorRows
import GoSem.ClaimSeven
namespace Go.Proofs.YtnmfbaahabcocaaDoor
namespace Rows

/-- THE TIED CARD OF 'mordantlaw17.ControlPosts'. -/
def controlPostsCard : Claim7 := { stood := { row := controlPostsRow, standIns := [], harness := (true, "1c9e333ad05b529dfa36c948acfa4dd06b5a8dc68a2607601ec9d7d5ebbecb59"), looks := false }, kinds := [], alts := [], laidByText := true, laidKinds := [.data], laidTests := true, laidLooks := .later }
def ControlPostsCardSaid : Prop := Claim7.holds Tryd.pinned (.plain (OpenSpec.ofChange controlPostsSpec)) controlPostsCard

/-- THE TIED CARD OF 'mordantlaw17.ControlHangs'. -/
def controlHangsCard : Claim7 := { stood := { row := controlHangsRow, standIns := [], harness := (true, "1c9e333ad05b529dfa36c948acfa4dd06b5a8dc68a2607601ec9d7d5ebbecb59"), looks := false }, kinds := [], alts := [], laidByText := true, laidKinds := [.data], laidTests := true, laidLooks := .later }
def ControlHangsCardSaid : Prop := Claim7.holds Tryd.pinned (.plain (OpenSpec.ofChange controlHangsSpec)) controlHangsCard

/-- THE TIED CARD OF 'mordantlaw17.ControlFixed'. -/
def controlFixedCard : Claim7 := { stood := { row := controlFixedRow, standIns := [], harness := (true, "1c9e333ad05b529dfa36c948acfa4dd06b5a8dc68a2607601ec9d7d5ebbecb59"), looks := false }, kinds := [], alts := [], laidByText := true, laidKinds := [.data], laidTests := true, laidLooks := .later }
def ControlFixedCardSaid : Prop := Claim7.holds Tryd.pinned (.plain (OpenSpec.ofChange controlFixedSpec)) controlFixedCard

/-- THE SECOND FORM's CARD OF 'mordantlaw17.ControlPosts'. -/
def controlPostsUptoCard : Claim7 := { stood := { row := controlPostsUptoRow, standIns := [], harness := (true, "1c9e333ad05b529dfa36c948acfa4dd06b5a8dc68a2607601ec9d7d5ebbecb59"), looks := false }, kinds := [], alts := [], laidByText := true, laidKinds := [.data], laidTests := true, laidLooks := .later }
def ControlPostsUptoCardSaid : Prop := Claim7.holds Tryd.pinned (.plain (OpenSpec.upto controlPostsSpec)) controlPostsUptoCard

/-- THE SECOND FORM's CARD OF 'mordantlaw17.ControlHangs'. -/
def controlHangsUptoCard : Claim7 := { stood := { row := controlHangsUptoRow, standIns := [], harness := (true, "1c9e333ad05b529dfa36c948acfa4dd06b5a8dc68a2607601ec9d7d5ebbecb59"), looks := false }, kinds := [], alts := [], laidByText := true, laidKinds := [.data], laidTests := true, laidLooks := .later }
def ControlHangsUptoCardSaid : Prop := Claim7.holds Tryd.pinned (.plain (OpenSpec.upto controlHangsSpec)) controlHangsUptoCard

/-- THE SECOND FORM's CARD OF 'mordantlaw17.ControlFixed'. -/
def controlFixedUptoCard : Claim7 := { stood := { row := controlFixedUptoRow, standIns := [], harness := (true, "1c9e333ad05b529dfa36c948acfa4dd06b5a8dc68a2607601ec9d7d5ebbecb59"), looks := false }, kinds := [], alts := [], laidByText := true, laidKinds := [.data], laidTests := true, laidLooks := .later }
def ControlFixedUptoCardSaid : Prop := Claim7.holds Tryd.pinned (.plain (OpenSpec.upto controlFixedSpec)) controlFixedUptoCard
end Rows
end Go.Proofs.YtnmfbaahabcocaaDoor
