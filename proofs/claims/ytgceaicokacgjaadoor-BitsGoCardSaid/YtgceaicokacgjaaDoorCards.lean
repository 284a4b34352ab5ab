/-
  DERIVED. GIVEN WITH THE SEED: THE CARDS: each row of YtgceaicokacgjaaDoorRows.lean that lists a variable, with what it lists TIED to the program's text (the seventh form; the later family's looks); each row that meets fmt, with fmt's text TOLD by the authors' own Lean function (tested against real Go, not proved from fmt's source: count such statements apart). THE CARD IS WHAT COUNTS. Prove the row's statement (the work); the ties are given (YtgceaicokacgjaaDoorTie.lean); close each card by the builder's one call (the guide's Derived/Test/ToyasCard.lean, 'card_holds'). Laid BY PROGRAM, IN A SANDBOX (cutbox-door.mjs). By AI agents, Wed Nov 11 2026. No macro, syntax, notation, axiom, sorry.
-/
import Derived.Test.YtgceaicokacgjaaDoorRows
import GoSem.ClaimSeven
namespace Go.Proofs.YtgceaicokacgjaaDoor
namespace Rows

/-- THE TIED CARD OF 'mordantlaw14.BitsBack'. -/
def bitsBackCard : Claim7 := { stood := { row := bitsBackRow, standIns := [], harness := (true, "abbdba36500240571bfec77bfcb11d8bf735175bf70fa3500d09cbaabed90551"), looks := false }, kinds := [], alts := [], laidByText := true, laidKinds := [.data], laidTests := true, laidLooks := .later }
def BitsBackCardSaid : Prop := Claim7.holds Tryd.pinned (.plain (OpenSpec.ofChange bitsBackSpec)) bitsBackCard

/-- THE TIED CARD OF 'mordantlaw14.BitsLattice'. -/
def bitsLatticeCard : Claim7 := { stood := { row := bitsLatticeRow, standIns := [], harness := (true, "abbdba36500240571bfec77bfcb11d8bf735175bf70fa3500d09cbaabed90551"), looks := false }, kinds := [], alts := [], laidByText := true, laidKinds := [.data], laidTests := true, laidLooks := .later }
def BitsLatticeCardSaid : Prop := Claim7.holds Tryd.pinned (.plain (OpenSpec.ofChange bitsLatticeSpec)) bitsLatticeCard

/-- THE TIED CARD OF 'mordantlaw14.BitsGo'. -/
def bitsGoCard : Claim7 := { stood := { row := bitsGoRow, standIns := [], harness := (true, "abbdba36500240571bfec77bfcb11d8bf735175bf70fa3500d09cbaabed90551"), looks := false }, kinds := [], alts := [], laidByText := true, laidKinds := [.data], laidTests := true, laidLooks := .later }
def BitsGoCardSaid : Prop := Claim7.holds Tryd.pinned (.plain (OpenSpec.ofChange bitsGoSpec)) bitsGoCard

/-- THE SECOND FORM's CARD OF 'mordantlaw14.BitsBack'. -/
def bitsBackUptoCard : Claim7 := { stood := { row := bitsBackUptoRow, standIns := [], harness := (true, "abbdba36500240571bfec77bfcb11d8bf735175bf70fa3500d09cbaabed90551"), looks := false }, kinds := [], alts := [], laidByText := true, laidKinds := [.data], laidTests := true, laidLooks := .later }
def BitsBackUptoCardSaid : Prop := Claim7.holds Tryd.pinned (.plain (OpenSpec.upto bitsBackSpec)) bitsBackUptoCard

/-- THE SECOND FORM's CARD OF 'mordantlaw14.BitsLattice'. -/
def bitsLatticeUptoCard : Claim7 := { stood := { row := bitsLatticeUptoRow, standIns := [], harness := (true, "abbdba36500240571bfec77bfcb11d8bf735175bf70fa3500d09cbaabed90551"), looks := false }, kinds := [], alts := [], laidByText := true, laidKinds := [.data], laidTests := true, laidLooks := .later }
def BitsLatticeUptoCardSaid : Prop := Claim7.holds Tryd.pinned (.plain (OpenSpec.upto bitsLatticeSpec)) bitsLatticeUptoCard

/-- THE SECOND FORM's CARD OF 'mordantlaw14.BitsGo'. -/
def bitsGoUptoCard : Claim7 := { stood := { row := bitsGoUptoRow, standIns := [], harness := (true, "abbdba36500240571bfec77bfcb11d8bf735175bf70fa3500d09cbaabed90551"), looks := false }, kinds := [], alts := [], laidByText := true, laidKinds := [.data], laidTests := true, laidLooks := .later }
def BitsGoUptoCardSaid : Prop := Claim7.holds Tryd.pinned (.plain (OpenSpec.upto bitsGoSpec)) bitsGoUptoCard
end Rows
end Go.Proofs.YtgceaicokacgjaaDoor
