/-
  NARROWER THAN 'FOR EVERY INPUT', by the rows' own cells (each row's printed sentence says how): ShowSizes: loops · ShowParts: loops · ShowChecks: loops.
  DERIVED. THE GIVEN ROWS OF THIS SEAT. 3 by the template 'for every input the law returns true; each argument reads behind the call as it read before'; 0 by the template 'total and deterministic' (their statements: YtbmbmcdaabhgnaaTotals.lean).
  GIVEN WITH THE SEED: the statements are not yours to turn. If you find one false, say at which input.
  Laid BY PROGRAM, IN A SANDBOX (cutbox-rows.mjs): the forced cells as the released guide's own fill.sh prints them over the translation 7947ad9b7ae394a0… (all of the seat's roots in one cut). By AI agents, Wed Nov 11 2026. No macro, syntax, notation, axiom, sorry.
-/
import Derived.Test.YtbmbmcdaabhgnaaChecked
import GoSem.Claim
import GoSem.ClaimJoined
import GoSem.ClaimMapViews
import Derived.JoinedTies
import Derived.KernelRfl
namespace Go.Proofs.Ytbmbmcdaabhgnaa
/- THE CELL 'sum', in the pinned program and in every row, IS THE sha256 OF THE DUMP (.gsa) THAT YtbmbmcdaabhgnaaProg.lean LOADS. Nothing in Lean hashes anything: it is a label: what it is worth is what the hold of that sum in a sandbox is worth. -/
noncomputable def Try.pinned : Pinned := { name := "ytbmbmcdaabhgnaa", sum := "7947ad9b7ae394a0b79ec1d77e4cb31db20152f81d0be995a15d4f2a0f9bccc4", checked := Try.checked }
namespace Rows
def none {H : Type} : Left H := { results := [], args := [] }

/-- 'mordantlaw03.ShowSizes': WHATEVER THE INPUT: true; the input reads as it did. -/
def showSizesSpec : ChangeSpec := { name := "showSizes", fn := fun _ => fun
  | [d] => { results := [.lit (.bool true)], args := [d] }
  | _ => none }
def showSizesRow : OpenClaim := { program := "ytbmbmcdaabhgnaa", sum := "7947ad9b7ae394a0b79ec1d77e4cb31db20152f81d0be995a15d4f2a0f9bccc4", func := "mordant/mordantlaw03.ShowSizes", spec := "showSizes", recurses := true, loops := true, apart := false }
def ShowSizesSaid : Prop := showSizesRow.holds Try.pinned (OpenSpec.ofChange showSizesSpec)

/-- ITS FALSE NEIGHBOUR: 'it returns false'. Refute it at one input. -/
def showSizesWrong : ChangeSpec := { name := "showSizes", fn := fun _ => fun
  | [d] => { results := [.lit (.bool false)], args := [d] }
  | _ => none }
def ShowSizesWrongFalsely : Prop := showSizesRow.holds Try.pinned (OpenSpec.ofChange showSizesWrong)

/-- 'mordantlaw03.ShowParts': WHATEVER THE INPUT: true; the input reads as it did. -/
def showPartsSpec : ChangeSpec := { name := "showParts", fn := fun _ => fun
  | [d] => { results := [.lit (.bool true)], args := [d] }
  | _ => none }
def showPartsRow : OpenClaim := { program := "ytbmbmcdaabhgnaa", sum := "7947ad9b7ae394a0b79ec1d77e4cb31db20152f81d0be995a15d4f2a0f9bccc4", func := "mordant/mordantlaw03.ShowParts", spec := "showParts", recurses := true, loops := true, apart := false }
def ShowPartsSaid : Prop := showPartsRow.holds Try.pinned (OpenSpec.ofChange showPartsSpec)

/-- ITS FALSE NEIGHBOUR: 'it returns false'. Refute it at one input. -/
def showPartsWrong : ChangeSpec := { name := "showParts", fn := fun _ => fun
  | [d] => { results := [.lit (.bool false)], args := [d] }
  | _ => none }
def ShowPartsWrongFalsely : Prop := showPartsRow.holds Try.pinned (OpenSpec.ofChange showPartsWrong)

/-- 'mordantlaw03.ShowChecks': WHATEVER THE INPUT: true; the input reads as it did. -/
def showChecksSpec : ChangeSpec := { name := "showChecks", fn := fun _ => fun
  | [d] => { results := [.lit (.bool true)], args := [d] }
  | _ => none }
def showChecksRow : OpenClaim := { program := "ytbmbmcdaabhgnaa", sum := "7947ad9b7ae394a0b79ec1d77e4cb31db20152f81d0be995a15d4f2a0f9bccc4", func := "mordant/mordantlaw03.ShowChecks", spec := "showChecks", inPlace := ["internal/bytealg.IndexByteString", "internal/bytealg.IndexString"], unfollowed := true, recurses := true, named := ["internal/bytealg.MaxLen"], loops := true, apart := false }
def ShowChecksSaid : Prop := showChecksRow.holds Try.pinned (OpenSpec.ofChange showChecksSpec)

/-- ITS FALSE NEIGHBOUR: 'it returns false'. Refute it at one input. -/
def showChecksWrong : ChangeSpec := { name := "showChecks", fn := fun _ => fun
  | [d] => { results := [.lit (.bool false)], args := [d] }
  | _ => none }
def ShowChecksWrongFalsely : Prop := showChecksRow.holds Try.pinned (OpenSpec.ofChange showChecksWrong)

/- THE SECOND FORM. 'bulk': how many values and letters a reading holds, each counted each time it is reached (what is shared counts as often as it is met; a slice's spare places count too). A statement '..UptoSaid' is the law's where the arguments, and the package variables that the reading takes, are together of bulk at most 1048576: NARROWER than '..Said'. Prove '..Said' where nothing that the law and all that it calls make is longer than what came in: it says more and counts as full. Else prove '..UptoSaid'. A law counts once. -/
mutual
def uptoBulk {H : Type} : DataW H → Nat
  | .lit (.string bytes) => bytes.length + 1
  | .lit _ => 1
  | .nil => 1
  | .ptr d => uptoBulk d + 1
  | .slice elems spare => uptoBulkAll elems + uptoBulkAll spare + 1
  | .agg parts => uptoBulkAll parts + 1
  | .iface _ d => uptoBulk d + 1
  | .map entries => uptoBulkEntries entries + 1
  | .held _ => 1
def uptoBulkAll {H : Type} : List (DataW H) → Nat
  | [] => 0
  | d :: r => uptoBulk d + uptoBulkAll r
def uptoBulkEntries {H : Type} : List (Lit × DataW H) → Nat
  | [] => 0
  | x :: r => uptoBulkEntry x + uptoBulkEntries r
def uptoBulkEntry {H : Type} : Lit × DataW H → Nat
  | (.string bytes, d) => bytes.length + uptoBulk d + 1
  | (_, d) => uptoBulk d + 1
 end
def uptoSmall : (H : Type) → List (DataW H) → Bool := fun _ ds => decide (uptoBulkAll ds ≤ 1048576)
def OpenSpec.upto (s : _root_.Go.ChangeSpec) : _root_.Go.OpenSpec := { _root_.Go.OpenSpec.ofChange s with cond := some uptoSmall }

/-- 'mordantlaw03.ShowSizes', WHERE WHAT IT READS IS OF BULK AT MOST 1048576: true; the input reads as it did. -/
def showSizesUptoRow : OpenClaim := { program := "ytbmbmcdaabhgnaa", sum := "7947ad9b7ae394a0b79ec1d77e4cb31db20152f81d0be995a15d4f2a0f9bccc4", func := "mordant/mordantlaw03.ShowSizes", spec := "showSizes", recurses := true, loops := true, apart := false, narrowed := true }
def ShowSizesUptoSaid : Prop := showSizesUptoRow.holds Try.pinned (OpenSpec.upto showSizesSpec)

/-- 'mordantlaw03.ShowParts', WHERE WHAT IT READS IS OF BULK AT MOST 1048576: true; the input reads as it did. -/
def showPartsUptoRow : OpenClaim := { program := "ytbmbmcdaabhgnaa", sum := "7947ad9b7ae394a0b79ec1d77e4cb31db20152f81d0be995a15d4f2a0f9bccc4", func := "mordant/mordantlaw03.ShowParts", spec := "showParts", recurses := true, loops := true, apart := false, narrowed := true }
def ShowPartsUptoSaid : Prop := showPartsUptoRow.holds Try.pinned (OpenSpec.upto showPartsSpec)

/-- 'mordantlaw03.ShowChecks', WHERE WHAT IT READS IS OF BULK AT MOST 1048576: true; the input reads as it did. -/
def showChecksUptoRow : OpenClaim := { program := "ytbmbmcdaabhgnaa", sum := "7947ad9b7ae394a0b79ec1d77e4cb31db20152f81d0be995a15d4f2a0f9bccc4", func := "mordant/mordantlaw03.ShowChecks", spec := "showChecks", inPlace := ["internal/bytealg.IndexByteString", "internal/bytealg.IndexString"], unfollowed := true, recurses := true, named := ["internal/bytealg.MaxLen"], loops := true, apart := false, narrowed := true }
def ShowChecksUptoSaid : Prop := showChecksUptoRow.holds Try.pinned (OpenSpec.upto showChecksSpec)

end Rows
end Go.Proofs.Ytbmbmcdaabhgnaa
