/-
  No cell of these rows narrows 'for every input' (looked for: loops, veiled, ifaces, maps, wideKeys, modest, calm, conditions, laid).
  DERIVED. THE GIVEN ROWS OF THIS SEAT. 4 by the template 'for every input the law returns true; each argument reads behind the call as it read before'; 0 by the template 'total and deterministic' (their statements: YtapdapidnnkpmaaTotals.lean).
  GIVEN WITH THE SEED: the statements are not yours to turn. If you find one false, say at which input.
  Laid BY PROGRAM, IN A SANDBOX (cutbox-rows.mjs): the forced cells as the released guide's own fill.sh prints them over the translation 7e633824dc86bca1… (all of the seat's roots in one cut). By AI agents, Wed Nov 11 2026. No macro, syntax, notation, axiom, sorry.
-/
import Derived.Test.YtapdapidnnkpmaaChecked
import GoSem.Claim
import GoSem.ClaimJoined
import GoSem.ClaimMapViews
import Derived.JoinedTies
import Derived.KernelRfl
namespace Go.Proofs.Ytapdapidnnkpmaa
/- THE CELL 'sum', in the pinned program and in every row, IS THE sha256 OF THE DUMP (.gsa) THAT YtapdapidnnkpmaaProg.lean LOADS. Nothing in Lean hashes anything: it is a label: what it is worth is what the hold of that sum in a sandbox is worth. -/
noncomputable def Try.pinned : Pinned := { name := "ytapdapidnnkpmaa", sum := "7e633824dc86bca1f07b58fc4e8c0799ec266b6926b8f334505f51720be2d429", checked := Try.checked }
namespace Rows
def none {H : Type} : Left H := { results := [], args := [] }

/-- 'mordantlaw16.DomTrees': WHATEVER THE INPUT: true; the input reads as it did. -/
def domTreesSpec : ChangeSpec := { name := "domTrees", fn := fun _ => fun
  | [d1, d2, d3] => { results := [.lit (.bool true)], args := [d1, d2, d3] }
  | _ => none }
def domTreesRow : OpenClaim := { program := "ytapdapidnnkpmaa", sum := "7e633824dc86bca1f07b58fc4e8c0799ec266b6926b8f334505f51720be2d429", func := "mordant/mordantlaw16.DomTrees", spec := "domTrees", unfollowed := true, recurses := true, apart := false }
def DomTreesSaid : Prop := domTreesRow.holds Try.pinned (OpenSpec.ofChange domTreesSpec)

/-- ITS FALSE NEIGHBOUR: 'it returns false'. Refute it at one input. -/
def domTreesWrong : ChangeSpec := { name := "domTrees", fn := fun _ => fun
  | [d1, d2, d3] => { results := [.lit (.bool false)], args := [d1, d2, d3] }
  | _ => none }
def DomTreesWrongFalsely : Prop := domTreesRow.holds Try.pinned (OpenSpec.ofChange domTreesWrong)

/-- 'mordantlaw16.DomOver': WHATEVER THE INPUT: true; the input reads as it did. -/
def domOverSpec : ChangeSpec := { name := "domOver", fn := fun _ => fun
  | [d1, d2, d3] => { results := [.lit (.bool true)], args := [d1, d2, d3] }
  | _ => none }
def domOverRow : OpenClaim := { program := "ytapdapidnnkpmaa", sum := "7e633824dc86bca1f07b58fc4e8c0799ec266b6926b8f334505f51720be2d429", func := "mordant/mordantlaw16.DomOver", spec := "domOver", unfollowed := true, recurses := true, apart := false }
def DomOverSaid : Prop := domOverRow.holds Try.pinned (OpenSpec.ofChange domOverSpec)

/-- ITS FALSE NEIGHBOUR: 'it returns false'. Refute it at one input. -/
def domOverWrong : ChangeSpec := { name := "domOver", fn := fun _ => fun
  | [d1, d2, d3] => { results := [.lit (.bool false)], args := [d1, d2, d3] }
  | _ => none }
def DomOverWrongFalsely : Prop := domOverRow.holds Try.pinned (OpenSpec.ofChange domOverWrong)

/-- 'mordantlaw16.DomAll': WHATEVER THE INPUT: true; the input reads as it did. -/
def domAllSpec : ChangeSpec := { name := "domAll", fn := fun _ => fun
  | [d1, d2, d3, d4] => { results := [.lit (.bool true)], args := [d1, d2, d3, d4] }
  | _ => none }
def domAllRow : OpenClaim := { program := "ytapdapidnnkpmaa", sum := "7e633824dc86bca1f07b58fc4e8c0799ec266b6926b8f334505f51720be2d429", func := "mordant/mordantlaw16.DomAll", spec := "domAll", unfollowed := true, recurses := true, apart := false }
def DomAllSaid : Prop := domAllRow.holds Try.pinned (OpenSpec.ofChange domAllSpec)

/-- ITS FALSE NEIGHBOUR: 'it returns false'. Refute it at one input. -/
def domAllWrong : ChangeSpec := { name := "domAll", fn := fun _ => fun
  | [d1, d2, d3, d4] => { results := [.lit (.bool false)], args := [d1, d2, d3, d4] }
  | _ => none }
def DomAllWrongFalsely : Prop := domAllRow.holds Try.pinned (OpenSpec.ofChange domAllWrong)

/-- 'mordantlaw16.DomNext': WHATEVER THE INPUT: true; the input reads as it did. -/
def domNextSpec : ChangeSpec := { name := "domNext", fn := fun _ => fun
  | [d1, d2, d3, d4] => { results := [.lit (.bool true)], args := [d1, d2, d3, d4] }
  | _ => none }
def domNextRow : OpenClaim := { program := "ytapdapidnnkpmaa", sum := "7e633824dc86bca1f07b58fc4e8c0799ec266b6926b8f334505f51720be2d429", func := "mordant/mordantlaw16.DomNext", spec := "domNext", unfollowed := true, recurses := true, apart := false }
def DomNextSaid : Prop := domNextRow.holds Try.pinned (OpenSpec.ofChange domNextSpec)

/-- ITS FALSE NEIGHBOUR: 'it returns false'. Refute it at one input. -/
def domNextWrong : ChangeSpec := { name := "domNext", fn := fun _ => fun
  | [d1, d2, d3, d4] => { results := [.lit (.bool false)], args := [d1, d2, d3, d4] }
  | _ => none }
def DomNextWrongFalsely : Prop := domNextRow.holds Try.pinned (OpenSpec.ofChange domNextWrong)

/- THE SECOND FORM. 'bulk': how many values and letters a reading holds, each counted each time it is reached (what is shared counts as often as it is met; a slice's spare places count too). A statement '..UptoSaid' is the law's where the arguments, and the package variables that the reading takes, are together of bulk at most 1048576: NARROWER than '..Said'. Prove '..Said' where nothing that the law and all that it calls make is longer than what came in: it says more and counts as full. Else prove '..UptoSaid'. A law counts once. -/
mutual
def uptoBulk {H : Type} : DataW H → Nat
  | .lit (.string bytes) => bytes.length + 1
  | .lit _ => 1
  | .nil => 1
  | .ptr d => uptoBulk d + 1
  | .slice elems spare => uptoBulkAll elems + uptoBulkAll spare + 1
  | .agg parts => uptoBulkAll parts + 1
  | .iface _ d => uptoBulk d + 1
  | .map entries => uptoBulkEntries entries + 1
  | .held _ => 1
def uptoBulkAll {H : Type} : List (DataW H) → Nat
  | [] => 0
  | d :: r => uptoBulk d + uptoBulkAll r
def uptoBulkEntries {H : Type} : List (Lit × DataW H) → Nat
  | [] => 0
  | x :: r => uptoBulkEntry x + uptoBulkEntries r
def uptoBulkEntry {H : Type} : Lit × DataW H → Nat
  | (.string bytes, d) => bytes.length + uptoBulk d + 1
  | (_, d) => uptoBulk d + 1
 end
def uptoSmall : (H : Type) → List (DataW H) → Bool := fun _ ds => decide (uptoBulkAll ds ≤ 1048576)
def OpenSpec.upto (s : _root_.Go.ChangeSpec) : _root_.Go.OpenSpec := { _root_.Go.OpenSpec.ofChange s with cond := some uptoSmall }

/-- 'mordantlaw16.DomTrees', WHERE WHAT IT READS IS OF BULK AT MOST 1048576: true; the input reads as it did. -/
def domTreesUptoRow : OpenClaim := { program := "ytapdapidnnkpmaa", sum := "7e633824dc86bca1f07b58fc4e8c0799ec266b6926b8f334505f51720be2d429", func := "mordant/mordantlaw16.DomTrees", spec := "domTrees", unfollowed := true, recurses := true, apart := false, narrowed := true }
def DomTreesUptoSaid : Prop := domTreesUptoRow.holds Try.pinned (OpenSpec.upto domTreesSpec)

/-- 'mordantlaw16.DomOver', WHERE WHAT IT READS IS OF BULK AT MOST 1048576: true; the input reads as it did. -/
def domOverUptoRow : OpenClaim := { program := "ytapdapidnnkpmaa", sum := "7e633824dc86bca1f07b58fc4e8c0799ec266b6926b8f334505f51720be2d429", func := "mordant/mordantlaw16.DomOver", spec := "domOver", unfollowed := true, recurses := true, apart := false, narrowed := true }
def DomOverUptoSaid : Prop := domOverUptoRow.holds Try.pinned (OpenSpec.upto domOverSpec)

/-- 'mordantlaw16.DomAll', WHERE WHAT IT READS IS OF BULK AT MOST 1048576: true; the input reads as it did. -/
def domAllUptoRow : OpenClaim := { program := "ytapdapidnnkpmaa", sum := "7e633824dc86bca1f07b58fc4e8c0799ec266b6926b8f334505f51720be2d429", func := "mordant/mordantlaw16.DomAll", spec := "domAll", unfollowed := true, recurses := true, apart := false, narrowed := true }
def DomAllUptoSaid : Prop := domAllUptoRow.holds Try.pinned (OpenSpec.upto domAllSpec)

/-- 'mordantlaw16.DomNext', WHERE WHAT IT READS IS OF BULK AT MOST 1048576: true; the input reads as it did. -/
def domNextUptoRow : OpenClaim := { program := "ytapdapidnnkpmaa", sum := "7e633824dc86bca1f07b58fc4e8c0799ec266b6926b8f334505f51720be2d429", func := "mordant/mordantlaw16.DomNext", spec := "domNext", unfollowed := true, recurses := true, apart := false, narrowed := true }
def DomNextUptoSaid : Prop := domNextUptoRow.holds Try.pinned (OpenSpec.upto domNextSpec)

end Rows
end Go.Proofs.Ytapdapidnnkpmaa
