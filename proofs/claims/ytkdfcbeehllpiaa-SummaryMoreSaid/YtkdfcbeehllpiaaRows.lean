/-
  No cell of these rows narrows 'for every input' (looked for: loops, veiled, ifaces, maps, wideKeys, modest, calm, conditions, laid).
  DERIVED. THE GIVEN ROWS OF THIS SEAT. 3 by the template 'for every input the law returns true; each argument reads behind the call as it read before'; 0 by the template 'total and deterministic' (their statements: YtkdfcbeehllpiaaTotals.lean).
  GIVEN WITH THE SEED: the statements are not yours to turn. If you find one false, say at which input.
  Laid BY PROGRAM, IN A SANDBOX (cutbox-rows.mjs): the forced cells as the released guide's own fill.sh prints them over the translation 1ad6670ded1802b1… (all of the seat's roots in one cut). By AI agents, Wed Nov 11 2026. No macro, syntax, notation, axiom, sorry.
-/
import Derived.Test.YtkdfcbeehllpiaaChecked
import GoSem.Claim
import GoSem.ClaimJoined
import GoSem.ClaimMapViews
import Derived.JoinedTies
import Derived.KernelRfl
namespace Go.Proofs.Ytkdfcbeehllpiaa
/- THE CELL 'sum', in the pinned program and in every row, IS THE sha256 OF THE DUMP (.gsa) THAT YtkdfcbeehllpiaaProg.lean LOADS. Nothing in Lean hashes anything: it is a label: what it is worth is what the hold of that sum in a sandbox is worth. -/
noncomputable def Try.pinned : Pinned := { name := "ytkdfcbeehllpiaa", sum := "1ad6670ded1802b1a6f5c5d08e76de29d6f7eef7be1487d46bcc095257ab9e7f", checked := Try.checked }
namespace Rows
def none {H : Type} : Left H := { results := [], args := [] }

/-- 'mordantlaw23.SummaryEdges': WHATEVER THE INPUT: true; the input reads as it did. -/
def summaryEdgesSpec : ChangeSpec := { name := "summaryEdges", fn := fun _ => fun
  | [d1, d2] => { results := [.lit (.bool true)], args := [d1, d2] }
  | _ => none }
def summaryEdgesRow : OpenClaim := { program := "ytkdfcbeehllpiaa", sum := "1ad6670ded1802b1a6f5c5d08e76de29d6f7eef7be1487d46bcc095257ab9e7f", func := "mordant/mordantlaw23.SummaryEdges", spec := "summaryEdges", unfollowed := true, recurses := true, plainKeys := false, apart := false }
def SummaryEdgesSaid : Prop := summaryEdgesRow.holds Try.pinned (OpenSpec.ofChange summaryEdgesSpec)

/-- ITS FALSE NEIGHBOUR: 'it returns false'. Refute it at one input. -/
def summaryEdgesWrong : ChangeSpec := { name := "summaryEdges", fn := fun _ => fun
  | [d1, d2] => { results := [.lit (.bool false)], args := [d1, d2] }
  | _ => none }
def SummaryEdgesWrongFalsely : Prop := summaryEdgesRow.holds Try.pinned (OpenSpec.ofChange summaryEdgesWrong)

/-- 'mordantlaw23.SummaryWhole': WHATEVER THE INPUT: true; the input reads as it did. -/
def summaryWholeSpec : ChangeSpec := { name := "summaryWhole", fn := fun _ => fun
  | [d1, d2] => { results := [.lit (.bool true)], args := [d1, d2] }
  | _ => none }
def summaryWholeRow : OpenClaim := { program := "ytkdfcbeehllpiaa", sum := "1ad6670ded1802b1a6f5c5d08e76de29d6f7eef7be1487d46bcc095257ab9e7f", func := "mordant/mordantlaw23.SummaryWhole", spec := "summaryWhole", unfollowed := true, recurses := true, plainKeys := false, apart := false }
def SummaryWholeSaid : Prop := summaryWholeRow.holds Try.pinned (OpenSpec.ofChange summaryWholeSpec)

/-- ITS FALSE NEIGHBOUR: 'it returns false'. Refute it at one input. -/
def summaryWholeWrong : ChangeSpec := { name := "summaryWhole", fn := fun _ => fun
  | [d1, d2] => { results := [.lit (.bool false)], args := [d1, d2] }
  | _ => none }
def SummaryWholeWrongFalsely : Prop := summaryWholeRow.holds Try.pinned (OpenSpec.ofChange summaryWholeWrong)

/-- 'mordantlaw23.SummaryMore': WHATEVER THE INPUT: true; the input reads as it did. -/
def summaryMoreSpec : ChangeSpec := { name := "summaryMore", fn := fun _ => fun
  | [d1, d2, d3] => { results := [.lit (.bool true)], args := [d1, d2, d3] }
  | _ => none }
def summaryMoreRow : OpenClaim := { program := "ytkdfcbeehllpiaa", sum := "1ad6670ded1802b1a6f5c5d08e76de29d6f7eef7be1487d46bcc095257ab9e7f", func := "mordant/mordantlaw23.SummaryMore", spec := "summaryMore", unfollowed := true, recurses := true, plainKeys := false, apart := false }
def SummaryMoreSaid : Prop := summaryMoreRow.holds Try.pinned (OpenSpec.ofChange summaryMoreSpec)

/-- ITS FALSE NEIGHBOUR: 'it returns false'. Refute it at one input. -/
def summaryMoreWrong : ChangeSpec := { name := "summaryMore", fn := fun _ => fun
  | [d1, d2, d3] => { results := [.lit (.bool false)], args := [d1, d2, d3] }
  | _ => none }
def SummaryMoreWrongFalsely : Prop := summaryMoreRow.holds Try.pinned (OpenSpec.ofChange summaryMoreWrong)

/- THE SECOND FORM. 'bulk': how many values and letters a reading holds, each counted each time it is reached (what is shared counts as often as it is met; a slice's spare places count too). A statement '..UptoSaid' is the law's where the arguments, and the package variables that the reading takes, are together of bulk at most 1048576: NARROWER than '..Said'. Prove '..Said' where nothing that the law and all that it calls make is longer than what came in: it says more and counts as full. Else prove '..UptoSaid'. A law counts once. -/
mutual
def uptoBulk {H : Type} : DataW H → Nat
  | .lit (.string bytes) => bytes.length + 1
  | .lit _ => 1
  | .nil => 1
  | .ptr d => uptoBulk d + 1
  | .slice elems spare => uptoBulkAll elems + uptoBulkAll spare + 1
  | .agg parts => uptoBulkAll parts + 1
  | .iface _ d => uptoBulk d + 1
  | .map entries => uptoBulkEntries entries + 1
  | .held _ => 1
def uptoBulkAll {H : Type} : List (DataW H) → Nat
  | [] => 0
  | d :: r => uptoBulk d + uptoBulkAll r
def uptoBulkEntries {H : Type} : List (Lit × DataW H) → Nat
  | [] => 0
  | x :: r => uptoBulkEntry x + uptoBulkEntries r
def uptoBulkEntry {H : Type} : Lit × DataW H → Nat
  | (.string bytes, d) => bytes.length + uptoBulk d + 1
  | (_, d) => uptoBulk d + 1
 end
def uptoSmall : (H : Type) → List (DataW H) → Bool := fun _ ds => decide (uptoBulkAll ds ≤ 1048576)
def OpenSpec.upto (s : _root_.Go.ChangeSpec) : _root_.Go.OpenSpec := { _root_.Go.OpenSpec.ofChange s with cond := some uptoSmall }

/-- 'mordantlaw23.SummaryEdges', WHERE WHAT IT READS IS OF BULK AT MOST 1048576: true; the input reads as it did. -/
def summaryEdgesUptoRow : OpenClaim := { program := "ytkdfcbeehllpiaa", sum := "1ad6670ded1802b1a6f5c5d08e76de29d6f7eef7be1487d46bcc095257ab9e7f", func := "mordant/mordantlaw23.SummaryEdges", spec := "summaryEdges", unfollowed := true, recurses := true, plainKeys := false, apart := false, narrowed := true }
def SummaryEdgesUptoSaid : Prop := summaryEdgesUptoRow.holds Try.pinned (OpenSpec.upto summaryEdgesSpec)

/-- 'mordantlaw23.SummaryWhole', WHERE WHAT IT READS IS OF BULK AT MOST 1048576: true; the input reads as it did. -/
def summaryWholeUptoRow : OpenClaim := { program := "ytkdfcbeehllpiaa", sum := "1ad6670ded1802b1a6f5c5d08e76de29d6f7eef7be1487d46bcc095257ab9e7f", func := "mordant/mordantlaw23.SummaryWhole", spec := "summaryWhole", unfollowed := true, recurses := true, plainKeys := false, apart := false, narrowed := true }
def SummaryWholeUptoSaid : Prop := summaryWholeUptoRow.holds Try.pinned (OpenSpec.upto summaryWholeSpec)

/-- 'mordantlaw23.SummaryMore', WHERE WHAT IT READS IS OF BULK AT MOST 1048576: true; the input reads as it did. -/
def summaryMoreUptoRow : OpenClaim := { program := "ytkdfcbeehllpiaa", sum := "1ad6670ded1802b1a6f5c5d08e76de29d6f7eef7be1487d46bcc095257ab9e7f", func := "mordant/mordantlaw23.SummaryMore", spec := "summaryMore", unfollowed := true, recurses := true, plainKeys := false, apart := false, narrowed := true }
def SummaryMoreUptoSaid : Prop := summaryMoreUptoRow.holds Try.pinned (OpenSpec.upto summaryMoreSpec)

end Rows
end Go.Proofs.Ytkdfcbeehllpiaa
