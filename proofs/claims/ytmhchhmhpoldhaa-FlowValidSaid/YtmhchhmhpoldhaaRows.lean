/-
  No cell of these rows narrows 'for every input' (looked for: loops, veiled, ifaces, maps, wideKeys, modest, calm, conditions, laid).
  DERIVED. THE GIVEN ROWS OF THIS SEAT. 6 by the template 'for every input the law returns true; each argument reads behind the call as it read before'; 0 by the template 'total and deterministic' (their statements: YtmhchhmhpoldhaaTotals.lean).
  GIVEN WITH THE SEED: the statements are not yours to turn. If you find one false, say at which input.
  Laid BY PROGRAM, IN A SANDBOX (cutbox-rows.mjs): the forced cells as the released guide's own fill.sh prints them over the translation d421baa749b29fb9… (all of the seat's roots in one cut). By AI agents, Wed Nov 11 2026. No macro, syntax, notation, axiom, sorry.
-/
import Derived.Test.YtmhchhmhpoldhaaChecked
import GoSem.Claim
import GoSem.ClaimJoined
import GoSem.ClaimMapViews
import Derived.JoinedTies
import Derived.KernelRfl
namespace Go.Proofs.Ytmhchhmhpoldhaa
/- THE CELL 'sum', in the pinned program and in every row, IS THE sha256 OF THE DUMP (.gsa) THAT YtmhchhmhpoldhaaProg.lean LOADS. Nothing in Lean hashes anything: it is a label: what it is worth is what the hold of that sum in a sandbox is worth. -/
noncomputable def Try.pinned : Pinned := { name := "ytmhchhmhpoldhaa", sum := "d421baa749b29fb99fb079c3d2536ea77ad0a6258c5ab4330dc6a6454ad307dc", checked := Try.checked }
namespace Rows
def none {H : Type} : Left H := { results := [], args := [] }

/-- 'mordantlaw24.FlowReaches': WHATEVER THE INPUT: true; the input reads as it did. -/
def flowReachesSpec : ChangeSpec := { name := "flowReaches", fn := fun _ => fun
  | [d1, d2, d3] => { results := [.lit (.bool true)], args := [d1, d2, d3] }
  | _ => none }
def flowReachesRow : OpenClaim := { program := "ytmhchhmhpoldhaa", sum := "d421baa749b29fb99fb079c3d2536ea77ad0a6258c5ab4330dc6a6454ad307dc", func := "mordant/mordantlaw24.FlowReaches", spec := "flowReaches", unfollowed := true, recurses := true, plainKeys := false, apart := false }
def FlowReachesSaid : Prop := flowReachesRow.holds Try.pinned (OpenSpec.ofChange flowReachesSpec)

/-- ITS FALSE NEIGHBOUR: 'it returns false'. Refute it at one input. -/
def flowReachesWrong : ChangeSpec := { name := "flowReaches", fn := fun _ => fun
  | [d1, d2, d3] => { results := [.lit (.bool false)], args := [d1, d2, d3] }
  | _ => none }
def FlowReachesWrongFalsely : Prop := flowReachesRow.holds Try.pinned (OpenSpec.ofChange flowReachesWrong)

/-- 'mordantlaw24.FlowPaths': WHATEVER THE INPUT: true; the input reads as it did. -/
def flowPathsSpec : ChangeSpec := { name := "flowPaths", fn := fun _ => fun
  | [d1, d2, d3, d4] => { results := [.lit (.bool true)], args := [d1, d2, d3, d4] }
  | _ => none }
def flowPathsRow : OpenClaim := { program := "ytmhchhmhpoldhaa", sum := "d421baa749b29fb99fb079c3d2536ea77ad0a6258c5ab4330dc6a6454ad307dc", func := "mordant/mordantlaw24.FlowPaths", spec := "flowPaths", unfollowed := true, recurses := true, plainKeys := false, apart := false }
def FlowPathsSaid : Prop := flowPathsRow.holds Try.pinned (OpenSpec.ofChange flowPathsSpec)

/-- ITS FALSE NEIGHBOUR: 'it returns false'. Refute it at one input. -/
def flowPathsWrong : ChangeSpec := { name := "flowPaths", fn := fun _ => fun
  | [d1, d2, d3, d4] => { results := [.lit (.bool false)], args := [d1, d2, d3, d4] }
  | _ => none }
def FlowPathsWrongFalsely : Prop := flowPathsRow.holds Try.pinned (OpenSpec.ofChange flowPathsWrong)

/-- 'mordantlaw24.FlowValid': WHATEVER THE INPUT: true; the input reads as it did. -/
def flowValidSpec : ChangeSpec := { name := "flowValid", fn := fun _ => fun
  | [d1, d2, d3, d4] => { results := [.lit (.bool true)], args := [d1, d2, d3, d4] }
  | _ => none }
def flowValidRow : OpenClaim := { program := "ytmhchhmhpoldhaa", sum := "d421baa749b29fb99fb079c3d2536ea77ad0a6258c5ab4330dc6a6454ad307dc", func := "mordant/mordantlaw24.FlowValid", spec := "flowValid", unfollowed := true, recurses := true, plainKeys := false, apart := false }
def FlowValidSaid : Prop := flowValidRow.holds Try.pinned (OpenSpec.ofChange flowValidSpec)

/-- ITS FALSE NEIGHBOUR: 'it returns false'. Refute it at one input. -/
def flowValidWrong : ChangeSpec := { name := "flowValid", fn := fun _ => fun
  | [d1, d2, d3, d4] => { results := [.lit (.bool false)], args := [d1, d2, d3, d4] }
  | _ => none }
def FlowValidWrongFalsely : Prop := flowValidRow.holds Try.pinned (OpenSpec.ofChange flowValidWrong)

/-- 'mordantlaw24.FlowFits': WHATEVER THE INPUT: true; the input reads as it did. -/
def flowFitsSpec : ChangeSpec := { name := "flowFits", fn := fun _ => fun
  | [d1, d2, d3] => { results := [.lit (.bool true)], args := [d1, d2, d3] }
  | _ => none }
def flowFitsRow : OpenClaim := { program := "ytmhchhmhpoldhaa", sum := "d421baa749b29fb99fb079c3d2536ea77ad0a6258c5ab4330dc6a6454ad307dc", func := "mordant/mordantlaw24.FlowFits", spec := "flowFits", unfollowed := true, recurses := true, plainKeys := false, apart := false }
def FlowFitsSaid : Prop := flowFitsRow.holds Try.pinned (OpenSpec.ofChange flowFitsSpec)

/-- ITS FALSE NEIGHBOUR: 'it returns false'. Refute it at one input. -/
def flowFitsWrong : ChangeSpec := { name := "flowFits", fn := fun _ => fun
  | [d1, d2, d3] => { results := [.lit (.bool false)], args := [d1, d2, d3] }
  | _ => none }
def FlowFitsWrongFalsely : Prop := flowFitsRow.holds Try.pinned (OpenSpec.ofChange flowFitsWrong)

/-- 'mordantlaw24.FlowEnds': WHATEVER THE INPUT: true; the input reads as it did. -/
def flowEndsSpec : ChangeSpec := { name := "flowEnds", fn := fun _ => fun
  | [d1, d2, d3, d4] => { results := [.lit (.bool true)], args := [d1, d2, d3, d4] }
  | _ => none }
def flowEndsRow : OpenClaim := { program := "ytmhchhmhpoldhaa", sum := "d421baa749b29fb99fb079c3d2536ea77ad0a6258c5ab4330dc6a6454ad307dc", func := "mordant/mordantlaw24.FlowEnds", spec := "flowEnds", unfollowed := true, recurses := true, plainKeys := false, apart := false }
def FlowEndsSaid : Prop := flowEndsRow.holds Try.pinned (OpenSpec.ofChange flowEndsSpec)

/-- ITS FALSE NEIGHBOUR: 'it returns false'. Refute it at one input. -/
def flowEndsWrong : ChangeSpec := { name := "flowEnds", fn := fun _ => fun
  | [d1, d2, d3, d4] => { results := [.lit (.bool false)], args := [d1, d2, d3, d4] }
  | _ => none }
def FlowEndsWrongFalsely : Prop := flowEndsRow.holds Try.pinned (OpenSpec.ofChange flowEndsWrong)

/-- 'mordantlaw24.FlowMore': WHATEVER THE INPUT: true; the input reads as it did. -/
def flowMoreSpec : ChangeSpec := { name := "flowMore", fn := fun _ => fun
  | [d1, d2, d3, d4, d5] => { results := [.lit (.bool true)], args := [d1, d2, d3, d4, d5] }
  | _ => none }
def flowMoreRow : OpenClaim := { program := "ytmhchhmhpoldhaa", sum := "d421baa749b29fb99fb079c3d2536ea77ad0a6258c5ab4330dc6a6454ad307dc", func := "mordant/mordantlaw24.FlowMore", spec := "flowMore", unfollowed := true, recurses := true, plainKeys := false, apart := false }
def FlowMoreSaid : Prop := flowMoreRow.holds Try.pinned (OpenSpec.ofChange flowMoreSpec)

/-- ITS FALSE NEIGHBOUR: 'it returns false'. Refute it at one input. -/
def flowMoreWrong : ChangeSpec := { name := "flowMore", fn := fun _ => fun
  | [d1, d2, d3, d4, d5] => { results := [.lit (.bool false)], args := [d1, d2, d3, d4, d5] }
  | _ => none }
def FlowMoreWrongFalsely : Prop := flowMoreRow.holds Try.pinned (OpenSpec.ofChange flowMoreWrong)

/- THE SECOND FORM. 'bulk': how many values and letters a reading holds, each counted each time it is reached (what is shared counts as often as it is met; a slice's spare places count too). A statement '..UptoSaid' is the law's where the arguments, and the package variables that the reading takes, are together of bulk at most 1048576: NARROWER than '..Said'. Prove '..Said' where nothing that the law and all that it calls make is longer than what came in: it says more and counts as full. Else prove '..UptoSaid'. A law counts once. -/
mutual
def uptoBulk {H : Type} : DataW H → Nat
  | .lit (.string bytes) => bytes.length + 1
  | .lit _ => 1
  | .nil => 1
  | .ptr d => uptoBulk d + 1
  | .slice elems spare => uptoBulkAll elems + uptoBulkAll spare + 1
  | .agg parts => uptoBulkAll parts + 1
  | .iface _ d => uptoBulk d + 1
  | .map entries => uptoBulkEntries entries + 1
  | .held _ => 1
def uptoBulkAll {H : Type} : List (DataW H) → Nat
  | [] => 0
  | d :: r => uptoBulk d + uptoBulkAll r
def uptoBulkEntries {H : Type} : List (Lit × DataW H) → Nat
  | [] => 0
  | x :: r => uptoBulkEntry x + uptoBulkEntries r
def uptoBulkEntry {H : Type} : Lit × DataW H → Nat
  | (.string bytes, d) => bytes.length + uptoBulk d + 1
  | (_, d) => uptoBulk d + 1
 end
def uptoSmall : (H : Type) → List (DataW H) → Bool := fun _ ds => decide (uptoBulkAll ds ≤ 1048576)
def OpenSpec.upto (s : _root_.Go.ChangeSpec) : _root_.Go.OpenSpec := { _root_.Go.OpenSpec.ofChange s with cond := some uptoSmall }

/-- 'mordantlaw24.FlowReaches', WHERE WHAT IT READS IS OF BULK AT MOST 1048576: true; the input reads as it did. -/
def flowReachesUptoRow : OpenClaim := { program := "ytmhchhmhpoldhaa", sum := "d421baa749b29fb99fb079c3d2536ea77ad0a6258c5ab4330dc6a6454ad307dc", func := "mordant/mordantlaw24.FlowReaches", spec := "flowReaches", unfollowed := true, recurses := true, plainKeys := false, apart := false, narrowed := true }
def FlowReachesUptoSaid : Prop := flowReachesUptoRow.holds Try.pinned (OpenSpec.upto flowReachesSpec)

/-- 'mordantlaw24.FlowPaths', WHERE WHAT IT READS IS OF BULK AT MOST 1048576: true; the input reads as it did. -/
def flowPathsUptoRow : OpenClaim := { program := "ytmhchhmhpoldhaa", sum := "d421baa749b29fb99fb079c3d2536ea77ad0a6258c5ab4330dc6a6454ad307dc", func := "mordant/mordantlaw24.FlowPaths", spec := "flowPaths", unfollowed := true, recurses := true, plainKeys := false, apart := false, narrowed := true }
def FlowPathsUptoSaid : Prop := flowPathsUptoRow.holds Try.pinned (OpenSpec.upto flowPathsSpec)

/-- 'mordantlaw24.FlowValid', WHERE WHAT IT READS IS OF BULK AT MOST 1048576: true; the input reads as it did. -/
def flowValidUptoRow : OpenClaim := { program := "ytmhchhmhpoldhaa", sum := "d421baa749b29fb99fb079c3d2536ea77ad0a6258c5ab4330dc6a6454ad307dc", func := "mordant/mordantlaw24.FlowValid", spec := "flowValid", unfollowed := true, recurses := true, plainKeys := false, apart := false, narrowed := true }
def FlowValidUptoSaid : Prop := flowValidUptoRow.holds Try.pinned (OpenSpec.upto flowValidSpec)

/-- 'mordantlaw24.FlowFits', WHERE WHAT IT READS IS OF BULK AT MOST 1048576: true; the input reads as it did. -/
def flowFitsUptoRow : OpenClaim := { program := "ytmhchhmhpoldhaa", sum := "d421baa749b29fb99fb079c3d2536ea77ad0a6258c5ab4330dc6a6454ad307dc", func := "mordant/mordantlaw24.FlowFits", spec := "flowFits", unfollowed := true, recurses := true, plainKeys := false, apart := false, narrowed := true }
def FlowFitsUptoSaid : Prop := flowFitsUptoRow.holds Try.pinned (OpenSpec.upto flowFitsSpec)

/-- 'mordantlaw24.FlowEnds', WHERE WHAT IT READS IS OF BULK AT MOST 1048576: true; the input reads as it did. -/
def flowEndsUptoRow : OpenClaim := { program := "ytmhchhmhpoldhaa", sum := "d421baa749b29fb99fb079c3d2536ea77ad0a6258c5ab4330dc6a6454ad307dc", func := "mordant/mordantlaw24.FlowEnds", spec := "flowEnds", unfollowed := true, recurses := true, plainKeys := false, apart := false, narrowed := true }
def FlowEndsUptoSaid : Prop := flowEndsUptoRow.holds Try.pinned (OpenSpec.upto flowEndsSpec)

/-- 'mordantlaw24.FlowMore', WHERE WHAT IT READS IS OF BULK AT MOST 1048576: true; the input reads as it did. -/
def flowMoreUptoRow : OpenClaim := { program := "ytmhchhmhpoldhaa", sum := "d421baa749b29fb99fb079c3d2536ea77ad0a6258c5ab4330dc6a6454ad307dc", func := "mordant/mordantlaw24.FlowMore", spec := "flowMore", unfollowed := true, recurses := true, plainKeys := false, apart := false, narrowed := true }
def FlowMoreUptoSaid : Prop := flowMoreUptoRow.holds Try.pinned (OpenSpec.upto flowMoreSpec)

end Rows
end Go.Proofs.Ytmhchhmhpoldhaa
