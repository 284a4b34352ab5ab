/-
  NARROWER THAN 'FOR EVERY INPUT', by the rows' own cells (each row's printed sentence says how): AssignSure: loops · AssignMore: loops · AssignParts: loops · AssignLoop: loops.
  DERIVED. THE GIVEN ROWS OF THIS SEAT. 4 by the template 'for every input the law returns true; each argument reads behind the call as it read before'; 0 by the template 'total and deterministic' (their statements: YtgaipdillmleeaaTotals.lean).
  GIVEN WITH THE SEED: the statements are not yours to turn. If you find one false, say at which input.
  Laid BY PROGRAM, IN A SANDBOX (cutbox-rows.mjs): the forced cells as the released guide's own fill.sh prints them over the translation 0d7ffbc735b5c8f5… (all of the seat's roots in one cut). By AI agents, Wed Nov 11 2026. No macro, syntax, notation, axiom, sorry.
-/
import Derived.Test.YtgaipdillmleeaaChecked
import GoSem.Claim
import GoSem.ClaimJoined
import GoSem.ClaimMapViews
import Derived.JoinedTies
import Derived.KernelRfl
namespace Go.Proofs.Ytgaipdillmleeaa
/- THE CELL 'sum', in the pinned program and in every row, IS THE sha256 OF THE DUMP (.gsa) THAT YtgaipdillmleeaaProg.lean LOADS. Nothing in Lean hashes anything: it is a label: what it is worth is what the hold of that sum in a sandbox is worth. -/
noncomputable def Try.pinned : Pinned := { name := "ytgaipdillmleeaa", sum := "0d7ffbc735b5c8f5c1a1d12a0c4ac5b89488a4187ca927acee3b7619c6ce38de", checked := Try.checked }
namespace Rows
def none {H : Type} : Left H := { results := [], args := [] }

/-- 'mordantlaw08.AssignSure': WHATEVER THE INPUT: true; the input reads as it did. -/
def assignSureSpec : ChangeSpec := { name := "assignSure", fn := fun _ => fun
  | [d1, d2] => { results := [.lit (.bool true)], args := [d1, d2] }
  | _ => none }
def assignSureRow : OpenClaim := { program := "ytgaipdillmleeaa", sum := "0d7ffbc735b5c8f5c1a1d12a0c4ac5b89488a4187ca927acee3b7619c6ce38de", func := "mordant/mordantlaw08.AssignSure", spec := "assignSure", inPlace := ["maps.clone"], unfollowed := true, recurses := true, loops := true, apart := false }
def AssignSureSaid : Prop := assignSureRow.holds Try.pinned (OpenSpec.ofChange assignSureSpec)

/-- ITS FALSE NEIGHBOUR: 'it returns false'. Refute it at one input. -/
def assignSureWrong : ChangeSpec := { name := "assignSure", fn := fun _ => fun
  | [d1, d2] => { results := [.lit (.bool false)], args := [d1, d2] }
  | _ => none }
def AssignSureWrongFalsely : Prop := assignSureRow.holds Try.pinned (OpenSpec.ofChange assignSureWrong)

/-- 'mordantlaw08.AssignMore': WHATEVER THE INPUT: true; the input reads as it did. -/
def assignMoreSpec : ChangeSpec := { name := "assignMore", fn := fun _ => fun
  | [d1, d2, d3] => { results := [.lit (.bool true)], args := [d1, d2, d3] }
  | _ => none }
def assignMoreRow : OpenClaim := { program := "ytgaipdillmleeaa", sum := "0d7ffbc735b5c8f5c1a1d12a0c4ac5b89488a4187ca927acee3b7619c6ce38de", func := "mordant/mordantlaw08.AssignMore", spec := "assignMore", inPlace := ["maps.clone"], unfollowed := true, recurses := true, loops := true, apart := false }
def AssignMoreSaid : Prop := assignMoreRow.holds Try.pinned (OpenSpec.ofChange assignMoreSpec)

/-- ITS FALSE NEIGHBOUR: 'it returns false'. Refute it at one input. -/
def assignMoreWrong : ChangeSpec := { name := "assignMore", fn := fun _ => fun
  | [d1, d2, d3] => { results := [.lit (.bool false)], args := [d1, d2, d3] }
  | _ => none }
def AssignMoreWrongFalsely : Prop := assignMoreRow.holds Try.pinned (OpenSpec.ofChange assignMoreWrong)

/-- 'mordantlaw08.AssignParts': WHATEVER THE INPUT: true; the input reads as it did. -/
def assignPartsSpec : ChangeSpec := { name := "assignParts", fn := fun _ => fun
  | [d1, d2, d3] => { results := [.lit (.bool true)], args := [d1, d2, d3] }
  | _ => none }
def assignPartsRow : OpenClaim := { program := "ytgaipdillmleeaa", sum := "0d7ffbc735b5c8f5c1a1d12a0c4ac5b89488a4187ca927acee3b7619c6ce38de", func := "mordant/mordantlaw08.AssignParts", spec := "assignParts", inPlace := ["maps.clone"], unfollowed := true, recurses := true, loops := true, apart := false }
def AssignPartsSaid : Prop := assignPartsRow.holds Try.pinned (OpenSpec.ofChange assignPartsSpec)

/-- ITS FALSE NEIGHBOUR: 'it returns false'. Refute it at one input. -/
def assignPartsWrong : ChangeSpec := { name := "assignParts", fn := fun _ => fun
  | [d1, d2, d3] => { results := [.lit (.bool false)], args := [d1, d2, d3] }
  | _ => none }
def AssignPartsWrongFalsely : Prop := assignPartsRow.holds Try.pinned (OpenSpec.ofChange assignPartsWrong)

/-- 'mordantlaw08.AssignLoop': WHATEVER THE INPUT: true; the input reads as it did. -/
def assignLoopSpec : ChangeSpec := { name := "assignLoop", fn := fun _ => fun
  | [d1, d2] => { results := [.lit (.bool true)], args := [d1, d2] }
  | _ => none }
def assignLoopRow : OpenClaim := { program := "ytgaipdillmleeaa", sum := "0d7ffbc735b5c8f5c1a1d12a0c4ac5b89488a4187ca927acee3b7619c6ce38de", func := "mordant/mordantlaw08.AssignLoop", spec := "assignLoop", inPlace := ["maps.clone"], unfollowed := true, recurses := true, loops := true, apart := false }
def AssignLoopSaid : Prop := assignLoopRow.holds Try.pinned (OpenSpec.ofChange assignLoopSpec)

/-- ITS FALSE NEIGHBOUR: 'it returns false'. Refute it at one input. -/
def assignLoopWrong : ChangeSpec := { name := "assignLoop", fn := fun _ => fun
  | [d1, d2] => { results := [.lit (.bool false)], args := [d1, d2] }
  | _ => none }
def AssignLoopWrongFalsely : Prop := assignLoopRow.holds Try.pinned (OpenSpec.ofChange assignLoopWrong)

/- THE SECOND FORM. 'bulk': how many values and letters a reading holds, each counted each time it is reached (what is shared counts as often as it is met; a slice's spare places count too). A statement '..UptoSaid' is the law's where the arguments, and the package variables that the reading takes, are together of bulk at most 1048576: NARROWER than '..Said'. Prove '..Said' where nothing that the law and all that it calls make is longer than what came in: it says more and counts as full. Else prove '..UptoSaid'. A law counts once. -/
mutual
def uptoBulk {H : Type} : DataW H → Nat
  | .lit (.string bytes) => bytes.length + 1
  | .lit _ => 1
  | .nil => 1
  | .ptr d => uptoBulk d + 1
  | .slice elems spare => uptoBulkAll elems + uptoBulkAll spare + 1
  | .agg parts => uptoBulkAll parts + 1
  | .iface _ d => uptoBulk d + 1
  | .map entries => uptoBulkEntries entries + 1
  | .held _ => 1
def uptoBulkAll {H : Type} : List (DataW H) → Nat
  | [] => 0
  | d :: r => uptoBulk d + uptoBulkAll r
def uptoBulkEntries {H : Type} : List (Lit × DataW H) → Nat
  | [] => 0
  | x :: r => uptoBulkEntry x + uptoBulkEntries r
def uptoBulkEntry {H : Type} : Lit × DataW H → Nat
  | (.string bytes, d) => bytes.length + uptoBulk d + 1
  | (_, d) => uptoBulk d + 1
 end
def uptoSmall : (H : Type) → List (DataW H) → Bool := fun _ ds => decide (uptoBulkAll ds ≤ 1048576)
def OpenSpec.upto (s : _root_.Go.ChangeSpec) : _root_.Go.OpenSpec := { _root_.Go.OpenSpec.ofChange s with cond := some uptoSmall }

/-- 'mordantlaw08.AssignSure', WHERE WHAT IT READS IS OF BULK AT MOST 1048576: true; the input reads as it did. -/
def assignSureUptoRow : OpenClaim := { program := "ytgaipdillmleeaa", sum := "0d7ffbc735b5c8f5c1a1d12a0c4ac5b89488a4187ca927acee3b7619c6ce38de", func := "mordant/mordantlaw08.AssignSure", spec := "assignSure", inPlace := ["maps.clone"], unfollowed := true, recurses := true, loops := true, apart := false, narrowed := true }
def AssignSureUptoSaid : Prop := assignSureUptoRow.holds Try.pinned (OpenSpec.upto assignSureSpec)

/-- 'mordantlaw08.AssignMore', WHERE WHAT IT READS IS OF BULK AT MOST 1048576: true; the input reads as it did. -/
def assignMoreUptoRow : OpenClaim := { program := "ytgaipdillmleeaa", sum := "0d7ffbc735b5c8f5c1a1d12a0c4ac5b89488a4187ca927acee3b7619c6ce38de", func := "mordant/mordantlaw08.AssignMore", spec := "assignMore", inPlace := ["maps.clone"], unfollowed := true, recurses := true, loops := true, apart := false, narrowed := true }
def AssignMoreUptoSaid : Prop := assignMoreUptoRow.holds Try.pinned (OpenSpec.upto assignMoreSpec)

/-- 'mordantlaw08.AssignParts', WHERE WHAT IT READS IS OF BULK AT MOST 1048576: true; the input reads as it did. -/
def assignPartsUptoRow : OpenClaim := { program := "ytgaipdillmleeaa", sum := "0d7ffbc735b5c8f5c1a1d12a0c4ac5b89488a4187ca927acee3b7619c6ce38de", func := "mordant/mordantlaw08.AssignParts", spec := "assignParts", inPlace := ["maps.clone"], unfollowed := true, recurses := true, loops := true, apart := false, narrowed := true }
def AssignPartsUptoSaid : Prop := assignPartsUptoRow.holds Try.pinned (OpenSpec.upto assignPartsSpec)

/-- 'mordantlaw08.AssignLoop', WHERE WHAT IT READS IS OF BULK AT MOST 1048576: true; the input reads as it did. -/
def assignLoopUptoRow : OpenClaim := { program := "ytgaipdillmleeaa", sum := "0d7ffbc735b5c8f5c1a1d12a0c4ac5b89488a4187ca927acee3b7619c6ce38de", func := "mordant/mordantlaw08.AssignLoop", spec := "assignLoop", inPlace := ["maps.clone"], unfollowed := true, recurses := true, loops := true, apart := false, narrowed := true }
def AssignLoopUptoSaid : Prop := assignLoopUptoRow.holds Try.pinned (OpenSpec.upto assignLoopSpec)

end Rows
end Go.Proofs.Ytgaipdillmleeaa
