/-
  NARROWER THAN 'FOR EVERY INPUT', by the rows' own cells (each row's printed sentence says how): ClassesCheck: loops · ClassesChain: loops · ClassesOrder: loops · ClassesMethod: loops · ClassesHave: loops.
  DERIVED. THE GIVEN ROWS OF THIS SEAT. 5 by the template 'for every input the law returns true; each argument reads behind the call as it read before'; 0 by the template 'total and deterministic' (their statements: YtjciafpihdbedaaTotals.lean).
  GIVEN WITH THE SEED: the statements are not yours to turn. If you find one false, say at which input.
  Laid BY PROGRAM, IN A SANDBOX (cutbox-rows.mjs): the forced cells as the released guide's own fill.sh prints them over the translation beff447f79b1ce93… (all of the seat's roots in one cut). By AI agents, Wed Nov 11 2026. No macro, syntax, notation, axiom, sorry.
-/
import Derived.Test.YtjciafpihdbedaaChecked
import GoSem.Claim
import GoSem.ClaimJoined
import GoSem.ClaimMapViews
import Derived.JoinedTies
import Derived.KernelRfl
namespace Go.Proofs.Ytjciafpihdbedaa
/- THE CELL 'sum', in the pinned program and in every row, IS THE sha256 OF THE DUMP (.gsa) THAT YtjciafpihdbedaaProg.lean LOADS. Nothing in Lean hashes anything: it is a label: what it is worth is what the hold of that sum in a sandbox is worth. -/
noncomputable def Try.pinned : Pinned := { name := "ytjciafpihdbedaa", sum := "beff447f79b1ce936862622d534becb13c6000ba7fff2aa151f2eda2e60f3daf", checked := Try.checked }
namespace Rows
def none {H : Type} : Left H := { results := [], args := [] }

/-- 'mordantlaw06.ClassesCheck': WHATEVER THE INPUT: true; the input reads as it did. -/
def classesCheckSpec : ChangeSpec := { name := "classesCheck", fn := fun _ => fun
  | [d] => { results := [.lit (.bool true)], args := [d] }
  | _ => none }
def classesCheckRow : OpenClaim := { program := "ytjciafpihdbedaa", sum := "beff447f79b1ce936862622d534becb13c6000ba7fff2aa151f2eda2e60f3daf", func := "mordant/mordantlaw06.ClassesCheck", spec := "classesCheck", inPlace := ["internal/bytealg.IndexByteString", "internal/bytealg.IndexString"], unfollowed := true, recurses := true, named := ["internal/bytealg.MaxLen"], loops := true, apart := false }
def ClassesCheckSaid : Prop := classesCheckRow.holds Try.pinned (OpenSpec.ofChange classesCheckSpec)

/-- ITS FALSE NEIGHBOUR: 'it returns false'. Refute it at one input. -/
def classesCheckWrong : ChangeSpec := { name := "classesCheck", fn := fun _ => fun
  | [d] => { results := [.lit (.bool false)], args := [d] }
  | _ => none }
def ClassesCheckWrongFalsely : Prop := classesCheckRow.holds Try.pinned (OpenSpec.ofChange classesCheckWrong)

/-- 'mordantlaw06.ClassesChain': WHATEVER THE INPUT: true; the input reads as it did. -/
def classesChainSpec : ChangeSpec := { name := "classesChain", fn := fun _ => fun
  | [d1, d2, d3] => { results := [.lit (.bool true)], args := [d1, d2, d3] }
  | _ => none }
def classesChainRow : OpenClaim := { program := "ytjciafpihdbedaa", sum := "beff447f79b1ce936862622d534becb13c6000ba7fff2aa151f2eda2e60f3daf", func := "mordant/mordantlaw06.ClassesChain", spec := "classesChain", inPlace := ["internal/bytealg.IndexByteString", "internal/bytealg.IndexString"], unfollowed := true, recurses := true, named := ["internal/bytealg.MaxLen"], loops := true, apart := false }
def ClassesChainSaid : Prop := classesChainRow.holds Try.pinned (OpenSpec.ofChange classesChainSpec)

/-- ITS FALSE NEIGHBOUR: 'it returns false'. Refute it at one input. -/
def classesChainWrong : ChangeSpec := { name := "classesChain", fn := fun _ => fun
  | [d1, d2, d3] => { results := [.lit (.bool false)], args := [d1, d2, d3] }
  | _ => none }
def ClassesChainWrongFalsely : Prop := classesChainRow.holds Try.pinned (OpenSpec.ofChange classesChainWrong)

/-- 'mordantlaw06.ClassesOrder': WHATEVER THE INPUT: true; the input reads as it did. -/
def classesOrderSpec : ChangeSpec := { name := "classesOrder", fn := fun _ => fun
  | [d1, d2, d3, d4] => { results := [.lit (.bool true)], args := [d1, d2, d3, d4] }
  | _ => none }
def classesOrderRow : OpenClaim := { program := "ytjciafpihdbedaa", sum := "beff447f79b1ce936862622d534becb13c6000ba7fff2aa151f2eda2e60f3daf", func := "mordant/mordantlaw06.ClassesOrder", spec := "classesOrder", inPlace := ["internal/bytealg.IndexByteString", "internal/bytealg.IndexString"], unfollowed := true, recurses := true, named := ["internal/bytealg.MaxLen"], loops := true, apart := false }
def ClassesOrderSaid : Prop := classesOrderRow.holds Try.pinned (OpenSpec.ofChange classesOrderSpec)

/-- ITS FALSE NEIGHBOUR: 'it returns false'. Refute it at one input. -/
def classesOrderWrong : ChangeSpec := { name := "classesOrder", fn := fun _ => fun
  | [d1, d2, d3, d4] => { results := [.lit (.bool false)], args := [d1, d2, d3, d4] }
  | _ => none }
def ClassesOrderWrongFalsely : Prop := classesOrderRow.holds Try.pinned (OpenSpec.ofChange classesOrderWrong)

/-- 'mordantlaw06.ClassesMethod': WHATEVER THE INPUT: true; the input reads as it did. -/
def classesMethodSpec : ChangeSpec := { name := "classesMethod", fn := fun _ => fun
  | [d1, d2, d3] => { results := [.lit (.bool true)], args := [d1, d2, d3] }
  | _ => none }
def classesMethodRow : OpenClaim := { program := "ytjciafpihdbedaa", sum := "beff447f79b1ce936862622d534becb13c6000ba7fff2aa151f2eda2e60f3daf", func := "mordant/mordantlaw06.ClassesMethod", spec := "classesMethod", inPlace := ["internal/bytealg.IndexByteString", "internal/bytealg.IndexString"], unfollowed := true, recurses := true, named := ["internal/bytealg.MaxLen"], loops := true, apart := false }
def ClassesMethodSaid : Prop := classesMethodRow.holds Try.pinned (OpenSpec.ofChange classesMethodSpec)

/-- ITS FALSE NEIGHBOUR: 'it returns false'. Refute it at one input. -/
def classesMethodWrong : ChangeSpec := { name := "classesMethod", fn := fun _ => fun
  | [d1, d2, d3] => { results := [.lit (.bool false)], args := [d1, d2, d3] }
  | _ => none }
def ClassesMethodWrongFalsely : Prop := classesMethodRow.holds Try.pinned (OpenSpec.ofChange classesMethodWrong)

/-- 'mordantlaw06.ClassesHave': WHATEVER THE INPUT: true; the input reads as it did. -/
def classesHaveSpec : ChangeSpec := { name := "classesHave", fn := fun _ => fun
  | [d1, d2, d3, d4] => { results := [.lit (.bool true)], args := [d1, d2, d3, d4] }
  | _ => none }
def classesHaveRow : OpenClaim := { program := "ytjciafpihdbedaa", sum := "beff447f79b1ce936862622d534becb13c6000ba7fff2aa151f2eda2e60f3daf", func := "mordant/mordantlaw06.ClassesHave", spec := "classesHave", inPlace := ["internal/bytealg.IndexByteString", "internal/bytealg.IndexString"], unfollowed := true, recurses := true, named := ["internal/bytealg.MaxLen"], loops := true, apart := false }
def ClassesHaveSaid : Prop := classesHaveRow.holds Try.pinned (OpenSpec.ofChange classesHaveSpec)

/-- ITS FALSE NEIGHBOUR: 'it returns false'. Refute it at one input. -/
def classesHaveWrong : ChangeSpec := { name := "classesHave", fn := fun _ => fun
  | [d1, d2, d3, d4] => { results := [.lit (.bool false)], args := [d1, d2, d3, d4] }
  | _ => none }
def ClassesHaveWrongFalsely : Prop := classesHaveRow.holds Try.pinned (OpenSpec.ofChange classesHaveWrong)

/- THE SECOND FORM. 'bulk': how many values and letters a reading holds, each counted each time it is reached (what is shared counts as often as it is met; a slice's spare places count too). A statement '..UptoSaid' is the law's where the arguments, and the package variables that the reading takes, are together of bulk at most 1048576: NARROWER than '..Said'. Prove '..Said' where nothing that the law and all that it calls make is longer than what came in: it says more and counts as full. Else prove '..UptoSaid'. A law counts once. -/
mutual
def uptoBulk {H : Type} : DataW H → Nat
  | .lit (.string bytes) => bytes.length + 1
  | .lit _ => 1
  | .nil => 1
  | .ptr d => uptoBulk d + 1
  | .slice elems spare => uptoBulkAll elems + uptoBulkAll spare + 1
  | .agg parts => uptoBulkAll parts + 1
  | .iface _ d => uptoBulk d + 1
  | .map entries => uptoBulkEntries entries + 1
  | .held _ => 1
def uptoBulkAll {H : Type} : List (DataW H) → Nat
  | [] => 0
  | d :: r => uptoBulk d + uptoBulkAll r
def uptoBulkEntries {H : Type} : List (Lit × DataW H) → Nat
  | [] => 0
  | x :: r => uptoBulkEntry x + uptoBulkEntries r
def uptoBulkEntry {H : Type} : Lit × DataW H → Nat
  | (.string bytes, d) => bytes.length + uptoBulk d + 1
  | (_, d) => uptoBulk d + 1
 end
def uptoSmall : (H : Type) → List (DataW H) → Bool := fun _ ds => decide (uptoBulkAll ds ≤ 1048576)
def OpenSpec.upto (s : _root_.Go.ChangeSpec) : _root_.Go.OpenSpec := { _root_.Go.OpenSpec.ofChange s with cond := some uptoSmall }

/-- 'mordantlaw06.ClassesCheck', WHERE WHAT IT READS IS OF BULK AT MOST 1048576: true; the input reads as it did. -/
def classesCheckUptoRow : OpenClaim := { program := "ytjciafpihdbedaa", sum := "beff447f79b1ce936862622d534becb13c6000ba7fff2aa151f2eda2e60f3daf", func := "mordant/mordantlaw06.ClassesCheck", spec := "classesCheck", inPlace := ["internal/bytealg.IndexByteString", "internal/bytealg.IndexString"], unfollowed := true, recurses := true, named := ["internal/bytealg.MaxLen"], loops := true, apart := false, narrowed := true }
def ClassesCheckUptoSaid : Prop := classesCheckUptoRow.holds Try.pinned (OpenSpec.upto classesCheckSpec)

/-- 'mordantlaw06.ClassesChain', WHERE WHAT IT READS IS OF BULK AT MOST 1048576: true; the input reads as it did. -/
def classesChainUptoRow : OpenClaim := { program := "ytjciafpihdbedaa", sum := "beff447f79b1ce936862622d534becb13c6000ba7fff2aa151f2eda2e60f3daf", func := "mordant/mordantlaw06.ClassesChain", spec := "classesChain", inPlace := ["internal/bytealg.IndexByteString", "internal/bytealg.IndexString"], unfollowed := true, recurses := true, named := ["internal/bytealg.MaxLen"], loops := true, apart := false, narrowed := true }
def ClassesChainUptoSaid : Prop := classesChainUptoRow.holds Try.pinned (OpenSpec.upto classesChainSpec)

/-- 'mordantlaw06.ClassesOrder', WHERE WHAT IT READS IS OF BULK AT MOST 1048576: true; the input reads as it did. -/
def classesOrderUptoRow : OpenClaim := { program := "ytjciafpihdbedaa", sum := "beff447f79b1ce936862622d534becb13c6000ba7fff2aa151f2eda2e60f3daf", func := "mordant/mordantlaw06.ClassesOrder", spec := "classesOrder", inPlace := ["internal/bytealg.IndexByteString", "internal/bytealg.IndexString"], unfollowed := true, recurses := true, named := ["internal/bytealg.MaxLen"], loops := true, apart := false, narrowed := true }
def ClassesOrderUptoSaid : Prop := classesOrderUptoRow.holds Try.pinned (OpenSpec.upto classesOrderSpec)

/-- 'mordantlaw06.ClassesMethod', WHERE WHAT IT READS IS OF BULK AT MOST 1048576: true; the input reads as it did. -/
def classesMethodUptoRow : OpenClaim := { program := "ytjciafpihdbedaa", sum := "beff447f79b1ce936862622d534becb13c6000ba7fff2aa151f2eda2e60f3daf", func := "mordant/mordantlaw06.ClassesMethod", spec := "classesMethod", inPlace := ["internal/bytealg.IndexByteString", "internal/bytealg.IndexString"], unfollowed := true, recurses := true, named := ["internal/bytealg.MaxLen"], loops := true, apart := false, narrowed := true }
def ClassesMethodUptoSaid : Prop := classesMethodUptoRow.holds Try.pinned (OpenSpec.upto classesMethodSpec)

/-- 'mordantlaw06.ClassesHave', WHERE WHAT IT READS IS OF BULK AT MOST 1048576: true; the input reads as it did. -/
def classesHaveUptoRow : OpenClaim := { program := "ytjciafpihdbedaa", sum := "beff447f79b1ce936862622d534becb13c6000ba7fff2aa151f2eda2e60f3daf", func := "mordant/mordantlaw06.ClassesHave", spec := "classesHave", inPlace := ["internal/bytealg.IndexByteString", "internal/bytealg.IndexString"], unfollowed := true, recurses := true, named := ["internal/bytealg.MaxLen"], loops := true, apart := false, narrowed := true }
def ClassesHaveUptoSaid : Prop := classesHaveUptoRow.holds Try.pinned (OpenSpec.upto classesHaveSpec)

end Rows
end Go.Proofs.Ytjciafpihdbedaa
