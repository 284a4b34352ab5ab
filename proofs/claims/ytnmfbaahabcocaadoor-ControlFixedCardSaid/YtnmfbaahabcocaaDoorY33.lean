/- Joined by my own program, in build order: ReachW. -/
import Derived.Test.YtnmfbaahabcocaaDoorY32
import Derived.Test.YtnmfbaahabcocaaDoorY29
set_option linter.unusedVariables false
set_option linter.unusedSimpArgs false
section
namespace Go.Proofs.YtnmfbaahabcocaaDoor
open Go.RowKit
def intsN (l : List Nat) : List Int := l.map fun i : Nat => (i : Int)
theorem intsN_len (l : List Nat) : (intsN l).length = l.length := by simp [intsN]
end Go.Proofs.YtnmfbaahabcocaaDoor
end
