/- Joined by my own program, in build order: EdgesR. -/
import Derived.Test.YtnmfbaahabcocaaDoorY7
import Derived.Laws.StructEq
import Derived.Deep.QuietTactic
import Derived.BigQuiet
set_option linter.unusedVariables false
set_option linter.unusedSimpArgs false
section
namespace Go.Proofs.YtnmfbaahabcocaaDoor
open Go.RowKit
theorem inEdge : Tryd.prog.stoodInHeld 42 = false := by kernel_rfl
theorem gdEdge : Tryd.prog.eqGuardType Tryd.prog.depth 42 = false := by kernel_rfl
end Go.Proofs.YtnmfbaahabcocaaDoor
end
