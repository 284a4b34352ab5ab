/- Joined by my own program, in build order: MayS. -/
import Derived.Test.YtbmbmcdaabhgnaaDoorA12
import Derived.Test.YtbmbmcdaabhgnaaDoorA10
set_option linter.unusedVariables false
set_option linter.unusedSimpArgs false
section
namespace Go.Proofs.YtbmbmcdaabhgnaaDoor
open Go.RowKit
theorem stmts_any (d : Nat) (w : World) (v : Value) (l : List Stmt) (hM : HasMax w) (h : RStmts d w (· < w.heap.size) v l) :
    Calls Tryd.prog 32 #[v] w fun e w' => e = .returned (.bool (l.all stmtB)) ∧ Below w.heap.size w w' := stmts_of d (stmt_any d) w v l hM h
end Go.Proofs.YtbmbmcdaabhgnaaDoor
end
