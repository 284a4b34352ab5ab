/- Joined by my own program, in build order: Glob. -/
import Derived.Test.YthhpcjoaogmhbaaGreatChecked
import Derived.WalkKit
set_option linter.unusedVariables false
set_option linter.unusedSimpArgs false
section
namespace Go.Proofs.YthhpcjoaogmhbaaGreat
namespace V
open Go.RowKit
def GlobOk (w : World) : Prop := ∃ m, w.cell? ⟨0, 0, none⟩ = some (.int .i64 m)
theorem GlobOk.keep {w w' : World} (h : GlobOk w) (hb : Below w.heap.size w w') : GlobOk w' := by
 obtain ⟨m, hm⟩ := h
 refine ⟨m, (hb.cell (p := ⟨0, 0, none⟩) ?_).trans hm⟩
 unfold World.cell? at hm
 split at hm
 ·rename_i h'; exact (Array.getElem?_eq_some_iff.1 h').1
 ·cases hm
end V
end Go.Proofs.YthhpcjoaogmhbaaGreat
end
