/- Joined by my own program, in build order: Glob. -/
import Derived.Test.YtcldeoolglhdoaaDoorChecked
import Derived.WalkKit
import Derived.Lib.LaidTab
import Derived.Lib.TrailingZeros
set_option linter.unusedVariables false
set_option linter.unusedSimpArgs false
section
namespace Go.Proofs.YtcldeoolglhdoaaDoor
namespace V
open Go.RowKit
def GlobOk (w : World) : Prop := ∀ j, j < 64 → w.cell? ⟨0, j, none⟩ = some (.int .u8 (Lib.deBruijn64tab.getD j 0))
theorem GlobOk.keep {w w' : World} (h : GlobOk w) (hb : Below w.heap.size w w') : GlobOk w' := fun j hj => by
  have hm := h j hj
  refine (hb.cell (p := ⟨0, j, none⟩) ?_).trans hm
  unfold World.cell? at hm
  split at hm
  · rename_i h'; exact (Array.getElem?_eq_some_iff.1 h').1
  · cases hm
end V
end Go.Proofs.YtcldeoolglhdoaaDoor
end
