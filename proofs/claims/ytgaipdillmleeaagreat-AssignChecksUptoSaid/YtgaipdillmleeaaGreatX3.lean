/- Joined by my own program, in build order: Glob. -/
import Derived.Test.YtgaipdillmleeaaGreatChecked
import Derived.WalkKit
set_option linter.unusedVariables false
set_option linter.unusedSimpArgs false
section
namespace Go.Proofs.YtgaipdillmleeaaGreat
namespace V
open Go.RowKit
def rz (w : World) : Prop := ∃ m, w.cell? ⟨0, 0, none⟩ = some (.int .i64 m)
theorem rz.keep {w w' : World} (h : rz w) (hb : Below w.heap.size w w') : rz w' := by
 obtain ⟨m, hm⟩ := h;refine ⟨m, (hb.cell (p := ⟨0, 0, none⟩) ?_).trans hm⟩;unfold World.cell? at hm;split at hm
 ·rename_i h'; exact (Array.getElem?_eq_some_iff.1 h').1
 ·cases hm
end V
end Go.Proofs.YtgaipdillmleeaaGreat
end
