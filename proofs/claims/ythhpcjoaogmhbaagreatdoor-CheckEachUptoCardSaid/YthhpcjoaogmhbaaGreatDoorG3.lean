/- Joined by my own program, in build order: Glob. -/
import Derived.Test.YthhpcjoaogmhbaaGreatDoorChecked
import Derived.WalkKit
import Derived.Lib.SmallJoins
import Derived.Lib.ItoaNum
set_option linter.unusedVariables false
set_option linter.unusedSimpArgs false
section
namespace Go.Proofs.YthhpcjoaogmhbaaGreatDoor
namespace V
open Go.RowKit
structure GlobOk (w : World) : Prop where
 max : ∃ m, w.cell? ⟨1, 0, none⟩ = some (.int .i64 m)
 tens : Lib.TabIs Tryz.prog w "internal/strconv.uint64pow10" .u64 Lib.pow10Tab
theorem GlobOk.keep {w w' : World} (h : GlobOk w) (hb : Below w.heap.size w w') : GlobOk w' := by
 obtain ⟨⟨m, hm⟩, ht⟩ := h
 refine ⟨⟨m, (hb.cell (p := ⟨1, 0, none⟩) ?_).trans hm⟩, Go.Joins.tab_stays (g := 0) (by kernel_rfl) ht hb (Nat.le_refl _)⟩
 unfold World.cell? at hm
 split at hm
 ·rename_i h'; exact (Array.getElem?_eq_some_iff.1 h').1
 ·cases hm
end V
end Go.Proofs.YthhpcjoaogmhbaaGreatDoor
end
