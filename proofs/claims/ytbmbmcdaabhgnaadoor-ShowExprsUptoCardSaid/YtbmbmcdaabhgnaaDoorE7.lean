/- Joined by my own program, in build order: Slots2. -/
import Derived.Test.YtbmbmcdaabhgnaaDoorE6
set_option linter.unusedVariables false
set_option linter.unusedSimpArgs false
section
namespace Go.Proofs.YtbmbmcdaabhgnaaDoor
open Go.RowKit
def HasMax (w : World) : Prop := ∃ m, w.cell? ⟨0, 0, none⟩ = some (.int .i64 m)
theorem HasMax.keep {w w' : World} (h : HasMax w) (hb : Below w.heap.size w w') : HasMax w' :=
  let ⟨m, hm⟩ := h
  ⟨m, (hb.cell (p := ⟨0, 0, none⟩) (cell_lt hm)).trans hm⟩
theorem name_in {w : World} (hM : HasMax w) (s : ByteArray) (hs : s.size ≤ maxS) : Calls Tryd.prog 33 #[.string s] w fun e w' => e = .returned (.bool (isNameB s)) ∧ w = w' :=
  let ⟨m, hm⟩ := hM
  isName_any s hs m w hm
end Go.Proofs.YtbmbmcdaabhgnaaDoor
end
