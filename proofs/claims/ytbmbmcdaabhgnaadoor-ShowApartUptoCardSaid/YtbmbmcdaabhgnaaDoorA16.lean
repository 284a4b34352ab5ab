/- Joined by my own program, in build order: Dg. -/
import Derived.Test.YtbmbmcdaabhgnaaDoorA1
import Derived.WalkSpells
import Derived.Handy
import Derived.Tactics
import Derived.Tactics2
import Derived.Lib.ItoaNum
import Derived.Laws.IdiomStrings
import Derived.Lib.ItoaLen
set_option linter.unusedVariables false
set_option linter.unusedSimpArgs false
section
set_option linter.unusedVariables false
set_option linter.unusedSimpArgs false
namespace Go.Proofs.YtbmbmcdaabhgnaaDoor
open Go.RowKit
theorem app_bytes (a b : List UInt8) : (⟨a.toArray⟩ : ByteArray) ++ ⟨b.toArray⟩ = ⟨(a ++ b).toArray⟩ := by
  apply ByteArray.ext
  simp
end Go.Proofs.YtbmbmcdaabhgnaaDoor
end
