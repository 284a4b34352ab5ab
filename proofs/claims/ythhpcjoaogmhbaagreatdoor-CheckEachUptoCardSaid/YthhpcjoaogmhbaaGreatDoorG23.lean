/- Joined by my own program, in build order: Names1. -/
import Derived.Test.YthhpcjoaogmhbaaGreatDoorG18
import Derived.Test.YthhpcjoaogmhbaaGreatDoorG22
import Derived.Maps.OwnOps
import Derived.Maps.OwnSet
import Derived.Maps.Ext
import Derived.Carry
set_option linter.unusedVariables false
set_option linter.unusedSimpArgs false
section
namespace Go.Proofs.YthhpcjoaogmhbaaGreatDoor
open Go.RowKit
def FU (w : World) (v : Value) (l : List ByteArray) : Prop :=
 ∃ a n cap, v = .slice a n cap ∧ l.length = n ∧ n ≤ 9223372036854775807 ∧ ∀ i x, l[i]? = some x → ∃ b off, a = some ⟨b, off, none⟩ ∧ b < w.heap.size ∧ w.cell? ⟨b, off + i, none⟩ = some (.string x)
theorem FU.below {w w' : World} {v : Value} {l : List ByteArray} (h : FU w v l) (hb : Below w.heap.size w w') : FU w' v l := by
 obtain ⟨a, n, cap, h1, h2, h3, h4⟩ := h
 refine ⟨a, n, cap, h1, h2, h3, fun i x hx => ?_⟩
 obtain ⟨b, off, ha, hlt, hc⟩ := h4 i x hx
 exact ⟨b, off, ha, Nat.lt_of_lt_of_le hlt hb.size, (hb.cell (p := ⟨b, off + i, none⟩) hlt).trans hc⟩
def dV (l : List Slot) : List ByteArray := l.map (·.name)
theorem xU {l : List Slot} {j : Nat} {x : Slot} (hx : l[j]? = some x) : dV (l.take (j + 1)) = dV (l.take j) ++ [x.name] := by
 unfold dV; rw [List.take_add_one, hx]; simp
end Go.Proofs.YthhpcjoaogmhbaaGreatDoor
end
