/- Joined by my own program, in build order: OwnG. -/
import Derived.Test.YthhpcjoaogmhbaaGreatDoorChecked
import Derived.WalkKit
import Derived.ProofKit
import Derived.Laws.AppendOwn
import Derived.Deep.AppendLies
import Derived.OwnWalk
import Derived.Deep.OwnRows
set_option linter.unusedVariables false
set_option linter.unusedSimpArgs false
section
namespace Go.Proofs.YthhpcjoaogmhbaaGreatDoor
open Go.RowKit
structure Own (w0 wr : World) (e : TypeId) (sz : Nat) (v : Value) (n : Nat) (cells : List Value) : Prop where
 below : Below w0.heap.size w0 wr
 own : wr.ownsRow w0.heap.size e sz v n cells
theorem Own.start (w0 : World) (e : TypeId) (sz : Nat) : Own w0 w0 e sz (.slice none 0 0) 0 [] := ⟨Below.refl _ _, World.ownsRow_nil _ _ _ _⟩
section
variable {w0 wr w1 : World} {e : TypeId} {sz n : Nat} {v : Value} {cells : List Value}
theorem Own.more (h : Own w0 wr e sz v n cells) (hb : Below wr.heap.size wr w1) : Own w0 w1 e sz v n cells :=
 ⟨h.below.trans (hb.mono h.below.size), h.own.kept (row := none) ⟨hb.os, hb.tape, hb.output, hb.size, fun k hk _ => hb.block k hk⟩ (by
   cases hq : v.ownBlock with
   | none => exact .inl rfl
   | some b => exact .inr (by simp))⟩
theorem Own.alloc (h : Own w0 wr e sz v n cells) (o : Obj) : Own w0 (wr.alloc o) e sz v n cells := h.more ((Below.refl _ _).alloc (Nat.le_refl _) _)
theorem Own.push {v' : Value} {n' : Nat} {cells' : List Value} (h : Own w0 wr e sz v n cells) (hg : wr.grownBy w1 v.ownBlock) (hown : w1.ownsRow w0.heap.size e sz v' n' cells') : Own w0 w1 e sz v' n' cells' :=
 ⟨h.below.grown hg h.below.size (fun q hq => (h.own.lt q hq).1), hown⟩
theorem Own.shape (h : Own w0 wr e sz v n cells) : ∃ a cap, v = .slice a n cap := by
 rcases h.own.2 with ⟨h1, h2⟩ | ⟨g, cap, cur, h1, -⟩
 ·exact ⟨none, 0, by rw [h1, h2]⟩
 ·exact ⟨_, cap, h1⟩
theorem Own.len (h : Own w0 wr e sz v n cells) : cells.length = n * sz := h.own.1
end
end Go.Proofs.YthhpcjoaogmhbaaGreatDoor
end
