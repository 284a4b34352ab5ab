/- Joined by my own program, in build order: Ints. -/
import Derived.Test.YtnmfbaahabcocaaDoorY2
import Derived.Laws.AppendOwn
import Derived.BigQuiet
import Derived.Handy
set_option linter.unusedVariables false
set_option linter.unusedSimpArgs false
section
namespace Go.Proofs.YtnmfbaahabcocaaDoor
open Go.RowKit
theorem bdrewN {B : Nat} {a w : World} (h : Below B a w) (n : Nat) : Below B a (w.drewN n) := ⟨h.os, h.tape, h.output, h.size, h.block⟩
def RI (w : World) (v : Value) (l : List Int) : Prop :=
  ∃ a n cap, v = .slice a n cap ∧ l.length = n ∧ n ≤ 9223372036854775807 ∧ ∀ i x, l[i]? = some x → ∃ b off, a = some ⟨b, off, none⟩ ∧ b < w.heap.size ∧ w.cell? ⟨b, off + i, none⟩ = some (.int .i64 x)
theorem RI.below {w w' : World} {v : Value} {l : List Int} (h : RI w v l) (hb : Below w.heap.size w w') : RI w' v l := by
  obtain ⟨a, n, cap, h1, h2, h3, h4⟩ := h
  refine ⟨a, n, cap, h1, h2, h3, fun i x hx => ?_⟩
  obtain ⟨b, off, ha, hlt, hc⟩ := h4 i x hx
  exact ⟨b, off, ha, Nat.lt_of_lt_of_le hlt hb.size, (hb.cell (p := ⟨b, off + i, none⟩) hlt).trans hc⟩
theorem RI.of_own {w : World} {base : Nat} {t : TypeId} {v : Value} {n : Nat} {l : List Int} (h : w.ownsRow base t 1 v n (l.map fun i : Int => Value.int .i64 i)) : RI w v l := by
  obtain ⟨hl, h⟩ := h
  have hn : l.length = n := by simpa using hl
  rcases h with ⟨rfl, rfl⟩ | ⟨g, cap, cur, rfl, hb, hg, h1, h2, h3, h4⟩
  · exact ⟨none, 0, 0, rfl, hn, by omega, fun i x hx => by
      have : l = [] := List.eq_nil_of_length_eq_zero hn
      subst this; simp at hx⟩
  · refine ⟨some ⟨g, 0, none⟩, n, cap, rfl, hn, by unfold maxLen at h2; omega, fun i x hx => ⟨g, 0, rfl, (Array.getElem?_eq_some_iff.1 hg).1, ?_⟩⟩
    have hi : i < n := by rw [← hn]; exact (List.getElem?_eq_some_iff.1 hx).1
    have e : (cur.toList.take (n * 1))[i]? = some (.int .i64 x) := by rw [h4, List.getElem?_map, hx]; rfl
    rw [List.getElem?_take, if_pos (by omega), Array.getElem?_toList] at e
    simp [World.cell?, hg, e]
theorem RI.one {w : World} {g : Nat} {x : Int} (h : w.cell? ⟨g, 0, none⟩ = some (.int .i64 x)) : RI w (.slice (some ⟨g, 0, none⟩) 1 1) [x] :=
  ⟨_, 1, 1, rfl, rfl, by omega, fun i y hy => by
    cases i with
    | zero => simp at hy; subst hy; exact ⟨g, 0, rfl, cell_lt h, h⟩
    | succ i => simp at hy⟩
end Go.Proofs.YtnmfbaahabcocaaDoor
end
