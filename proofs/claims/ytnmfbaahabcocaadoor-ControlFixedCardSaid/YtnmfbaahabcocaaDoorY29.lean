/- Joined by my own program, in build order: OwnG, Own. -/
import Derived.Test.YtnmfbaahabcocaaDoorChecked
import Derived.WalkKit
import Derived.ProofKit
import Derived.Laws.AppendOwn
import Derived.Deep.AppendLies
import Derived.OwnWalk
import Derived.Deep.OwnRows
import Derived.Test.YtnmfbaahabcocaaDoorY6
set_option linter.unusedVariables false
set_option linter.unusedSimpArgs false
section
namespace Go.Proofs.YtnmfbaahabcocaaDoor
open Go.RowKit
structure Own (w0 wr : World) (e : TypeId) (sz : Nat) (v : Value) (n : Nat) (cells : List Value) : Prop where
  below : Below w0.heap.size w0 wr
  own : wr.ownsRow w0.heap.size e sz v n cells
theorem Own.start (w0 : World) (e : TypeId) (sz : Nat) : Own w0 w0 e sz (.slice none 0 0) 0 [] := ⟨Below.refl _ _, World.ownsRow_nil _ _ _ _⟩
section
variable {w0 wr w1 : World} {e : TypeId} {sz n : Nat} {v : Value} {cells : List Value}
theorem Own.more (h : Own w0 wr e sz v n cells) (hb : Below wr.heap.size wr w1) : Own w0 w1 e sz v n cells :=
  ⟨h.below.trans (hb.mono h.below.size), h.own.kept (row := none) ⟨hb.os, hb.tape, hb.output, hb.size, fun k hk _ => hb.block k hk⟩ (by
    cases hq : v.ownBlock with
    | none => exact .inl rfl
    | some b => exact .inr (by simp))⟩
theorem Own.alloc (h : Own w0 wr e sz v n cells) (o : Obj) : Own w0 (wr.alloc o) e sz v n cells := h.more ((Below.refl _ _).alloc (Nat.le_refl _) _)
theorem Own.push {v' : Value} {n' : Nat} {cells' : List Value} (h : Own w0 wr e sz v n cells) (hg : wr.grownBy w1 v.ownBlock) (hown : w1.ownsRow w0.heap.size e sz v' n' cells') : Own w0 w1 e sz v' n' cells' :=
  ⟨h.below.grown hg h.below.size (fun q hq => (h.own.lt q hq).1), hown⟩
theorem Own.shape (h : Own w0 wr e sz v n cells) : ∃ a cap, v = .slice a n cap := by
  rcases h.own.2 with ⟨h1, h2⟩ | ⟨g, cap, cur, h1, -⟩
  · exact ⟨none, 0, by rw [h1, h2]⟩
  · exact ⟨_, cap, h1⟩
theorem Own.len (h : Own w0 wr e sz v n cells) : cells.length = n * sz := h.own.1
end
theorem news_new (wr : World) (cs : Array Value) (e : TypeId) : ∀ (j : Nat) (u : Value), cs.toList[j]? = some u → (wr.alloc (.cells cs e)).cell? ((Addr.mk wr.heap.size 0 none).add j) = some u :=
  World.news_of_block (heap_alloc_new wr (.cells cs e))
theorem wpList_push {P : Go.Program} {ops : Array Oper} {rest : List Oper} {o : Oper} {a : Act} {Q : Exit → Act → World → Prop} (e : TypeId) (size bytes : Nat) (z : Value) (hi : (P.info? e).map (fun i => (i.zero, i.size, i.bytes)) = some (some z, size, bytes)) (hzs : z.cells.size = size) (hsz : 0 < size)
    (hgd : o.guard = none) (s x : Operand) (t : TypeId) (ho : o.op = .call { callee := .builtin .append, args := #[s, x], argTypes := #[t, t] }) (ht : P.underlying t = some (.slice e))
    {w0 wr : World} {v : Value} {n m : Nat} {xs : List Value} {cs : Array Value} (hs : a.eval s = v) (hown : Own w0 wr e size v n xs) {H : Nat} (hx : a.eval x = .slice (some ⟨H, 0, none⟩) m m) (hH : wr.heap.size = H) (hl : cs.size = m * size) (h1 : ∀ u ∈ cs.toList, u.oneCell' = true)
    (hm : 0 < m) (h63 : n + m ≤ maxLen) (hbytes : (n + m) * bytes ≤ 140737488355328)
    (h : ∀ g cap w', Own w0 w' e size (.slice (some ⟨g, 0, none⟩) (n + m) cap) (n + m) (xs ++ cs.toList) → wr.grownBy w' v.ownBlock → (v.ownBlock = some g ∨ g = wr.heap.size + 1) → wpList P ops Q rest (a.put o.dst (.slice (some ⟨g, 0, none⟩) (n + m) cap)) w') :
    wpList P ops Q (o :: rest) a (wr.alloc (.cells cs e)) := by
  subst hH
  obtain ⟨i0, hi, hz0, hz1, hz2⟩ := info_parts hi
  have ha := hown.alloc (.cells cs e)
  refine wpList_append_lies _ hgd s x t ho w0.heap.size e i0 z size bytes ht hi hz0 hz1 hz2 hzs hsz v n xs hs ha.own ⟨wr.heap.size, 0, none⟩ m m cs.toList hx (by simpa using hl) (news_new wr cs e) h1 hm h63 hbytes ha.below.size (wr.heap.size + 1) (by simp) ?_
  intro g cap w' hown' hg hat hlt
  have hal : Below wr.heap.size wr (wr.alloc (.cells cs e)) := (Below.refl _ _).alloc (Nat.le_refl _) _
  exact h g cap w' (ha.push hg hown') ⟨hg.os.trans hal.os, hg.tape.trans hal.tape, hg.output.trans hal.output, Nat.le_trans hal.size hg.size, fun q hq hne => (hg.block q (Nat.lt_of_lt_of_le hq hal.size) hne).trans (hal.block q hq)⟩ hat
end Go.Proofs.YtnmfbaahabcocaaDoor
end
section
namespace Go.Proofs.YtnmfbaahabcocaaDoor
open Go.RowKit
theorem infoInt : (Tryd.prog.info? 3).map (fun i => (i.zero, i.size, i.bytes)) = some (some (.int .i64 0), 1, 8) := by kernel_rfl
def iI (i : Int) : Value := .int .i64 i
theorem push_int {ops : Array Oper} {rest : List Oper} {o : Oper} {a : Act} {Q : Exit → Act → World → Prop} (hgd : o.guard = none) (s x : Operand) (ho : o.op = .call { callee := .builtin .append, args := #[s, x], argTypes := #[26, 26] })
    {w0 wr : World} {v : Value} {l : List Int} {y : Int} (hs : a.eval s = v) (hown : Own w0 wr 3 1 v l.length (l.map iI)) {H : Nat} (hx : a.eval x = .slice (some ⟨H, 0, none⟩) 1 1) (hH : wr.heap.size = H) (hn : l.length ≤ 1000000000000)
    (h : ∀ g cap w', Own w0 w' 3 1 (.slice (some ⟨g, 0, none⟩) (l.length + 1) cap) (l ++ [y]).length ((l ++ [y]).map iI) → wr.grownBy w' v.ownBlock → (v.ownBlock = some g ∨ g = wr.heap.size + 1) → wpList Tryd.prog ops Q rest (a.put o.dst (.slice (some ⟨g, 0, none⟩) (l.length + 1) cap)) w') :
    wpList Tryd.prog ops Q (o :: rest) a (wr.alloc (.cells #[.int .i64 y] 3)) :=
  wpList_push 3 1 8 _ infoInt rfl (by decide) hgd s x _ ho Tryd.underlying26 hs hown hx hH (by simp) (by simp [Value.oneCell']) (by decide) (by unfold maxLen; omega) (by omega) (fun g cap w' h1 h2 h3 => h g cap w' (by rw [List.length_append, List.map_append]; exact h1) h2 h3)
theorem RI.of_Own {w0 wr : World} {v : Value} {l : List Int} (h : Own w0 wr 3 1 v l.length (l.map iI)) : RI wr v l := RI.of_own h.own
end Go.Proofs.YtnmfbaahabcocaaDoor
end
