/- Joined by my own program, in build order: Up. -/
import Derived.Test.YthhpcjoaogmhbaaGreatDoorG18
import Derived.Test.YthhpcjoaogmhbaaGreatDoorG19
import Derived.Shelf.Abstract
import Derived.Shelf.RegionOpen
import Derived.OwnWalkIn
import Derived.TacticsInMore
import Derived.LoopNIn
import Derived.LoopIn
set_option linter.unusedVariables false
set_option linter.unusedSimpArgs false
section
namespace Go.Proofs.YthhpcjoaogmhbaaGreatDoor
open Go.RowKit Go.Shelf
attribute [local go_sem] Oper.semAt_some
theorem oz {α : Type} (p : α → Bool) : ∀ (l : List α), 0 ≤ dR p l → ∃ x, l[(dR p l).toNat]? = some x ∧ p x = true
 | [], h => by unfold dR at h; omega
 | y :: l, h => by
   have hge := rW p l
   unfold dR at h ⊢
   by_cases hy : p y = true
   ·rw [if_pos hy]; exact ⟨y, rfl, hy⟩
   ·rw [if_neg hy] at h ⊢
    by_cases h1 : dR p l = -1
    ·rw [if_pos h1] at h; omega
    ·rw [if_neg h1]
     obtain ⟨x, hx, hp⟩ := oz p l (by omega)
     refine ⟨x, ?_, hp⟩
     have e : (dR p l + 1).toNat = (dR p l).toNat + 1 := by omega
     rw [e]; simpa using hx
def oL (cs : List Class) (name : ByteArray) : Option Nat := if 0 ≤ dR (jg name) cs then some (dR (jg name) cs).toNat else none
def mg (cs : List Class) (j : Nat) : ByteArray := (cs[j]?.map (·.super)).getD ⟨#[]⟩
def upX (cs : List Class) : Nat → Nat → ByteArray → List (Nat × Nat)
 | 0, _, _ => []
 | k + 1, m, name => match oL cs name with
   | none => []
   | some j => (m, j) :: upX cs k (m + 1) (mg cs j)
theorem nP (cs : List Class) : ∀ (k m : Nat) (name : ByteArray), (upX cs k m name).length ≤ k
 | 0, _, _ => Nat.le_refl _
 | k + 1, m, name => by
   unfold upX
   cases oL cs name with
   | none => simp
   | some j => have := nP cs k (m + 1) (mg cs j); simp; omega
abbrev CI (cs : List Class) := { x : Nat × Nat // ∃ c, cs[x.2]? = some c }
def vals {cs : List Class} (l : List (CI cs)) : List (Nat × Nat) := l.map (·.1)
def OP (n0 b1 b2 : Nat) (W W' : World) : Prop := Below n0 W W' ∧ W'.heap[b1]? = W.heap[b1]? ∧ W'.heap[b2]? = W.heap[b2]?
theorem OP.trans {n0 b1 b2 : Nat} {A B C : World} (h : OP n0 b1 b2 A B) (k : OP n0 b1 b2 B C) : OP n0 b1 b2 A C := ⟨h.1.trans k.1, k.2.1.trans h.2.1, k.2.2.trans h.2.2⟩
theorem Rp (cv mv : Value) (name : ByteArray) (w : World) :
 Calls Tryz.prog 57 #[.agg #[cv, mv], .string name] w fun e w' => e = .returned (.func (.func 92) #[] #[.pointer (some ⟨w.heap.size, 0, none⟩), .pointer (some ⟨w.heap.size + 1, 0, none⟩)]) ∧ w' = (w.alloc (.cells #[cv, mv] 25)).alloc (.cells #[.string name] 9) := by
 go_enter Tryz.func57, Tryz.ntmps57
 go_wp2
 go_ret
 exact ⟨rfl, rfl⟩
def NH (d : Nat) (W : World) (n0 : Nat) (cv : Value) (cs : List Class) (enc : Nat → Array Value) : Prop :=
 ∀ j c, cs[j]? = some c → kG d W (· < n0) (enc j).toList c ∧ ∃ a off k cap fv mv', cv = .slice (some ⟨a, off, none⟩) k cap ∧ a < n0 ∧ enc j = #[.string c.name, .string c.super, fv, mv'] ∧ gL W a (off + j * 4) [.string c.name, .string c.super, fv, mv']
theorem NH.shapes {d : Nat} {W : World} {n0 : Nat} {cv : Value} {cs : List Class} {enc : Nat → Array Value} (h : NH d W n0 cv cs enc) {j : Nat} {c : Class} (hc : cs[j]? = some c) :
 ∃ fa fl fc ma ml mc, enc j = #[.string c.name, .string c.super, .slice fa fl fc, .slice ma ml mc] ∧ lT W (· < n0) (.slice fa fl fc) c.fields ∧ qK d W (· < n0) (.slice ma ml mc) c.methods := by
 obtain ⟨⟨fv, mv, e, -, -, hf, hm⟩, -⟩ := h j c hc
 obtain ⟨fa, fl, fc, rfl⟩ := RSl.shape hf
 obtain ⟨ma, ml, mc, rfl⟩ := RSl.shape hm
 exact ⟨fa, fl, fc, ma, ml, mc, by rw [← Array.toList_inj]; exact e, hf, hm⟩
end Go.Proofs.YthhpcjoaogmhbaaGreatDoor
end
