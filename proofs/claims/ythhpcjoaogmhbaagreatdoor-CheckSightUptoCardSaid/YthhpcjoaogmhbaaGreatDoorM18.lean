/- Joined by my own program, in build order: Up. -/
import Derived.Test.YthhpcjoaogmhbaaGreatDoorM16
import Derived.Test.YthhpcjoaogmhbaaGreatDoorM17
import Derived.Shelf.Abstract
import Derived.Shelf.RegionOpen
import Derived.OwnWalkIn
import Derived.TacticsInMore
import Derived.LoopNIn
import Derived.LoopIn
set_option linter.unusedVariables false
set_option linter.unusedSimpArgs false
section
namespace Go.Proofs.YthhpcjoaogmhbaaGreatDoor
open Go.RowKit Go.Shelf
attribute [local go_sem] Oper.semAt_some
theorem idxB_spec {α : Type} (p : α → Bool) : ∀ (l : List α), 0 ≤ idxB p l → ∃ x, l[(idxB p l).toNat]? = some x ∧ p x = true
 | [], h => by unfold idxB at h; omega
 | y :: l, h => by
   have hge := idxB_ge p l
   unfold idxB at h ⊢
   by_cases hy : p y = true
   ·rw [if_pos hy]; exact ⟨y, rfl, hy⟩
   ·rw [if_neg hy] at h ⊢
    by_cases h1 : idxB p l = -1
    ·rw [if_pos h1] at h; omega
    ·rw [if_neg h1]
     obtain ⟨x, hx, hp⟩ := idxB_spec p l (by omega)
     refine ⟨x, ?_, hp⟩
     have e : (idxB p l + 1).toNat = (idxB p l).toNat + 1 := by omega
     rw [e]; simpa using hx
def findJ (cs : List Class) (name : ByteArray) : Option Nat := if 0 ≤ idxB (namedB name) cs then some (idxB (namedB name) cs).toNat else none
def superOf (cs : List Class) (j : Nat) : ByteArray := (cs[j]?.map (·.super)).getD ⟨#[]⟩
def upX (cs : List Class) : Nat → Nat → ByteArray → List (Nat × Nat)
 | 0, _, _ => []
 | k + 1, m, name => match findJ cs name with
   | none => []
   | some j => (m, j) :: upX cs k (m + 1) (superOf cs j)
theorem upX_len (cs : List Class) : ∀ (k m : Nat) (name : ByteArray), (upX cs k m name).length ≤ k
 | 0, _, _ => Nat.le_refl _
 | k + 1, m, name => by
   unfold upX
   cases findJ cs name with
   | none => simp
   | some j => have := upX_len cs k (m + 1) (superOf cs j); simp; omega
abbrev CI (cs : List Class) := { x : Nat × Nat // ∃ c, cs[x.2]? = some c }
def vals {cs : List Class} (l : List (CI cs)) : List (Nat × Nat) := l.map (·.1)
def KpUp (n0 b1 b2 : Nat) (W W' : World) : Prop := Below n0 W W' ∧ W'.heap[b1]? = W.heap[b1]? ∧ W'.heap[b2]? = W.heap[b2]?
theorem KpUp.trans {n0 b1 b2 : Nat} {A B C : World} (h : KpUp n0 b1 b2 A B) (k : KpUp n0 b1 b2 B C) : KpUp n0 b1 b2 A C := ⟨h.1.trans k.1, k.2.1.trans h.2.1, k.2.2.trans h.2.2⟩
theorem up_any (cv mv : Value) (name : ByteArray) (w : World) :
 Calls Tryz.prog 57 #[.agg #[cv, mv], .string name] w fun e w' => e = .returned (.func (.func 92) #[] #[.pointer (some ⟨w.heap.size, 0, none⟩), .pointer (some ⟨w.heap.size + 1, 0, none⟩)]) ∧ w' = (w.alloc (.cells #[cv, mv] 25)).alloc (.cells #[.string name] 9) := by
 go_enter Tryz.func57, Tryz.ntmps57
 go_wp2
 go_ret
 exact ⟨rfl, rfl⟩
def EncCls (d : Nat) (W : World) (n0 : Nat) (cv : Value) (cs : List Class) (enc : Nat → Array Value) : Prop :=
 ∀ j c, cs[j]? = some c → RClass d W (· < n0) (enc j).toList c ∧ ∃ a off k cap fv mv', cv = .slice (some ⟨a, off, none⟩) k cap ∧ a < n0 ∧ enc j = #[.string c.name, .string c.super, fv, mv'] ∧ cellsAt W a (off + j * 4) [.string c.name, .string c.super, fv, mv']
theorem EncCls.shapes {d : Nat} {W : World} {n0 : Nat} {cv : Value} {cs : List Class} {enc : Nat → Array Value} (h : EncCls d W n0 cv cs enc) {j : Nat} {c : Class} (hc : cs[j]? = some c) :
 ∃ fa fl fc ma ml mc, enc j = #[.string c.name, .string c.super, .slice fa fl fc, .slice ma ml mc] ∧ RSlots W (· < n0) (.slice fa fl fc) c.fields ∧ RMethods d W (· < n0) (.slice ma ml mc) c.methods := by
 obtain ⟨⟨fv, mv, e, -, -, hf, hm⟩, -⟩ := h j c hc
 obtain ⟨fa, fl, fc, rfl⟩ := RSl.shape hf
 obtain ⟨ma, ml, mc, rfl⟩ := RSl.shape hm
 exact ⟨fa, fl, fc, ma, ml, mc, by rw [← Array.toList_inj]; exact e, hf, hm⟩
end Go.Proofs.YthhpcjoaogmhbaaGreatDoor
end
