/- Joined by my own program, in build order: Up. -/
import Derived.Test.YtgaipdillmleeaaGreatX18
import Derived.Test.YtgaipdillmleeaaGreatX23
import Derived.Shelf.Abstract
import Derived.Shelf.RegionOpen
import Derived.OwnWalkIn
import Derived.TacticsInMore
import Derived.LoopNIn
import Derived.LoopIn
set_option linter.unusedVariables false
set_option linter.unusedSimpArgs false
section
namespace Go.Proofs.YtgaipdillmleeaaGreat
open Go.RowKit Go.Shelf
attribute [local go_sem] Oper.semAt_some
theorem rZ {α : Type} (p : α → Bool) : ∀ (l : List α), 0 ≤ dO p l → ∃ x, l[(dO p l).toNat]? = some x ∧ p x = true
 | [], h => by unfold dO at h; omega
 | y :: l, h => by
   have hge := sW p l;unfold dO at h ⊢;by_cases hy : p y = true
   ·rw [if_pos hy]; exact ⟨y, rfl, hy⟩
   ·rw [if_neg hy] at h ⊢;by_cases h1 : dO p l = -1
    ·rw [if_pos h1] at h; omega
    ·rw [if_neg h1];obtain ⟨x, hx, hp⟩ := rZ p l (by omega);refine ⟨x, ?_, hp⟩;have e : (dO p l + 1).toNat = (dO p l).toNat + 1 := by omega
     rw [e]; simpa using hx
def wz (cs : List Class) (name : ByteArray) : Option Nat := if 0 ≤ dO (ji name) cs then some (dO (ji name) cs).toNat else none
def sM (cs : List Class) (j : Nat) : ByteArray := (cs[j]?.map (·.super)).getD ⟨#[]⟩
def upX (cs : List Class) : Nat → Nat → ByteArray → List (Nat × Nat)
 | 0, _, _ => []
 | k + 1, m, name => match wz cs name with
   | none => []
   | some j => (m, j) :: upX cs k (m + 1) (sM cs j)
theorem nN (cs : List Class) : ∀ (k m : Nat) (name : ByteArray), (upX cs k m name).length ≤ k
 | 0, _, _ => Nat.le_refl _
 | k + 1, m, name => by
   unfold upX;cases wz cs name with
   | none => simp
   | some j => have := nN cs k (m + 1) (sM cs j); simp; omega
abbrev CI (cs : List Class) := { x : Nat × Nat // ∃ c, cs[x.2]? = some c }
def vals {cs : List Class} (l : List (CI cs)) : List (Nat × Nat) := l.map (·.1)
def Q5 (n0 b1 b2 : Nat) (W W' : World) : Prop := Below n0 W W' ∧ W'.heap[b1]? = W.heap[b1]? ∧ W'.heap[b2]? = W.heap[b2]?
theorem Q5.trans {n0 b1 b2 : Nat} {A B C : World} (h : Q5 n0 b1 b2 A B) (k : Q5 n0 b1 b2 B C) : Q5 n0 b1 b2 A C := ⟨h.1.trans k.1, k.2.1.trans h.2.1, k.2.2.trans h.2.2⟩
theorem XH (cv mv : Value) (name : ByteArray) (w : World) :
 Calls Tryz.prog 64 #[.agg #[cv, mv], .string name] w fun e w' => e = .returned (.func (.func 112) #[] #[.pointer (some ⟨w.heap.size, 0, none⟩), .pointer (some ⟨w.heap.size + 1, 0, none⟩)]) ∧ w' = (w.alloc (.cells #[cv, mv] 25)).alloc (.cells #[.string name] 9) := by
 go_enter Tryz.func64, Tryz.ntmps64
 go_wp2
 go_ret
 exact ⟨rfl, rfl⟩
def P8 (d : Nat) (W : World) (n0 : Nat) (cv : Value) (cs : List Class) (enc : Nat → Array Value) : Prop :=
 ∀ j c, cs[j]? = some c → j4 d W (· < n0) (enc j).toList c ∧ ∃ a off k cap fv mv', cv = .slice (some ⟨a, off, none⟩) k cap ∧ a < n0 ∧ enc j = #[.string c.name, .string c.super, fv, mv'] ∧ fZ W a (off + j * 4) [.string c.name, .string c.super, fv, mv']
theorem P8.shapes {d : Nat} {W : World} {n0 : Nat} {cv : Value} {cs : List Class} {enc : Nat → Array Value} (h : P8 d W n0 cv cs enc) {j : Nat} {c : Class} (hc : cs[j]? = some c) :
 ∃ fa fl fc ma ml mc, enc j = #[.string c.name, .string c.super, .slice fa fl fc, .slice ma ml mc] ∧ lI W (· < n0) (.slice fa fl fc) c.fields ∧ qR d W (· < n0) (.slice ma ml mc) c.methods := by
 obtain ⟨⟨fv, mv, e, -, -, hf, hm⟩, -⟩ := h j c hc
 obtain ⟨fa, fl, fc, rfl⟩ := RSl.shape hf
 obtain ⟨ma, ml, mc, rfl⟩ := RSl.shape hm
 exact ⟨fa, fl, fc, ma, ml, mc, by rw [← Array.toList_inj]; exact e, hf, hm⟩
end Go.Proofs.YtgaipdillmleeaaGreat
end
