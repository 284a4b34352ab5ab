/- Joined by my own program, in build order: Closures. -/
import Derived.Test.YtgaipdillmleeaaGreatX24
import Derived.Test.YtgaipdillmleeaaGreatX22
import Derived.Test.YtgaipdillmleeaaGreatX6
set_option linter.unusedVariables false
set_option linter.unusedSimpArgs false
section
namespace Go.Proofs.YtgaipdillmleeaaGreat
open Go.RowKit Go.Shelf
def oV (name : ByteArray) (m : Method) : Bool := m.name.toList == name.toList
def nV (m : Method) (above : List Method) : Bool := match above.find? (oV m.name) with | some o => gH m o | none => true
def Cg (cs : List Class) (c : Class) (m : Nat) (x : Class) : Bool := !(decide (m = cs.length)) && (x.super.toList.isEmpty || cs.any (ji x.super)) && c.methods.all fun y => nV y x.methods
def rA (cs : List Class) (c : Class) (x : Nat × Nat) : Bool := match cs[x.2]? with | some k => Cg cs c x.1 k | none => true
def mK (cs : List Class) (x : Nat × Nat) : List ByteArray := match cs[x.2]? with | some k => dD k.fields | none => []
def dL (cs : List Class) (l : List (Nat × Nat)) : List ByteArray := l.flatMap (mK cs)
def dQ (cs : List Class) (c : Class) : Bool :=
 (upX cs (cs.length + 1) 0 c.name).all (rA cs c) && c.methods.all (fun m => jT (dD m.params)) && jT (dL cs (upX cs (cs.length + 1) 0 c.name)) && jT (c.methods.map (·.name))
theorem BZ {cs : List Class} {pre : List (Nat × Nat)} {m j : Nat} {k : Class} (h : cs[j]? = some k) : dL cs (pre ++ [(m, j)]) = dL cs pre ++ dD k.fields := by
 simp [dL, mK, h]
theorem l7 {cs : List Class} {c : Class} {m j : Nat} {k : Class} (h : cs[j]? = some k) : rA cs c (m, j) = Cg cs c m k := by simp [rA, h]
theorem BA {α : Type} (p : α → Bool) : ∀ l : List α, (dO p l < 0 → l.find? p = none) ∧ (0 ≤ dO p l → l[(dO p l).toNat]? = l.find? p)
 | [] => ⟨fun _ => rfl, fun h => by simp [dO] at h⟩
 | x :: l => by
   have ih := BA p l;have h2 := sW p l;unfold dO;by_cases hp : p x = true
   ·rw [if_pos hp, List.find?_cons_of_pos hp];exact ⟨fun h => by omega, fun _ => rfl⟩
   ·rw [if_neg hp, List.find?_cons_of_neg hp];by_cases h1 : dO p l = -1
    ·rw [if_pos h1];exact ⟨fun _ => ih.1 (by omega), fun h => by omega⟩
    ·rw [if_neg h1];refine ⟨fun h => by omega, fun _ => ?_⟩;have e : (dO p l + 1).toNat = (dO p l).toNat + 1 := by omega
     rw [e, List.getElem?_cons_succ];exact ih.2 (by omega)
end Go.Proofs.YtgaipdillmleeaaGreat
end
