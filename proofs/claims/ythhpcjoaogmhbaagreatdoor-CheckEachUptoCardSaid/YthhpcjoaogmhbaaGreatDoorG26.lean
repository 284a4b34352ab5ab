/- Joined by my own program, in build order: Closures. -/
import Derived.Test.YthhpcjoaogmhbaaGreatDoorG20
import Derived.Test.YthhpcjoaogmhbaaGreatDoorG25
import Derived.Test.YthhpcjoaogmhbaaGreatDoorG21
set_option linter.unusedVariables false
set_option linter.unusedSimpArgs false
section
namespace Go.Proofs.YthhpcjoaogmhbaaGreatDoor
open Go.RowKit Go.Shelf
def iJ (name : ByteArray) (m : Method) : Bool := m.name.toList == name.toList
def jS (m : Method) (above : List Method) : Bool := match above.find? (iJ m.name) with | some o => gJ m o | none => true
def xu (cs : List Class) (c : Class) (m : Nat) (x : Class) : Bool := !(decide (m = cs.length)) && (x.super.toList.isEmpty || cs.any (jg x.super)) && c.methods.all fun y => jS y x.methods
def nu (cs : List Class) (c : Class) (x : Nat × Nat) : Bool := match cs[x.2]? with | some k => xu cs c x.1 k | none => true
def lG (cs : List Class) (x : Nat × Nat) : List ByteArray := match cs[x.2]? with | some k => dV k.fields | none => []
def dG (cs : List Class) (l : List (Nat × Nat)) : List ByteArray := l.flatMap (lG cs)
def dB (cs : List Class) (c : Class) : Bool :=
 (upX cs (cs.length + 1) 0 c.name).all (nu cs c) && c.methods.all (fun m => jZ (dV m.params)) && jZ (dG cs (upX cs (cs.length + 1) 0 c.name)) && jZ (c.methods.map (·.name))
theorem Br {cs : List Class} {pre : List (Nat × Nat)} {m j : Nat} {k : Class} (h : cs[j]? = some k) : dG cs (pre ++ [(m, j)]) = dG cs pre ++ dV k.fields := by
 simp [dG, lG, h]
theorem mE {cs : List Class} {c : Class} {m j : Nat} {k : Class} (h : cs[j]? = some k) : nu cs c (m, j) = xu cs c m k := by simp [nu, h]
theorem AL {α : Type} (p : α → Bool) : ∀ l : List α, (dR p l < 0 → l.find? p = none) ∧ (0 ≤ dR p l → l[(dR p l).toNat]? = l.find? p)
 | [] => ⟨fun _ => rfl, fun h => by simp [dR] at h⟩
 | x :: l => by
   have ih := AL p l
   have h2 := rW p l
   unfold dR
   by_cases hp : p x = true
   ·rw [if_pos hp, List.find?_cons_of_pos hp]
    exact ⟨fun h => by omega, fun _ => rfl⟩
   ·rw [if_neg hp, List.find?_cons_of_neg hp]
    by_cases h1 : dR p l = -1
    ·rw [if_pos h1]
     exact ⟨fun _ => ih.1 (by omega), fun h => by omega⟩
    ·rw [if_neg h1]
     refine ⟨fun h => by omega, fun _ => ?_⟩
     have e : (dR p l + 1).toNat = (dR p l).toNat + 1 := by omega
     rw [e, List.getElem?_cons_succ]
     exact ih.2 (by omega)
end Go.Proofs.YthhpcjoaogmhbaaGreatDoor
end
