/- Joined by my own program, in build order: Closures. -/
import Derived.Test.YthhpcjoaogmhbaaGreatDoorM18
import Derived.Test.YthhpcjoaogmhbaaGreatDoorM23
import Derived.Test.YthhpcjoaogmhbaaGreatDoorM19
set_option linter.unusedVariables false
set_option linter.unusedSimpArgs false
section
namespace Go.Proofs.YthhpcjoaogmhbaaGreatDoor
open Go.RowKit Go.Shelf
def methB (name : ByteArray) (m : Method) : Bool := m.name.toList == name.toList
def fitsB (m : Method) (above : List Method) : Bool := match above.find? (methB m.name) with | some o => alikeB m o | none => true
def topB (cs : List Class) (c : Class) (m : Nat) (x : Class) : Bool := !(decide (m = cs.length)) && (x.super.toList.isEmpty || cs.any (namedB x.super)) && c.methods.all fun y => fitsB y x.methods
def roundB (cs : List Class) (c : Class) (x : Nat × Nat) : Bool := match cs[x.2]? with | some k => topB cs c x.1 k | none => true
def fieldsAt (cs : List Class) (x : Nat × Nat) : List ByteArray := match cs[x.2]? with | some k => namesL k.fields | none => []
def fieldsUp (cs : List Class) (l : List (Nat × Nat)) : List ByteArray := l.flatMap (fieldsAt cs)
def okClassB (cs : List Class) (c : Class) : Bool :=
 (upX cs (cs.length + 1) 0 c.name).all (roundB cs c) && c.methods.all (fun m => onceB (namesL m.params)) && onceB (fieldsUp cs (upX cs (cs.length + 1) 0 c.name)) && onceB (c.methods.map (·.name))
theorem fieldsUp_snoc {cs : List Class} {pre : List (Nat × Nat)} {m j : Nat} {k : Class} (h : cs[j]? = some k) : fieldsUp cs (pre ++ [(m, j)]) = fieldsUp cs pre ++ namesL k.fields := by
 simp [fieldsUp, fieldsAt, h]
theorem roundB_at {cs : List Class} {c : Class} {m j : Nat} {k : Class} (h : cs[j]? = some k) : roundB cs c (m, j) = topB cs c m k := by simp [roundB, h]
theorem idx_find {α : Type} (p : α → Bool) : ∀ l : List α, (idxB p l < 0 → l.find? p = none) ∧ (0 ≤ idxB p l → l[(idxB p l).toNat]? = l.find? p)
 | [] => ⟨fun _ => rfl, fun h => by simp [idxB] at h⟩
 | x :: l => by
   have ih := idx_find p l
   have h2 := idxB_ge p l
   unfold idxB
   by_cases hp : p x = true
   ·rw [if_pos hp, List.find?_cons_of_pos hp]
    exact ⟨fun h => by omega, fun _ => rfl⟩
   ·rw [if_neg hp, List.find?_cons_of_neg hp]
    by_cases h1 : idxB p l = -1
    ·rw [if_pos h1]
     exact ⟨fun _ => ih.1 (by omega), fun h => by omega⟩
    ·rw [if_neg h1]
     refine ⟨fun h => by omega, fun _ => ?_⟩
     have e : (idxB p l + 1).toNat = (idxB p l).toNat + 1 := by omega
     rw [e, List.getElem?_cons_succ]
     exact ih.2 (by omega)
end Go.Proofs.YthhpcjoaogmhbaaGreatDoor
end
