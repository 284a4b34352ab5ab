/- Joined by my own program, in build order: Face. -/
import Derived.Test.YthhpcjoaogmhbaaGreatDoorChecked
import Derived.WalkKit
import Derived.Tactics
import Derived.Tactics2
import Derived.Defers
import Derived.Recover
import Derived.Laws.Pointers
set_option linter.unusedVariables false
set_option linter.unusedSimpArgs false
section
namespace Go.Proofs.YthhpcjoaogmhbaaGreatDoor
theorem Kr (v : Value) (w : World) :
 CallsD Tryz.prog 13 #[v] .returning w fun e u' w' => e = .returned (.tuple #[]) ∧ u' = .returning ∧ w' = w := by
 refine callsD_of_wpS Tryz.func13 rfl fun c₀ cs hu => ?_
 apply wpS_seq
 apply wpS_region
 simp [wpOpsS, go_sem, recoverD, hu, Tryz.ntmps13, Exit.thenS]
 refine wpS_of_wp ?_
 go_wp2
 cases c₀
 simp_all [bodyPostS, results, Tryz.results13]
set_option maxRecDepth 100000 in
theorem D9 (b : Nat) (x : Int) (w : World) (hc : w.cell? ⟨b, 0, none⟩ = some (.int .i64 x)) (hz : w.frozen? ⟨b, 0, none⟩ = false) (older : List PanicEntry) :
 CallsD Tryz.prog 13 #[.pointer (some ⟨b, 0, none⟩)] (.panicking ({ v := .iface 67 (.agg #[]), recovered := false } :: older)) w fun e u' w' => e = .returned (.tuple #[]) ∧ u' = .panicking ({ v := .iface 67 (.agg #[]), recovered := true } :: older) ∧ ∃ o, w' = (w.setCell ⟨b, 0, none⟩ (.int .i64 70)).alloc o := by
 have hta : ∀ w : World, (Instr.typeAssert (.iface 67 (.agg #[])) 20 67 true).run Tryz.prog w = .ok (.tuple #[.agg #[], .bool true]) w := fun w => by
  simp [Instr.typeAssert]
 have hlt : b < w.heap.size := by
  unfold World.cell? at hc
  split at hc
  ·rename_i h; exact (Array.getElem?_eq_some_iff.1 h).1
  ·cases hc
 have hc' : ∀ o, (w.alloc o).cell? ⟨b, 0, none⟩ = some (.int .i64 x) := fun o => (World.cell?_of_block (w := w) (by show (w.heap.push _)[b]? = _; rw [Array.getElem?_push_lt hlt]; exact (Array.getElem?_eq_getElem hlt).symm)).trans hc
 have hz' : ∀ o, (w.alloc o).frozen? ⟨b, 0, none⟩ = false := fun o => (World.frozen?_alloc_old w o ⟨b, 0, none⟩ (by show b ≠ _; omega)).trans hz
 refine callsD_of_wpS Tryz.func13 rfl fun c₀ cs hu => ?_
 apply wpS_seq
 apply wpS_region
 simp [wpOpsS, go_sem, recoverD, hu, Tryz.ntmps13, Exit.thenS]
 refine wpS_of_wp ?_
 go_wp2
 cases c₀
 simp_all [bodyPostS, results, Tryz.results13]
 exact ⟨_, rfl⟩
end Go.Proofs.YthhpcjoaogmhbaaGreatDoor
end
