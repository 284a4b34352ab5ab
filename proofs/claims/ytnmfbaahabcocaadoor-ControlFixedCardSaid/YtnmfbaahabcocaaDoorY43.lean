/- Joined by my own program, in build order: ExL. -/
import Derived.Test.YtnmfbaahabcocaaDoorY22
import Derived.Test.YtnmfbaahabcocaaDoorY42
import Derived.Test.YtnmfbaahabcocaaDoorY40
set_option linter.unusedVariables false
set_option linter.unusedSimpArgs false
section
namespace Go.Proofs.YtnmfbaahabcocaaDoor
namespace C17
def exP : Prc := ⟨⟨#[]⟩, ⟨#[]⟩, 0, 1, exC⟩
theorem ex_ok : okC exC = true := by rfl
theorem tree_of (p : Prc) : ∃ u, okC p.code = true → Tree (turnP (gC p.code)) p.code.length u := by
 by_cases h : okC p.code = true
 ·refine ⟨_, fun _ => tree_exists (N := p.code.length + 1) (by omega) fun e he => ?_⟩
  obtain ⟨a, b⟩ := e
  have := gC_lt h _ (mem_turnP.1 he)
  simp only at this ⊢
  omega
 ·exact ⟨fun _ => none, fun k => absurd k h⟩
section
variable {u : Nat → Option Nat}
theorem ex_up (T : Tree (turnP exE) 3 u) : u 0 = some 2 ∧ u 1 = some 2 ∧ u 2 = some 3 := by
 have a3 : Rch (turnP exE) 3 3 := .here
 have a2 : Rch (turnP exE) 3 2 := a3.step (by simp [turnP, exE])
 have a1 : Rch (turnP exE) 3 1 := a2.step (by simp [turnP, exE])
 have a0 : Rch (turnP exE) 3 0 := a2.step (by simp [turnP, exE])
 obtain ⟨p2, hp2⟩ := T.some a2
 obtain ⟨p1, hp1⟩ := T.some a1
 obtain ⟨p0, hp0⟩ := T.some a0
 have hl := ex_tree T
 rw [show upL 3 u 4 = [upI 3 u 0, upI 3 u 1, upI 3 u 2, upI 3 u 3] from rfl, upI_some (by decide) hp0, upI_some (by decide) hp1, upI_some (by decide) hp2] at hl
 simp only [List.cons.injEq] at hl
 obtain ⟨h0, h1, h2, -⟩ := hl
 rw [hp0, hp1, hp2]
 exact ⟨congrArg some (by omega), congrArg some (by omega), congrArg some (by omega)⟩
theorem ex_anc3 {j : Nat} (h : Anc u 3 3 j) : j = 3 := by
 have := h.root
 omega
theorem ex_anc2 (T : Tree (turnP exE) 3 u) {j : Nat} : Anc u 3 2 j ↔ j = 2 ∨ j = 3 := by
 obtain ⟨h0, h1, h2⟩ := ex_up T
 constructor
 ·intro h
  by_cases e : (2 : Nat) = j
  ·exact .inl e.symm
  ·obtain ⟨-, q, hq, h3⟩ := h.next e
   rw [h2] at hq; cases hq
   exact .inr (ex_anc3 h3)
 ·rintro (rfl | rfl)
  ·exact .refl _
  ·exact .up (by decide) h2 (.refl _)
theorem ex_anc1 (T : Tree (turnP exE) 3 u) {j : Nat} : Anc u 3 1 j ↔ j = 1 ∨ j = 2 ∨ j = 3 := by
 obtain ⟨h0, h1, h2⟩ := ex_up T
 constructor
 ·intro h
  by_cases e : (1 : Nat) = j
  ·exact .inl e.symm
  ·obtain ⟨-, q, hq, h3⟩ := h.next e
   rw [h1] at hq; cases hq
   exact .inr ((ex_anc2 T).1 h3)
 ·rintro (rfl | h)
  ·exact .refl _
  ·exact .up (by decide) h1 ((ex_anc2 T).2 h)
theorem ex_anc0 (T : Tree (turnP exE) 3 u) {j : Nat} : Anc u 3 0 j ↔ j = 0 ∨ j = 2 ∨ j = 3 := by
 obtain ⟨h0, h1, h2⟩ := ex_up T
 constructor
 ·intro h
  by_cases e : (0 : Nat) = j
  ·exact .inl e.symm
  ·obtain ⟨-, q, hq, h3⟩ := h.next e
   rw [h0] at hq; cases hq
   exact .inr ((ex_anc2 T).1 h3)
 ·rintro (rfl | h)
  ·exact .refl _
  ·exact .up (by decide) h0 ((ex_anc2 T).2 h)
theorem ex_hang (T : Tree (turnP exE) 3 u) : hangL exE u 3 = [(0, 1)] := by
 refine G.rising_ext (hangL_rising _ _) (List.pairwise_singleton _ _) fun ⟨i, j⟩ => ?_
 rw [mem_hangL]
 unfold HangP
 constructor
 ·rintro ⟨hi, hj, b, hb, h1, h2⟩
  simp only [exE, List.mem_cons, Prod.mk.injEq, List.not_mem_nil, or_false] at hb
  rcases hb with ⟨rfl, rfl⟩ | ⟨rfl, rfl⟩ | ⟨rfl, rfl⟩ | ⟨rfl, rfl⟩
  ·rw [ex_anc1 T] at h1; rw [ex_anc0 T] at h2; simp; omega
  ·rw [ex_anc2 T] at h1; rw [ex_anc0 T] at h2; simp; omega
  ·rw [ex_anc2 T] at h1; rw [ex_anc1 T] at h2; simp; omega
  ·have := ex_anc3 h1; omega
 ·intro h
  obtain ⟨rfl, rfl⟩ : i = 0 ∧ j = 1 := by simpa using h
  refine ⟨by decide, by decide, 1, by simp [exE], .refl _, .inr fun k => ?_⟩
  rw [ex_anc0 T] at k
  omega
end
end C17
end Go.Proofs.YtnmfbaahabcocaaDoor
end
