/- Joined by my own program, in build order: Less. -/
import Derived.Test.YtnmfbaahabcocaaDoorY19
import Derived.Test.YtnmfbaahabcocaaDoorY30
set_option linter.unusedVariables false
set_option linter.unusedSimpArgs false
section
namespace Go.Proofs.YtnmfbaahabcocaaDoor
open Go.RowKit
def lessE (E : List (Nat × Nat)) (a : Nat) : List (Nat × Nat) := E.filter fun e => decide (e.1 ≠ a) && decide (e.2 ≠ a)
theorem lessE_map (E : List (Nat × Nat)) (a : Nat) : (E.map toE).filter (keepB a) = (lessE E a).map toE := by
  unfold lessE
  rw [List.filter_map]
  congr 1
  apply List.filter_congr
  intro e _
  show (decide ((e.1 : Int) ≠ (a : Int)) && decide ((e.2 : Int) ≠ (a : Int))) = _
  rw [Bool.eq_iff_iff]
  simp only [Bool.and_eq_true, decide_eq_true_eq]
  omega
theorem RchA.off {E : List (Nat × Nat)} {s a b : Nat} (h : RchA E s a b) : b ≠ a := by
  cases h with
  | here h => exact h
  | step _ _ h => exact h
theorem rch_less {E : List (Nat × Nat)} {s a b : Nat} (has : a ≠ s) : Rch (lessE E a) s b ↔ RchA E s a b := by
  constructor
  · intro h
    induction h with
    | here => exact .here (Ne.symm has)
    | step _ he ih =>
      unfold lessE at he
      rw [List.mem_filter] at he
      have h2 := he.2
      simp only [Bool.and_eq_true, decide_eq_true_eq] at h2
      exact ih.step he.1 h2.2
  · intro h
    induction h with
    | here => exact .here
    | step h1 he hne ih =>
      refine ih.step (List.mem_filter.2 ⟨he, ?_⟩)
      simp only [Bool.and_eq_true, decide_eq_true_eq]
      exact ⟨h1.off, hne⟩
theorem less_len (E : List (Nat × Nat)) (a : Nat) : (lessE E a).length ≤ E.length := List.length_filter_le _ _
theorem less_mem {E : List (Nat × Nat)} {a : Nat} {e : Nat × Nat} (h : e ∈ lessE E a) : e ∈ E := (List.mem_filter.1 h).1
end Go.Proofs.YtnmfbaahabcocaaDoor
end
