/- Joined by my own program, in build order: Reach. -/
import Derived.Test.YtnmfbaahabcocaaDoorY9
set_option linter.unusedVariables false
set_option linter.unusedSimpArgs false
section
namespace Go.Proofs.YtnmfbaahabcocaaDoor
inductive Rch (E : List (Nat × Nat)) (s : Nat) : Nat → Prop
  | here : Rch E s s
  | step {i j : Nat} : Rch E s i → (i, j) ∈ E → Rch E s j
theorem mem_outs {E : List (Nat × Nat)} {i j : Nat} : j ∈ outs E i ↔ (i, j) ∈ E := by
  unfold outs
  rw [List.mem_map]
  constructor
  · rintro ⟨⟨a, b⟩, h, rfl⟩
    rw [List.mem_filter] at h
    have h2 : a = i := by simpa using h.2
    rw [← h2]; exact h.1
  · intro h
    exact ⟨(i, j), List.mem_filter.2 ⟨h, by simp⟩, rfl⟩
def pot (L : Nat → List Nat) (R : Nat → Bool) : Nat → Nat
  | 0 => 0
  | n + 1 => pot L R n + (if R n then 0 else (L n).length)
theorem pot_mark (L : Nat → List Nat) (R : Nat → Bool) (i : Nat) (hR : R i = false) : ∀ n, pot L (fun j => R j || decide (j = i)) n + (if i < n then (L i).length else 0) = pot L R n
  | 0 => by simp [pot]
  | n + 1 => by
    have ih := pot_mark L R i hR n
    unfold pot
    by_cases e : n = i
    · subst e
      have h1 : ¬ n < n := by omega
      simp only [h1, if_false] at ih
      simp [hR]; omega
    · by_cases h : i < n
      · have h2 : i < n + 1 := by omega
        simp only [h, h2, if_true] at ih ⊢
        simp [e]; omega
      · have h2 : ¬ i < n + 1 := by omega
        simp only [h, h2, if_false] at ih ⊢
        simp [e]; omega
theorem pot_le (L : Nat → List Nat) (R : Nat → Bool) (b : Nat) (hb : ∀ i, (L i).length ≤ b) : ∀ n, pot L R n ≤ n * b
  | 0 => by simp [pot]
  | n + 1 => by
    have ih := pot_le L R b hb n
    have h := hb n
    unfold pot
    rw [Nat.succ_mul]
    split <;> omega
structure MInv (E : List (Nat × Nat)) (s n : Nat) (work : List Nat) (R : Nat → Bool) : Prop where
  lt : ∀ i ∈ work, i < n
  reach : ∀ i ∈ work, Rch E s i
  marked : ∀ i, R i = true → Rch E s i
  next : ∀ i, R i = true → ∀ j ∈ outs E i, R j = true ∨ j ∈ work
  start : R s = true ∨ s ∈ work
theorem MInv.done {E : List (Nat × Nat)} {s n : Nat} {R : Nat → Bool} (h : MInv E s n [] R) (i : Nat) : R i = true ↔ Rch E s i := by
  refine ⟨h.marked i, fun hr => ?_⟩
  induction hr with
  | here => exact h.start.elim id (fun h => by cases h)
  | step _ he ih => exact (h.next _ ih _ (mem_outs.2 he)).elim id (fun h => by cases h)
theorem MInv.skip {E : List (Nat × Nat)} {s n i : Nat} {ws : List Nat} {R : Nat → Bool} (h : MInv E s n (ws ++ [i]) R) (hR : R i = true) : MInv E s n ws R :=
  ⟨fun j hj => h.lt j (List.mem_append_left _ hj), fun j hj => h.reach j (List.mem_append_left _ hj), h.marked, fun k hk j hj => (h.next k hk j hj).elim .inl (fun hm => by
    rcases List.mem_append.1 hm with hm | hm
    · exact .inr hm
    · rw [List.mem_singleton.1 hm]; exact .inl hR), h.start.elim .inl (fun hm => by
    rcases List.mem_append.1 hm with hm | hm
    · exact .inr hm
    · rw [List.mem_singleton.1 hm]; exact .inl hR)⟩
theorem MInv.take {E : List (Nat × Nat)} {s n i : Nat} {ws : List Nat} {R : Nat → Bool} (hE : ∀ e ∈ E, e.1 < n ∧ e.2 < n) (h : MInv E s n (ws ++ [i]) R) : MInv E s n (ws ++ outs E i) (fun j => R j || decide (j = i)) := by
  have hi : Rch E s i := h.reach i (by simp)
  have old : ∀ j, R j = true ∨ j ∈ ws ++ [i] → (R j || decide (j = i)) = true ∨ j ∈ ws ++ outs E i := by
    intro j hj
    rcases hj with hj | hj
    · left; simp [hj]
    · rcases List.mem_append.1 hj with hj | hj
      · exact .inr (List.mem_append_left _ hj)
      · left; simp [List.mem_singleton.1 hj]
  refine ⟨fun j hj => ?_, fun j hj => ?_, fun j hj => ?_, fun k hk j hj => ?_, old s h.start⟩
  · rcases List.mem_append.1 hj with hj | hj
    · exact h.lt j (List.mem_append_left _ hj)
    · exact (hE _ (mem_outs.1 hj)).2
  · rcases List.mem_append.1 hj with hj | hj
    · exact h.reach j (List.mem_append_left _ hj)
    · exact hi.step (mem_outs.1 hj)
  · simp only [Bool.or_eq_true, decide_eq_true_eq] at hj
    rcases hj with hj | rfl
    · exact h.marked j hj
    · exact hi
  · simp only [Bool.or_eq_true, decide_eq_true_eq] at hk
    rcases hk with hk | rfl
    · exact old j (h.next k hk j hj)
    · exact .inr (List.mem_append_right _ hj)
theorem list_last {α : Type} : ∀ l : List α, l = [] ∨ ∃ ws i, l = ws ++ [i]
  | [] => .inl rfl
  | a :: l => .inr (by
    rcases list_last l with rfl | ⟨ws, i, rfl⟩
    · exact ⟨[], a, rfl⟩
    · exact ⟨a :: ws, i, rfl⟩)
end Go.Proofs.YtnmfbaahabcocaaDoor
end
