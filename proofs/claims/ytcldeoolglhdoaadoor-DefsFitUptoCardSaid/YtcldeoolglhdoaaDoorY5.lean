/- Joined by my own program, in build order: GP. -/
import Derived.WalkKit
set_option linter.unusedVariables false
set_option linter.unusedSimpArgs false
section
set_option linter.unusedVariables false
namespace Go.Proofs.YtcldeoolglhdoaaDoor
namespace G
inductive Rch (E : List (Nat × Nat)) (src : List Nat) : Nat → Prop
  | here {s : Nat} (h : s ∈ src) : Rch E src s
  | step {i j : Nat} (h : Rch E src i) (e : (i, j) ∈ E) : Rch E src j
theorem Rch.mono {E E' : List (Nat × Nat)} {src src' : List Nat} (hE : ∀ e ∈ E, e ∈ E') (hs : ∀ s ∈ src, Rch E' src' s) {i : Nat} (h : Rch E src i) : Rch E' src' i := by
  induction h with
  | here h => exact hs _ h
  | step _ e ih => exact .step ih (hE _ e)
theorem Rch.lt {E : List (Nat × Nat)} {src : List Nat} {n i : Nat} (hE : ∀ e ∈ E, e.1 < n ∧ e.2 < n) (hs : ∀ s ∈ src, s < n) (h : Rch E src i) : i < n := by
  cases h with
  | here h => exact hs _ h
  | step _ e => exact (hE _ e).2
def outs (E : List (Nat × Nat)) (i : Nat) : List Nat := (E.filter fun e => e.1 = i).map (·.2)
theorem mem_outs {E : List (Nat × Nat)} {i j : Nat} : j ∈ outs E i ↔ (i, j) ∈ E := by
  simp only [outs, List.mem_map, List.mem_filter, decide_eq_true_eq]
  constructor
  · rintro ⟨⟨a, b⟩, ⟨h, h1⟩, h2⟩
    simp only at h1 h2
    subst h1 h2
    exact h
  · intro h
    exact ⟨(i, j), ⟨h, rfl⟩, rfl⟩
def mark (R : Nat → Bool) (k : Nat) : Nat → Bool := fun j => R j || decide (j = k)
def left (R : Nat → Bool) : Nat → Nat
  | 0 => 0
  | n + 1 => left R n + (if R n = true then 0 else 1)
theorem mark_true {R : Nat → Bool} {k i : Nat} : mark R k i = true ↔ R i = true ∨ i = k := by simp [mark]
structure RInv (E : List (Nat × Nat)) (src : List Nat) (n : Nat) (work : List Nat) (R : Nat → Bool) : Prop where
  lt : ∀ i, R i = true → i < n
  sub : ∀ i ∈ work, R i = true
  rch : ∀ i, R i = true → Rch E src i
  start : ∀ s ∈ src, R s = true
  next : ∀ i, R i = true → i ∈ work ∨ ∀ j, (i, j) ∈ E → R j = true
structure RMid (E : List (Nat × Nat)) (src : List Nat) (n : Nat) (work : List Nat) (R : Nat → Bool) (i : Nat) (rest : List Nat) : Prop where
  lt : ∀ i, R i = true → i < n
  sub : ∀ i ∈ work, R i = true
  rch : ∀ i, R i = true → Rch E src i
  start : ∀ s ∈ src, R s = true
  at_ : R i = true
  next : ∀ a, R a = true → a ∈ work ∨ (∀ j, (a, j) ∈ E → R j = true) ∨ (a = i ∧ ∀ j, (i, j) ∈ E → R j = true ∨ j ∈ rest)
section
variable {E : List (Nat × Nat)} {src : List Nat} {n : Nat} {work ws : List Nat} {R : Nat → Bool} {i k : Nat} {rest L : List Nat}
theorem RInv.done (h : RInv E src n [] R) (i : Nat) : R i = true ↔ Rch E src i := by
  refine ⟨h.rch i, fun hr => ?_⟩
  induction hr with
  | here hs => exact h.start _ hs
  | step _ e ih => exact ((h.next _ ih).resolve_left (by simp)) _ e
theorem RInv.take (h : RInv E src n (ws ++ [i]) R) (hL : ∀ j, (i, j) ∈ E → j ∈ L) : RMid E src n ws R i L :=
  ⟨h.lt, fun a ha => h.sub a (by simp [ha]), h.rch, h.start, h.sub i (by simp), fun a ha => by
    rcases h.next a ha with q | q
    · rw [List.mem_append] at q
      rcases q with q | q
      · exact .inl q
      · rw [List.mem_singleton] at q
        exact .inr (.inr ⟨q, fun j hj => .inr (hL j hj)⟩)
    · exact .inr (.inl q)⟩
theorem RMid.old (h : RMid E src n ws R i (k :: rest)) (hk : R k = true) : RMid E src n ws R i rest :=
  ⟨h.lt, h.sub, h.rch, h.start, h.at_, fun a ha => by
    rcases h.next a ha with q | q | ⟨q, q2⟩
    · exact .inl q
    · exact .inr (.inl q)
    · refine .inr (.inr ⟨q, fun j hj => ?_⟩)
      rcases q2 j hj with z | z
      · exact .inl z
      · rcases List.mem_cons.1 z with rfl | z
        · exact .inl hk
        · exact .inr z⟩
theorem RMid.done (h : RMid E src n ws R i []) : RInv E src n ws R :=
  ⟨h.lt, h.sub, h.rch, h.start, fun a ha => by
    rcases h.next a ha with q | q | ⟨rfl, q2⟩
    · exact .inl q
    · exact .inr q
    · exact .inr fun j hj => (q2 j hj).resolve_right (by simp)⟩
end
structure MInv (E : List (Nat × Nat)) (src : List Nat) (n : Nat) (work : List Nat) (R : Nat → Bool) : Prop where
  lt : ∀ i ∈ work, i < n
  reach : ∀ i ∈ work, Rch E src i
  marked : ∀ i, R i = true → Rch E src i
  next : ∀ i, R i = true → ∀ j, (i, j) ∈ E → R j = true ∨ j ∈ work
  start : ∀ s ∈ src, R s = true ∨ s ∈ work
section
variable {E : List (Nat × Nat)} {src : List Nat} {n i : Nat} {ws : List Nat} {R : Nat → Bool}
theorem MInv.done (h : MInv E src n [] R) (i : Nat) : R i = true ↔ Rch E src i := by
  refine ⟨h.marked i, fun hr => ?_⟩
  induction hr with
  | here hs => exact (h.start _ hs).resolve_right (by simp)
  | step _ e ih => exact (h.next _ ih _ e).resolve_right (by simp)
theorem MInv.skip (h : MInv E src n (ws ++ [i]) R) (hR : R i = true) : MInv E src n ws R := by
  have back : ∀ j, j ∈ ws ++ [i] → R j = true ∨ j ∈ ws := fun j hj => by
    rw [List.mem_append, List.mem_singleton] at hj
    rcases hj with hj | rfl
    · exact .inr hj
    · exact .inl hR
  exact ⟨fun a ha => h.lt a (by simp [ha]), fun a ha => h.reach a (by simp [ha]), h.marked, fun a ha j hj => (h.next a ha j hj).elim .inl (back j), fun s hs => (h.start s hs).elim .inl (back s)⟩
theorem MInv.take (hE : ∀ e ∈ E, e.1 < n ∧ e.2 < n) (h : MInv E src n (ws ++ [i]) R) : MInv E src n (ws ++ outs E i) (mark R i) := by
  have hi : Rch E src i := h.reach i (by simp)
  have back : ∀ j, j ∈ ws ++ [i] → mark R i j = true ∨ j ∈ ws ++ outs E i := fun j hj => by
    rw [List.mem_append, List.mem_singleton] at hj
    rcases hj with hj | rfl
    · exact .inr (by simp [hj])
    · exact .inl (mark_true.2 (.inr rfl))
  refine ⟨fun a ha => ?_, fun a ha => ?_, fun a ha => ?_, fun a ha j hj => ?_, fun s hs => (h.start s hs).elim (fun q => .inl (mark_true.2 (.inl q))) (back s)⟩
  · rw [List.mem_append] at ha
    rcases ha with ha | ha
    · exact h.lt a (by simp [ha])
    · exact (hE _ (mem_outs.1 ha)).2
  · rw [List.mem_append] at ha
    rcases ha with ha | ha
    · exact h.reach a (by simp [ha])
    · exact .step hi (mem_outs.1 ha)
  · rcases mark_true.1 ha with q | rfl
    · exact h.marked a q
    · exact hi
  · rcases mark_true.1 ha with q | rfl
    · exact (h.next a q j hj).elim (fun q => .inl (mark_true.2 (.inl q))) (back j)
    · exact .inr (by rw [List.mem_append]; exact .inr (mem_outs.2 hj))
end
def pot (L : Nat → List Nat) (R : Nat → Bool) : Nat → Nat
  | 0 => 0
  | n + 1 => pot L R n + (if R n = true then 0 else (L n).length)
theorem pot_mark (L : Nat → List Nat) (R : Nat → Bool) (k : Nat) (hk : R k = false) : ∀ n, pot L (mark R k) n + (if k < n then (L k).length else 0) = pot L R n
  | 0 => by simp [pot]
  | n + 1 => by
    have ih := pot_mark L R k hk n
    simp only [pot]
    by_cases h : n = k
    · subst h
      have e1 : mark R n n = true := by simp [mark]
      rw [e1, hk] at *
      simp at ih ⊢
      omega
    · have e1 : mark R k n = R n := by simp [mark, h]
      rw [e1]
      by_cases hkn : k < n
      · rw [if_pos hkn] at ih
        rw [if_pos (show k < n + 1 by omega)]
        omega
      · rw [if_neg hkn] at ih
        rw [if_neg (show ¬ k < n + 1 by omega)]
        omega
theorem pot_le (L : Nat → List Nat) (R : Nat → Bool) (b : Nat) (hb : ∀ i, (L i).length ≤ b) : ∀ n, pot L R n ≤ n * b
  | 0 => by simp [pot]
  | n + 1 => by
    have := pot_le L R b hb n
    have := hb n
    simp only [pot]
    rw [Nat.add_mul]
    split <;> omega
end G
end Go.Proofs.YtcldeoolglhdoaaDoor
end
