/- Joined by my own program, in build order: GW. -/
import Derived.Test.YtcldeoolglhdoaaDoorY5
set_option linter.unusedVariables false
set_option linter.unusedSimpArgs false
section
set_option linter.unusedVariables false
namespace Go.Proofs.YtcldeoolglhdoaaDoor
namespace G
inductive Way (E : List (Nat × Nat)) (t : Nat) : Nat → Nat → Prop
  | nil : Way E t t 0
  | cons {i j k : Nat} (e : (i, j) ∈ E) (h : Way E t j k) : Way E t i (k + 1)
def Dst (E : List (Nat × Nat)) (t i k : Nat) : Prop := Way E t i k ∧ ∀ m, m < k → ¬ Way E t i m
section
variable {E : List (Nat × Nat)} {t n : Nat}
theorem way_succ {i k : Nat} : Way E t i (k + 1) ↔ ∃ j, (i, j) ∈ E ∧ Way E t j k := ⟨fun h => by cases h with | cons e h => exact ⟨_, e, h⟩, fun ⟨_, e, h⟩ => .cons e h⟩
theorem Dst.next {i k : Nat} (h : Dst E t i (k + 1)) : ∃ j, (i, j) ∈ E ∧ Dst E t j k := by
  obtain ⟨j, e, hw⟩ := way_succ.1 h.1
  exact ⟨j, e, hw, fun m hm hw' => h.2 (m + 1) (by omega) (.cons e hw')⟩
theorem Dst.edge {i j k m : Nat} (h : Dst E t i m) (e : (i, j) ∈ E) (hj : Dst E t j k) : m ≤ k + 1 := by
  refine Nat.le_of_not_lt fun q => h.2 (k + 1) q (.cons e hj.1)
end
structure BInv (E : List (Nat × Nat)) (t n : Nat) (work : List Nat) (F : Nat → Nat) : Prop where
  lt : ∀ i, F i ≠ 0 → i < n
  sub : ∀ i ∈ work, F i ≠ 0
  way : ∀ i v, F i = v + 1 → Way E t i v
  start : F t = 1
  next : ∀ i, F i ≠ 0 → i ∈ work ∨ ∀ k, (k, i) ∈ E → F k ≠ 0 ∧ F k ≤ F i + 1
  rise : work.Pairwise fun a b => F a ≤ F b
  top : ∀ h r, work = h :: r → ∀ a, F a ≤ F h + 1
structure BMid (E : List (Nat × Nat)) (t n : Nat) (i : Nat) (ws : List Nat) (F : Nat → Nat) (rest : List Nat) : Prop where
  lt : ∀ i, F i ≠ 0 → i < n
  sub : ∀ a ∈ i :: ws, F a ≠ 0
  way : ∀ i v, F i = v + 1 → Way E t i v
  start : F t = 1
  next : ∀ a, F a ≠ 0 → a ∈ ws ∨ (∀ k, (k, a) ∈ E → F k ≠ 0 ∧ F k ≤ F a + 1) ∨ (a = i ∧ ∀ k, (k, i) ∈ E → F k ≠ 0 ∨ k ∈ rest)
  rise : (i :: ws).Pairwise fun a b => F a ≤ F b
  top : ∀ a, F a ≤ F i + 1
def setF (F : Nat → Nat) (k v : Nat) : Nat → Nat := fun j => if j = k then v else F j
section
variable {E : List (Nat × Nat)} {t n i k : Nat} {work ws : List Nat} {F : Nat → Nat} {rest L : List Nat}
theorem BInv.first (ht : t < n) : BInv E t n [t] (setF (fun _ => 0) t 1) := by
  have h0 : ∀ {i : Nat}, setF (fun _ => 0) t 1 i ≠ 0 → i = t := fun {i} h => by
    unfold setF at h; split at h
    · assumption
    · exact absurd rfl h
  have h1 : setF (fun _ => 0) t 1 t = 1 := by simp [setF]
  refine ⟨fun i h => by rw [h0 h]; exact ht, fun i h => by simp at h; subst h; rw [h1]; decide, fun i v h => ?_, h1, fun i h => .inl (by simp [h0 h]), by simp, fun h r e a => ?_⟩
  · have : i = t := h0 (by rw [h]; omega)
    subst this
    rw [h1] at h
    obtain rfl : v = 0 := by omega
    exact .nil
  · cases e
    have : setF (fun _ => 0) t 1 a ≤ 1 := by unfold setF; split <;> simp
    rw [h1]; omega
theorem BInv.take (h : BInv E t n (i :: ws) F) (hL : ∀ k, (k, i) ∈ E → k ∈ L) : BMid E t n i ws F L :=
  ⟨h.lt, h.sub, h.way, h.start, fun a ha => by
    rcases h.next a ha with q | q
    · rcases List.mem_cons.1 q with rfl | q
      · exact .inr (.inr ⟨rfl, fun k hk => .inr (hL k hk)⟩)
      · exact .inl q
    · exact .inr (.inl q), h.rise, fun a => h.top i ws rfl a⟩
theorem BMid.old (h : BMid E t n i ws F (k :: rest)) (hk : F k ≠ 0) : BMid E t n i ws F rest :=
  ⟨h.lt, h.sub, h.way, h.start, fun a ha => by
    rcases h.next a ha with q | q | ⟨rfl, q⟩
    · exact .inl q
    · exact .inr (.inl q)
    · refine .inr (.inr ⟨rfl, fun j hj => ?_⟩)
      rcases q j hj with z | z
      · exact .inl z
      · rcases List.mem_cons.1 z with rfl | z
        · exact .inl hk
        · exact .inr z, h.rise, h.top⟩
theorem BMid.done (h : BMid E t n i ws F []) : BInv E t n ws F :=
  ⟨h.lt, fun a ha => h.sub a (by simp [ha]), h.way, h.start, fun a ha => by
    rcases h.next a ha with q | q | ⟨rfl, q⟩
    · exact .inl q
    · exact .inr q
    · refine .inr fun k hk => ⟨(q k hk).resolve_right (by simp), h.top k⟩,
   (List.pairwise_cons.1 h.rise).2, fun b r e a => by
    have h1 := (List.pairwise_cons.1 h.rise).1 b (by simp [e])
    have := h.top a
    omega⟩
theorem BInv.met (h : BInv E t n [] F) {i v : Nat} (hw : Way E t i v) : F i ≠ 0 ∧ F i ≤ v + 1 := by
  induction hw with
  | nil => rw [h.start]; exact ⟨by decide, Nat.le_refl _⟩
  | cons e _ ih =>
    obtain ⟨h1, h2⟩ := ih
    obtain ⟨h3, h4⟩ := (h.next _ h1).resolve_left (by simp) _ e
    exact ⟨h3, by omega⟩
theorem BInv.done (h : BInv E t n [] F) (i v : Nat) : F i = v + 1 ↔ Dst E t i v := by
  constructor
  · intro hv
    refine ⟨h.way i v hv, fun m hm hw => ?_⟩
    have := (h.met hw).2; omega
  · intro hd
    obtain ⟨h1, h2⟩ := h.met hd.1
    obtain ⟨u, hu⟩ : ∃ u, F i = u + 1 := ⟨F i - 1, by omega⟩
    have := hd.2 u
    by_cases q : u < v
    · exact absurd (h.way i u hu) (this q)
    · omega
theorem BInv.none (h : BInv E t n [] F) (i : Nat) : F i = 0 ↔ ¬ ∃ v, Way E t i v := by
  constructor
  · rintro h0 ⟨v, hv⟩
    exact (h.met hv).1 h0
  · intro hn
    refine Decidable.byContradiction fun h0 => hn ?_
    exact ⟨F i - 1, h.way i _ (by omega)⟩
end
end G
end Go.Proofs.YtcldeoolglhdoaaDoor
end
