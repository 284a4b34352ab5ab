/- Joined by my own program, in build order: WkF. -/
import Derived.Test.YtnmfbaahabcocaaDoorY22
set_option linter.unusedVariables false
set_option linter.unusedSimpArgs false
section
namespace Go.Proofs.YtnmfbaahabcocaaDoor
namespace C17
def stepF (code : List Ins) (bs : List Bool) (i k : Nat) : Option (Nat × Nat) := match nx code i with
  | [] => none
  | a :: r => if 0 < r.length ∧ 0 < bs.length then some (if bs.getD (k % bs.length) false = true then a.toNat else (r.getD 0 0).toNat, k + 1) else some (a.toNat, k)
def walkF (code : List Ins) (bs : List Bool) : Nat → Nat → Nat → List Nat → List Nat
  | 0, _, _, _ => []
  | f + 1, i, k, out => match stepF code bs i k with
    | none => out ++ [i]
    | some x => walkF code bs f x.1 x.2 (out ++ [i])
theorem stepF_in {code : List Ins} {bs : List Bool} (hok : okC code = true) {i k : Nat} (hi : i < code.length) {x : Nat × Nat} (h : stepF code bs i k = some x) : x.1 < code.length ∧ (i, x.1) ∈ gC code ∧ k ≤ x.2 ∧ x.2 ≤ k + 1 := by
  unfold stepF at h
  split at h
  · cases h
  · rename_i a r hn
    have key : ∀ z, z ∈ nx code i → z.toNat < code.length ∧ (i, z.toNat) ∈ gC code := fun z hz => by
      have := okC_in hok hz
      refine ⟨by omega, List.mem_append_left _ (mem_e1.2 ⟨hi, ?_⟩)⟩
      unfold edI
      rw [hn] at hz ⊢
      exact List.mem_map.2 ⟨z, hz, rfl⟩
    have ha := key a (by rw [hn]; simp)
    split at h
    · rename_i h2
      obtain ⟨b, r, rfl⟩ : ∃ b r', r = b :: r' := by
        cases r with
        | nil => simp at h2
        | cons b r => exact ⟨_, _, rfl⟩
      have hb := key b (by rw [hn]; simp)
      cases h
      split
      · exact ⟨ha.1, ha.2, by omega, by omega⟩
      · exact ⟨hb.1, hb.2, by omega, by omega⟩
    · cases h
      exact ⟨ha.1, ha.2, by omega, by omega⟩
theorem stepF_none {code : List Ins} {bs : List Bool} {i k : Nat} (hi : i < code.length) (h : stepF code bs i k = none) : (i, code.length) ∈ gC code := by
  unfold stepF at h
  split at h
  · rename_i hn
    refine List.mem_append_left _ (mem_e1.2 ⟨hi, ?_⟩)
    unfold edI
    rw [hn]
    simp
  · split at h <;> cases h
theorem walkF_none {code : List Ins} {bs : List Bool} {i k : Nat} (h : stepF code bs i k = none) (f : Nat) (out : List Nat) : walkF code bs (f + 1) i k out = out ++ [i] := by
  unfold walkF; rw [h]
theorem walkF_some {code : List Ins} {bs : List Bool} {i k i' k' : Nat} (h : stepF code bs i k = some (i', k')) (f : Nat) (out : List Nat) : walkF code bs (f + 1) i k out = walkF code bs f i' k' (out ++ [i]) := by
  rw [walkF]; rw [h]
theorem walkF_len {code : List Ins} {bs : List Bool} : ∀ (f i k : Nat) (out : List Nat), (walkF code bs f i k out).length ≤ out.length + f
  | 0, _, _, _ => by simp [walkF]
  | f + 1, i, k, out => by
    cases h : stepF code bs i k with
    | none => rw [walkF_none h]; simp
    | some x =>
      obtain ⟨a, b⟩ := x
      rw [walkF_some h]
      have := walkF_len (code := code) (bs := bs) f a b (out ++ [i])
      simp at this
      omega
theorem walkF_walk {code : List Ins} {bs : List Bool} (hok : okC code = true) : ∀ (f i k : Nat) (out : List Nat), i < code.length → walkF code bs f i k out = [] ∨ ∃ A, walkF code bs f i k out = out ++ i :: A ∧ Walk (gC code) (i :: A) ∧ ((i :: A).getLast (by simp), code.length) ∈ gC code
  | 0, _, _, _, _ => .inl rfl
  | f + 1, i, k, out, hi => by
    unfold walkF
    cases h : stepF code bs i k with
    | none => exact .inr ⟨[], rfl, .one i, stepF_none hi h⟩
    | some x =>
      obtain ⟨h1, h2, -⟩ := stepF_in hok hi h
      rcases walkF_walk hok f x.1 x.2 (out ++ [i]) h1 with h3 | ⟨A, h3, h4, h5⟩
      · exact .inl h3
      · refine .inr ⟨x.1 :: A, ?_, .cons h2 h4, by simpa using h5⟩
        show walkF code bs f x.1 x.2 (out ++ [i]) = _
        rw [h3, List.append_assoc]; rfl
end C17
end Go.Proofs.YtnmfbaahabcocaaDoor
end
