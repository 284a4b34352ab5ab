/- Joined by my own program, in build order: Ing. -/
import Derived.Test.YtnmfbaahabcocaaDoorChecked
set_option linter.unusedVariables false
set_option linter.unusedSimpArgs false
section
namespace Go.Proofs.YtnmfbaahabcocaaDoor
namespace C17
structure Ins where
  kind : Int
  dst : Int
  a : Int
  b : Int
  c : Int
  tt : Int
  els : Int
  num : Int
  name : ByteArray
  args : List Int
def goesI (i : Nat) (x : Ins) : List Int :=
  if x.kind = 18 ∨ x.kind = 19 then [] else if x.kind = 17 ∨ (x.kind = 16 ∧ x.tt = x.els) then [x.tt] else if x.kind = 16 then [x.tt, x.els] else [((i + 1 : Nat) : Int)]
def nx (code : List Ins) (i : Nat) : List Int := match code[i]? with
  | none => []
  | some x => goesI i x
theorem goesI_len (i : Nat) (x : Ins) : (goesI i x).length ≤ 2 := by unfold goesI; split <;> (try split) <;> (try split) <;> simp
theorem nx_len (code : List Ins) (i : Nat) : (nx code i).length ≤ 2 := by unfold nx; split; simp; exact goesI_len _ _
def outI (n k : Int) : Bool := decide (k < 0) || decide (n ≤ k)
def okC (code : List Ins) : Bool := decide (1 ≤ code.length) && decide (code.length ≤ 2000) && (List.range code.length).all fun i => !(nx code i).any (outI code.length)
theorem okC_in {code : List Ins} (h : okC code = true) {i : Nat} {k : Int} (hk : k ∈ nx code i) : 0 ≤ k ∧ k < code.length := by
  unfold okC at h
  simp only [Bool.and_eq_true, List.all_eq_true, Bool.not_eq_true'] at h
  have hi : i < code.length := by
    unfold nx at hk
    split at hk
    · simp at hk
    · rename_i x hx; exact (List.getElem?_eq_some_iff.1 hx).1
  have := List.any_eq_false.1 (h.2 i (List.mem_range.2 hi)) k hk
  simp [outI] at this
  omega
def edI (code : List Ins) (i : Nat) : List (Nat × Nat) := match nx code i with
  | [] => [(i, code.length)]
  | k :: r => (k :: r).map fun z => (i, z.toNat)
def e1 (code : List Ins) (m : Nat) : List (Nat × Nat) := (List.range m).flatMap (edI code)
theorem e1_succ (code : List Ins) (m : Nat) : e1 code (m + 1) = e1 code m ++ edI code m := by unfold e1; rw [List.range_succ, List.flatMap_append]; simp
theorem edI_len (code : List Ins) (i : Nat) : (edI code i).length ≤ 2 := by
  unfold edI
  have := nx_len code i
  split
  · simp
  · rename_i k r h; rw [h] at this; simpa using this
theorem e1_len (code : List Ins) : ∀ m, (e1 code m).length ≤ 2 * m
  | 0 => by simp [e1]
  | m + 1 => by rw [e1_succ, List.length_append]; have := e1_len code m; have := edI_len code m; omega
theorem mem_e1 {code : List Ins} {m : Nat} {e : Nat × Nat} : e ∈ e1 code m ↔ e.1 < m ∧ e ∈ edI code e.1 := by
  unfold e1
  rw [List.mem_flatMap]
  have hfst : ∀ i, e ∈ edI code i → e.1 = i := fun i h => by
    unfold edI at h
    split at h
    · simp at h; rw [h]
    · obtain ⟨z, -, rfl⟩ := List.mem_map.1 h; rfl
  constructor
  · rintro ⟨i, hi, h⟩
    have := hfst i h
    subst this
    exact ⟨List.mem_range.1 hi, h⟩
  · rintro ⟨h1, h2⟩; exact ⟨_, List.mem_range.2 h1, h2⟩
theorem e1_lt {code : List Ins} (h : okC code = true) : ∀ e ∈ e1 code code.length, e.1 < code.length ∧ e.2 ≤ code.length := fun e he => by
  obtain ⟨h1, h2⟩ := mem_e1.1 he
  refine ⟨h1, ?_⟩
  unfold edI at h2
  split at h2
  · simp at h2; rw [h2]; exact Nat.le_refl _
  · rename_i k r hk
    obtain ⟨z, hz, hez⟩ := List.mem_map.1 h2
    have := okC_in h (i := e.1) (k := z) (by rw [hk]; exact hz)
    have h3 : e.2 = z.toNat := by rw [← hez]
    omega
end C17
end Go.Proofs.YtnmfbaahabcocaaDoor
end
