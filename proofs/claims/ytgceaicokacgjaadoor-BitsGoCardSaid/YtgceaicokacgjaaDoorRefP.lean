/- The reference's sets in plain words: a rising list of numbers. -/
import Derived.Test.YtgceaicokacgjaaDoorSets5
namespace Go.Proofs.YtgceaicokacgjaaDoor
open Go.RowKit

theorem mem_elems {f : Nat → Bool} {n q : Nat} : q ∈ elems f n ↔ q < n ∧ f q = true := by simp [elems]
theorem range_split (j n : Nat) (h : j < n) : List.range n = List.range j ++ j :: List.range' (j + 1) (n - j - 1) := by
  have h1 := List.range'_append (s := 0) (m := j) (n := n - j) (step := 1)
  rw [Nat.one_mul, Nat.zero_add] at h1
  have e : j + (n - j) = n := by omega
  rw [e] at h1
  rw [List.range_eq_range', List.range_eq_range', ← h1]
  congr 1
  have e2 : n - j = (n - j - 1) + 1 := by omega
  conv => lhs; rw [e2]
  rw [List.range'_succ]
/-- Where a number goes. -/
theorem elems_split (f : Nat → Bool) (n j : Nat) (hj : j < n) (hf : f j = false) :
    ∃ tl, elems f n = elems f j ++ tl ∧ elems (addF f j) n = elems f j ++ j :: tl ∧ (∀ x ∈ elems f j, x < j) ∧ ∀ x ∈ tl, j < x := by
  refine ⟨(List.range' (j + 1) (n - j - 1)).filter f, ?_, ?_, fun x hx => (mem_elems.1 hx).1, fun x hx => ?_⟩
  · unfold elems
    rw [range_split j n hj, List.filter_append, List.filter_cons, hf]
    rfl
  · unfold elems
    rw [range_split j n hj, List.filter_append, List.filter_cons]
    have h1 : addF f j j = true := by simp [addF]
    rw [h1, if_pos rfl]
    congr 1
    · apply List.filter_congr
      intro x hx
      have := List.mem_range.1 hx
      have h2 : ¬ x = j := by omega
      simp [addF, h2]
    · congr 1
      apply List.filter_congr
      intro x hx
      have := List.mem_range'_1.1 hx
      have h2 : ¬ x = j := by omega
      simp [addF, h2]
  · have := List.mem_range'_1.1 (List.mem_filter.1 hx).1
    omega
theorem elems_del (f : Nat → Bool) (n j : Nat) : elems (delF f j) n = (elems f n).filter fun x => decide (x ≠ j) := by
  unfold elems
  rw [List.filter_filter]
  apply List.filter_congr
  intro x _
  simp only [delF, Bool.and_comm]
theorem inB_elems {f : Nat → Bool} {n : Nat} (hlow : ∀ i, f i = true → i < n) {i : Int} : inB f i = true ↔ ∃ k ∈ elems f n, (k : Int) = i := by
  unfold inB
  rw [Bool.and_eq_true, decide_eq_true_eq]
  constructor
  · rintro ⟨h, h2⟩
    exact ⟨i.toNat, mem_elems.2 ⟨hlow _ h2, h2⟩, by omega⟩
  · rintro ⟨k, hk, rfl⟩
    exact ⟨by omega, by simpa using (mem_elems.1 hk).2⟩
theorem addI_low {f : Nat → Bool} {n : Nat} (hlow : ∀ i, f i = true → i < n) (x : Int) : ∀ i, addI f n x i = true → i < n := by
  intro i hi
  unfold addI at hi
  by_cases h : canAdd f n x = true
  · rw [if_pos h] at hi
    unfold canAdd at h
    simp only [Bool.and_eq_true, decide_eq_true_eq] at h
    unfold addF at hi
    simp only [Bool.or_eq_true, decide_eq_true_eq] at hi
    rcases hi with hi | rfl
    · exact hlow _ hi
    · omega
  · rw [if_neg h] at hi; exact hlow _ hi
theorem delI_low {f : Nat → Bool} {n : Nat} (hlow : ∀ i, f i = true → i < n) (x : Int) : ∀ i, delI f x i = true → i < n := by
  intro i hi
  unfold delI at hi
  split at hi
  · unfold delF at hi
    simp only [Bool.and_eq_true] at hi
    exact hlow _ hi.1
  · exact hlow _ hi

/-- Union and Meet as the reference does them, element by element. -/
def uniK (f : Nat → Bool) (n : Nat) (l : List Nat) (q : Nat) : Bool := f q || (decide (q < n) && decide (q ∈ l))
def metK (f g : Nat → Bool) (l : List Nat) (q : Nat) : Bool := f q && !(decide (q ∈ l) && !g q)
theorem uniK_nil (f : Nat → Bool) (n : Nat) : uniK f n [] = f := by funext q; simp [uniK]
theorem metK_nil (f g : Nat → Bool) : metK f g [] = f := by funext q; simp [metK]
theorem uniK_snoc (f : Nat → Bool) (n : Nat) (l : List Nat) (x : Nat) : addI (uniK f n l) n (x : Int) = uniK f n (l ++ [x]) := by
  funext q
  unfold addI canAdd
  by_cases h : decide ((0 : Int) ≤ (x : Int)) && decide ((x : Int) < n) && !uniK f n l ((x : Int).toNat)
  · rw [if_pos h]
    simp only [Bool.and_eq_true, decide_eq_true_eq] at h
    have hx : x < n := by omega
    unfold addF uniK
    rw [Int.toNat_natCast, Bool.eq_iff_iff]
    simp only [Bool.or_eq_true, Bool.and_eq_true, decide_eq_true_eq, List.mem_append, List.mem_singleton]
    constructor
    · rintro ((h | h) | rfl)
      · exact .inl h
      · exact .inr ⟨h.1, .inl h.2⟩
      · exact .inr ⟨hx, .inr rfl⟩
    · rintro (h | ⟨h1, h2 | h2⟩)
      · exact .inl (.inl h)
      · exact .inl (.inr ⟨h1, h2⟩)
      · exact .inr h2
  · rw [if_neg h]
    unfold uniK at h ⊢
    rw [Int.toNat_natCast] at h
    rw [Bool.eq_iff_iff]
    simp only [Bool.or_eq_true, Bool.and_eq_true, decide_eq_true_eq, List.mem_append, List.mem_singleton]
    constructor
    · rintro (h1 | h1)
      · exact .inl h1
      · exact .inr ⟨h1.1, .inl h1.2⟩
    · rintro (h1 | ⟨h1, h2 | rfl⟩)
      · exact .inl h1
      · exact .inr ⟨h1, h2⟩
      · by_cases h3 : f q = true
        · exact .inl h3
        · by_cases h4 : q ∈ l
          · exact .inr ⟨h1, h4⟩
          · exfalso; apply h
            simp [h3, h4]; omega
theorem metK_del {f g : Nat → Bool} {l : List Nat} {x : Nat} (hg : g x = false) : delI (metK f g l) (x : Int) = metK f g (l ++ [x]) := by
  funext q
  unfold delI inB
  rw [Int.toNat_natCast]
  have h0 : decide ((0 : Int) ≤ (x : Int)) = true := by simp
  rw [h0, Bool.true_and]
  by_cases h : metK f g l x = true
  · rw [if_pos h]
    unfold delF metK
    rw [Bool.eq_iff_iff]
    simp only [Bool.and_eq_true, Bool.not_eq_true', Bool.and_eq_false_iff, decide_eq_true_eq, decide_eq_false_iff_not, List.mem_append, List.mem_singleton, Bool.not_eq_false']
    constructor
    · rintro ⟨⟨h1, h2⟩, h3⟩
      refine ⟨h1, ?_⟩
      rcases h2 with h2 | h2
      · exact .inl (by rintro (h | h); exact h2 h; exact h3 h)
      · exact .inr h2
    · rintro ⟨h1, h2⟩
      rcases h2 with h2 | h2
      · exact ⟨⟨h1, .inl fun h => h2 (.inl h)⟩, fun h => h2 (.inr h)⟩
      · exact ⟨⟨h1, .inr h2⟩, by rintro rfl; rw [hg] at h2; cases h2⟩
  · rw [if_neg h]
    unfold metK at h ⊢
    rw [Bool.eq_iff_iff]
    simp only [Bool.and_eq_true, Bool.not_eq_true', Bool.and_eq_false_iff, decide_eq_false_iff_not, List.mem_append, List.mem_singleton, Bool.not_eq_false'] at h ⊢
    constructor
    · rintro ⟨h1, h2⟩
      refine ⟨h1, ?_⟩
      rcases h2 with h2 | h2
      · by_cases e : q = x
        · subst e
          exact absurd ⟨h1, .inl h2⟩ h
        · exact .inl (by rintro (h3 | h3); exact h2 h3; exact e h3)
      · exact .inr h2
    · rintro ⟨h1, h2⟩
      rcases h2 with h2 | h2
      · exact ⟨h1, .inl fun h => h2 (.inl h)⟩
      · exact ⟨h1, .inr h2⟩
theorem metK_keep {f g : Nat → Bool} {l : List Nat} {x : Nat} (hg : g x = true) : metK f g (l ++ [x]) = metK f g l := by
  funext q
  unfold metK
  by_cases e : q = x
  · subst e; simp [hg]
  · simp [e]
theorem uniK_all {f g : Nat → Bool} {n m : Nat} (hg : ∀ i, g i = true → i < m) : uniK f n (elems g m) = fun q => f q || upto g n q := by
  funext q
  unfold uniK upto
  congr 1
  rw [Bool.eq_iff_iff]
  simp only [Bool.and_eq_true, decide_eq_true_eq, mem_elems]
  exact ⟨fun h => ⟨h.2.2, h.1⟩, fun h => ⟨h.2, hg _ h.1, h.1⟩⟩
theorem metK_all {f g : Nat → Bool} {n : Nat} (hf : ∀ i, f i = true → i < n) : metK f g (elems f n) = fun q => f q && upto g n q := by
  funext q
  unfold metK upto
  rw [Bool.eq_iff_iff]
  simp only [Bool.and_eq_true, Bool.not_eq_true', Bool.and_eq_false_iff, decide_eq_true_eq, decide_eq_false_iff_not, mem_elems, Bool.not_eq_false']
  constructor
  · rintro ⟨h1, h2 | h2⟩
    · exact absurd ⟨hf _ h1, h1⟩ h2
    · exact ⟨h1, h2, hf _ h1⟩
  · rintro ⟨h1, h2, h3⟩; exact ⟨h1, .inr h2⟩
/-- Whether something has changed. -/
theorem chg_add {f : Nat → Bool} {n : Nat} {l : List Nat} {x : Nat} (h : canAdd (uniK f n l) n (x : Int) = true) : chg f (uniK f n (l ++ [x])) n = true := by
  unfold canAdd at h
  simp only [Bool.and_eq_true, decide_eq_true_eq, Bool.not_eq_true'] at h
  rw [Int.toNat_natCast] at h
  have hx : x < n := by omega
  have hfx : f x = false := by
    have := h.2
    unfold uniK at this
    simp only [Bool.or_eq_false_iff] at this
    exact this.1
  unfold chg
  rw [List.any_eq_true]
  refine ⟨x, List.mem_range.2 hx, ?_⟩
  simp [uniK, hfx, hx]
theorem chg_none {f : Nat → Bool} {n : Nat} {l : List Nat} {x : Nat} (h : canAdd (uniK f n l) n (x : Int) = false) : uniK f n (l ++ [x]) = uniK f n l := by
  rw [← uniK_snoc]; unfold addI; rw [h]; rfl
theorem chg_del {f g : Nat → Bool} {n : Nat} {l : List Nat} {x : Nat} (hx : x ∈ elems f n) (hg : g x = false) : chg f (metK f g (l ++ [x])) n = true := by
  obtain ⟨h1, h2⟩ := mem_elems.1 hx
  unfold chg
  rw [List.any_eq_true]
  refine ⟨x, List.mem_range.2 h1, ?_⟩
  simp [metK, hg, h2]
theorem chg_refl (f : Nat → Bool) (n : Nat) : chg f f n = false := by simp [chg]
theorem subB_elems {f g : Nat → Bool} {n : Nat} : subB f g n = (elems f n).all g := by
  rw [Bool.eq_iff_iff]
  unfold subB
  rw [List.all_eq_true, List.all_eq_true]
  constructor
  · intro h q hq
    obtain ⟨h1, h2⟩ := mem_elems.1 hq
    have := h q (List.mem_range.2 h1)
    simpa [h2] using this
  · intro h q hq
    cases hf : f q with
    | false => simp
    | true => simpa using h q (mem_elems.2 ⟨List.mem_range.1 hq, hf⟩)
end Go.Proofs.YtgceaicokacgjaaDoor
