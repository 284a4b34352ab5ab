/- Joined by my own program, in build order: Dfs. -/
import Derived.Test.YtnmfbaahabcocaaDoorY11
set_option linter.unusedVariables false
set_option linter.unusedSimpArgs false
section
namespace Go.Proofs.YtnmfbaahabcocaaDoor
structure DInv (E : List (Nat × Nat)) (s n : Nat) (out stack : List Nat) (num nxt : Nat → Nat) (seen : Nat → Bool) : Prop where
  lt : ∀ i, seen i = true → i < n
  iff : ∀ i, seen i = true ↔ (i ∈ out ∨ i ∈ stack)
  dup : (out ++ stack).Nodup
  place : ∀ k i, out[k]? = some i → num i = k
  reach : ∀ i, seen i = true → Rch E s i
  chain : ∀ k i j, stack[k]? = some i → stack[k + 1]? = some j → (i, j) ∈ E
  part : ∀ i, nxt i ≤ (outs E i).length ∧ ∀ k j, k < nxt i → (outs E i)[k]? = some j → seen j = true
  full : ∀ i, i ∈ out → nxt i = (outs E i).length
  head : stack ≠ [] → stack[0]? = some s
  last : stack = [] → out[out.length - 1]? = some s
  fwd : ∀ i, i ∈ out → i ≠ s → ∃ p, (p, i) ∈ E ∧ (p ∈ stack ∨ (p ∈ out ∧ num i < num p))
theorem DInv.start (E : List (Nat × Nat)) {s n : Nat} (hs : s < n) : DInv E s n [] [s] (fun _ => 0) (fun _ => 0) (fun i => decide (i = s)) where
  lt i h := by have : i = s := by simpa using h
               omega
  iff i := by simp
  dup := by simp
  place k i h := by simp at h
  reach i h := by
    have : i = s := by simpa using h
    rw [this]; exact .here
  chain k i j _ h := by simp at h
  part i := ⟨Nat.zero_le _, fun k j h => absurd h (Nat.not_lt_zero _)⟩
  full i h := by cases h
  head _ := rfl
  last h := by cases h
  fwd i h := by cases h
section
variable {E : List (Nat × Nat)} {s n i : Nat} {out ws stack : List Nat} {num nxt : Nat → Nat} {seen : Nat → Bool}
theorem DInv.pop (h : DInv E s n out (ws ++ [i]) num nxt seen) (hf : nxt i = (outs E i).length) : DInv E s n (out ++ [i]) ws (fun j => if j = i then out.length else num j) nxt seen := by
  have hdup := h.dup
  have hio : i ∉ out := by
    intro hm
    have := (List.nodup_append.1 hdup).2.2 i hm i (by simp)
    exact this rfl
  have hlt : ∀ j, j ∈ out → num j < out.length := fun j hj => by
    obtain ⟨k, hk⟩ := List.mem_iff_getElem?.1 hj
    rw [h.place k j hk]; exact (List.getElem?_eq_some_iff.1 hk).1
  refine ⟨h.lt, fun j => ?_, ?_, fun k j hk => ?_, h.reach, fun k a b ha hb => ?_, h.part, fun j hj => ?_, fun hne => ?_, fun he => ?_, fun j hj hs => ?_⟩
  · rw [h.iff j]; simp only [List.mem_append, List.mem_singleton]
    constructor
    · rintro (h1 | h1 | h1)
      · exact .inl (.inl h1)
      · exact .inr h1
      · exact .inl (.inr h1)
    · rintro ((h1 | h1) | h1)
      · exact .inl h1
      · exact .inr (.inr h1)
      · exact .inr (.inl h1)
  · rw [List.append_assoc]
    have hp : (out ++ (ws ++ [i])).Perm (out ++ ([i] ++ ws)) := List.Perm.append_left _ List.perm_append_comm
    exact hp.nodup_iff.1 hdup
  · show (if j = i then out.length else num j) = k
    rcases Nat.lt_or_ge k out.length with h1 | h1
    · rw [List.getElem?_append_left h1] at hk
      have hm : j ∈ out := List.mem_of_getElem? hk
      rw [if_neg (fun e : j = i => hio (e ▸ hm))]
      exact h.place k j hk
    · rw [List.getElem?_append_right h1] at hk
      have h2 : k - out.length = 0 := by
        have := (List.getElem?_eq_some_iff.1 hk).1
        simp at this; omega
      rw [h2] at hk
      simp at hk
      rw [if_pos hk.symm]; omega
  · have h1 : k + 1 < ws.length := (List.getElem?_eq_some_iff.1 hb).1
    exact h.chain k a b (by rw [List.getElem?_append_left (by omega)]; exact ha) (by rw [List.getElem?_append_left h1]; exact hb)
  · rcases List.mem_append.1 hj with hj | hj
    · exact h.full j hj
    · rw [List.mem_singleton.1 hj]; exact hf
  · have h1 := h.head (by simp)
    rw [List.getElem?_append_left (List.length_pos_iff.2 hne)] at h1
    exact h1
  · subst he
    have h1 := h.head (by simp)
    simp at h1
    subst h1
    simp
  · rcases List.mem_append.1 hj with hj | hj
    · have hji : j ≠ i := fun e => hio (e ▸ hj)
      obtain ⟨p, h1, h2⟩ := h.fwd j hj hs
      refine ⟨p, h1, ?_⟩
      rcases h2 with h2 | ⟨h2, h3⟩
      · rcases List.mem_append.1 h2 with h2 | h2
        · exact .inl h2
        · right
          rw [List.mem_singleton.1 h2]
          refine ⟨by simp, ?_⟩
          simp only [if_neg hji, if_pos]
          exact hlt j hj
      · right
        have hpi : p ≠ i := fun e => hio (e ▸ h2)
        refine ⟨List.mem_append_left _ h2, ?_⟩
        simp only [if_neg hji, if_neg hpi]
        exact h3
    · have hj := List.mem_singleton.1 hj
      subst hj
      rcases list_last ws with rfl | ⟨ws', p, rfl⟩
      · have h1 := h.head (by simp)
        simp at h1
        exact absurd h1 hs
      · refine ⟨p, h.chain ws'.length p j ?_ ?_, .inl (by simp)⟩
        · rw [List.append_assoc, List.getElem?_append_right (Nat.le_refl _)]; simp
        · rw [List.getElem?_append_right (by simp)]; simp
theorem DInv.next (hE : ∀ e ∈ E, e.1 < n ∧ e.2 < n) (h : DInv E s n out (ws ++ [i]) num nxt seen) {j : Nat} (hj : (outs E i)[nxt i]? = some j) :
    DInv E s n out (if seen j = true then ws ++ [i] else ws ++ [i] ++ [j]) num (fun k => if k = i then nxt i + 1 else nxt k) (fun k => seen k || decide (k = j)) := by
  have hlen := (List.getElem?_eq_some_iff.1 hj).1
  have hij : (i, j) ∈ E := mem_outs.1 (List.mem_of_getElem? hj)
  have hjn : j < n := (hE _ hij).2
  have hsi : seen i = true := (h.iff i).2 (.inr (by simp))
  have hio : i ∉ out := by
    intro hm
    have := (List.nodup_append.1 h.dup).2.2 i hm i (by simp)
    exact this rfl
  have hmem : ∀ k, k ∈ ws ++ [i] → k ∈ (if seen j = true then ws ++ [i] else ws ++ [i] ++ [j]) := fun k hk => by
    split
    · exact hk
    · exact List.mem_append_left _ hk
  have part' : ∀ k, (if k = i then nxt i + 1 else nxt k) ≤ (outs E k).length ∧ ∀ q r, q < (if k = i then nxt i + 1 else nxt k) → (outs E k)[q]? = some r → (seen r || decide (r = j)) = true := by
    intro k
    by_cases e : k = i
    · subst e
      rw [if_pos rfl]
      refine ⟨hlen, fun q r hq hr => ?_⟩
      rcases Nat.lt_or_ge q (nxt k) with h1 | h1
      · rw [(h.part k).2 q r h1 hr]; rfl
      · have e2 : q = nxt k := by omega
        rw [e2, hj] at hr
        cases hr
        simp
    · rw [if_neg e]
      refine ⟨(h.part k).1, fun q r hq hr => ?_⟩
      rw [(h.part k).2 q r hq hr]; rfl
  refine ⟨fun k hk => ?_, fun k => ?_, ?_, h.place, fun k hk => ?_, fun k a b ha hb => ?_, part', fun k hk => ?_, fun _ => ?_, fun he => ?_, fun k hk hs => ?_⟩
  · simp only [Bool.or_eq_true, decide_eq_true_eq] at hk
    rcases hk with hk | rfl
    · exact h.lt k hk
    · exact hjn
  · simp only [Bool.or_eq_true, decide_eq_true_eq]
    split
    · next hs => exact ⟨fun hk => hk.elim (fun hk => (h.iff k).1 hk) (fun e => by rw [e]; exact (h.iff j).1 hs), fun hk => .inl ((h.iff k).2 hk)⟩
    · constructor
      · rintro (hk | rfl)
        · exact ((h.iff k).1 hk).elim .inl (fun hk => .inr (List.mem_append_left _ hk))
        · exact .inr (by simp)
      · rintro (hk | hk)
        · exact .inl ((h.iff k).2 (.inl hk))
        · rcases List.mem_append.1 hk with hk | hk
          · exact .inl ((h.iff k).2 (.inr hk))
          · exact .inr (List.mem_singleton.1 hk)
  · split
    · exact h.dup
    · next hs =>
      rw [← List.append_assoc, List.nodup_append]
      refine ⟨h.dup, by simp, fun a ha b hb => ?_⟩
      rw [List.mem_singleton.1 hb]
      rintro rfl
      exact hs ((h.iff a).2 (List.mem_append.1 ha))
  · simp only [Bool.or_eq_true, decide_eq_true_eq] at hk
    rcases hk with hk | rfl
    · exact h.reach k hk
    · exact (h.reach i hsi).step hij
  · by_cases hs : seen j = true
    · rw [if_pos hs] at ha hb
      exact h.chain k a b ha hb
    · rw [if_neg hs] at ha hb
      rcases Nat.lt_or_ge (k + 1) (ws ++ [i]).length with h1 | h1
      · rw [List.getElem?_append_left h1] at hb
        rw [List.getElem?_append_left (by omega)] at ha
        exact h.chain k a b ha hb
      · have h2 := (List.getElem?_eq_some_iff.1 hb).1
        simp only [List.length_append, List.length_cons, List.length_nil] at h1 h2
        have h3 : k = ws.length := by omega
        subst h3
        simp at hb
        rw [List.append_assoc, List.getElem?_append_right (Nat.le_refl _)] at ha
        simp at ha
        subst ha hb
        exact hij
  · have e : k ≠ i := fun e => hio (e ▸ hk)
    show (if k = i then nxt i + 1 else nxt k) = _
    rw [if_neg e]
    exact h.full k hk
  · have h1 := h.head (by simp)
    split
    · exact h1
    · rw [List.getElem?_append_left (by simp)]; exact h1
  · split at he <;> simp at he
  · obtain ⟨p, h1, h2⟩ := h.fwd k hk hs
    exact ⟨p, h1, h2.elim (fun hp => .inl (hmem p hp)) .inr⟩
theorem DInv.done (h : DInv E s n out [] num nxt seen) : Post E s out num := by
  have hlast := h.last rfl
  have hall : ∀ i, seen i = true ↔ i ∈ out := fun i => by rw [h.iff i]; simp
  refine ⟨by simpa using h.dup, fun i => ⟨fun hi => h.reach i ((hall i).2 hi), fun hr => ?_⟩, h.place, hlast, fun i hi hs => ?_⟩
  · induction hr with
    | here => exact List.mem_of_getElem? hlast
    | @step a b _ he ih =>
      obtain ⟨k, hk⟩ := List.mem_iff_getElem?.1 (mem_outs.2 he)
      have h1 := (List.getElem?_eq_some_iff.1 hk).1
      exact (hall b).1 ((h.part a).2 k b (by rw [h.full a ih]; exact h1) hk)
  · obtain ⟨p, h1, h2⟩ := h.fwd i hi hs
    exact ⟨p, h1, h2.elim (fun h => by cases h) id⟩
end
def rest (L : Nat → List Nat) (nxt : Nat → Nat) : Nat → Nat
  | 0 => 0
  | n + 1 => rest L nxt n + ((L n).length - nxt n)
theorem rest_step (L : Nat → List Nat) (nxt : Nat → Nat) (i : Nat) (hi : nxt i < (L i).length) : ∀ n, rest L (fun k => if k = i then nxt i + 1 else nxt k) n + (if i < n then 1 else 0) = rest L nxt n
  | 0 => by simp [rest]
  | n + 1 => by
    have ih := rest_step L nxt i hi n
    unfold rest
    by_cases e : n = i
    · subst e
      have h1 : ¬ n < n := by omega
      simp only [h1, if_false] at ih
      simp; omega
    · by_cases h : i < n
      · have h2 : i < n + 1 := by omega
        simp only [h, h2, if_true] at ih ⊢
        simp [e]; omega
      · have h2 : ¬ i < n + 1 := by omega
        simp only [h, h2, if_false] at ih ⊢
        simp [e]; omega
theorem rest_le (L : Nat → List Nat) (nxt : Nat → Nat) (b : Nat) (hb : ∀ i, (L i).length ≤ b) : ∀ n, rest L nxt n ≤ n * b
  | 0 => by simp [rest]
  | n + 1 => by
    have ih := rest_le L nxt b hb n
    have h := hb n
    unfold rest
    rw [Nat.succ_mul]
    omega
end Go.Proofs.YtnmfbaahabcocaaDoor
end
