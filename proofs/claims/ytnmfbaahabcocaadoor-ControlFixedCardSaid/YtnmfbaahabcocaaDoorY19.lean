/- Joined by my own program, in build order: TreeLaw. -/
import Derived.Test.YtnmfbaahabcocaaDoorY18
import Derived.Test.YtnmfbaahabcocaaDoorY6
import Derived.BigQuiet
import Derived.BigRegion
import Derived.WalkKit
set_option linter.unusedVariables false
set_option linter.unusedSimpArgs false
section
namespace Go.Proofs.YtnmfbaahabcocaaDoor
open Go.RowKit
theorem RchA.of_not {E : List (Nat × Nat)} {s d i : Nat} (h : Rch E s i) (hd : ¬ Rch E s d) : RchA E s d i := by
  induction h with
  | here => exact .here (fun e => hd (e ▸ .here))
  | step h1 he ih => exact ih.step he (fun e => hd (e ▸ h1.step he))
theorem Dom.rch {E : List (Nat × Nat)} {s d i : Nat} (h : Dom E s d i) : Rch E s d := Classical.byContradiction fun hd => h.2 (RchA.of_not h.1 hd)
theorem dom_self {E : List (Nat × Nat)} {s i : Nat} (h : Rch E s i) : Dom E s i i := ⟨h, fun k => by
  cases k with
  | here h => exact h rfl
  | step _ _ h => exact h rfl⟩
theorem dom_root {E : List (Nat × Nat)} {s i : Nat} (h : Rch E s i) : Dom E s s i := ⟨h, fun k => by
  have : ∀ j, RchA E s s j → False := fun j hj => by
    induction hj with
    | here h => exact h rfl
    | step _ _ _ ih => exact ih
  exact this _ k⟩
section
variable {E : List (Nat × Nat)} {s : Nat} {u : Nat → Option Nat}
theorem Tree.par (T : Tree E s u) {i p : Nat} (hi : i ≠ s) (hp : u i = some p) : Rch E s i ∧ Rch E s p ∧ p ≠ i ∧ Dom E s p i := by
  have h1 : Rch E s i := (T.set i).1 (by rw [hp]; rfl)
  have h2 : Dom E s p i := (T.dom i p h1).1 (.up hi hp (.refl _))
  obtain ⟨num, hn⟩ := T.num
  have := hn i p hi hp
  exact ⟨h1, h2.rch, fun e => by rw [e] at this; omega, h2⟩
theorem Tree.some (T : Tree E s u) {i : Nat} (h : Rch E s i) : ∃ p, u i = some p := Option.isSome_iff_exists.1 ((T.set i).2 h)
theorem Anc.rch (T : Tree E s u) {i a : Nat} (h : Anc u s i a) (hi : Rch E s i) : Rch E s a := ((T.dom i a hi).1 h).rch
theorem Tree.loop (T : Tree E s u) {i p : Nat} (hi : i ≠ s) (hp : u i = .some p) : ¬ Anc u s p i := by
  obtain ⟨num, hn⟩ := T.num
  have mono : ∀ v a, Anc u s v a → num v ≤ num a := fun v a h => by
    induction h with
    | refl => exact Nat.le_refl _
    | up h1 h2 _ ih => have := hn _ _ h1 h2; omega
  intro h
  have h1 := mono _ _ h
  have h2 := hn i p hi hp
  omega
end
open Classical in
noncomputable def deep (u : Nat → Option Nat) (s : Nat) (b : Nat) : Nat → Nat
  | 0 => 0
  | n + 1 => deep u s b n + if Anc u s b n then 1 else 0
theorem deep_up {E : List (Nat × Nat)} {s : Nat} {u : Nat → Option Nat} (T : Tree E s u) {b p : Nat} (hb : b ≠ s) (hp : u b = some p) : ∀ n, deep u s b n = deep u s p n + if b < n then 1 else 0
  | 0 => by simp [deep]
  | n + 1 => by
    have ih := deep_up T hb hp n
    rw [deep, deep, ih]
    by_cases h : b = n
    · subst h
      rw [if_pos (Anc.refl _), if_neg (T.loop hb hp)]
      simp
    · have e : Anc u s b n ↔ Anc u s p n := ⟨fun k => by
        obtain ⟨-, q, hq, k2⟩ := k.next h
        rw [hp] at hq
        rwa [Option.some.inj hq], fun k => .up hb hp k⟩
      by_cases hA : Anc u s p n
      · rw [if_pos (e.2 hA), if_pos hA]
        by_cases h2 : b < n
        · rw [if_pos h2, if_pos (by omega)]; all_goals omega
        · rw [if_neg h2, if_neg (by omega)]; all_goals omega
      · rw [if_neg (fun k => hA (e.1 k)), if_neg hA]
        by_cases h2 : b < n
        · rw [if_pos h2, if_pos (by omega)]; all_goals omega
        · rw [if_neg h2, if_neg (by omega)]; all_goals omega
theorem deep_anc {E : List (Nat × Nat)} {s n : Nat} {u : Nat → Option Nat} (T : Tree E s u) (hn : ∀ i, Rch E s i → i < n) {b a : Nat} (h : Anc u s b a) : Rch E s b → a = b ∨ deep u s a n < deep u s b n := by
  induction h with
  | refl => exact fun _ => .inl rfl
  | @up v p a h1 h2 h3 ih =>
    intro hv
    have hd := deep_up T h1 h2 n
    rw [if_pos (hn _ hv)] at hd
    rcases ih (T.par h1 h2).2.1 with rfl | h
    · right; omega
    · right; omega
theorem next_deep {E : List (Nat × Nat)} {s n : Nat} {u : Nat → Option Nat} (T : Tree E s u) (hn : ∀ i, Rch E s i → i < n) {b a p : Nat} (hb : b ≠ s) (hp : u b = some p) (h : Anc u s b a) : (a ≠ b ∧ deep u s a n + 1 = deep u s b n) ↔ a = p := by
  have hd := deep_up T hb hp n
  have hv := (T.par hb hp).1
  have hpv := (T.par hb hp).2.1
  rw [if_pos (hn _ hv)] at hd
  constructor
  · rintro ⟨h1, h2⟩
    obtain ⟨-, q, hq, k⟩ := h.next (fun e => h1 e.symm)
    rw [hp] at hq
    obtain rfl := Option.some.inj hq
    rcases deep_anc T hn k hpv with e | e
    · exact e
    · omega
  · rintro rfl
    exact ⟨(T.par hb hp).2.2.1, by omega⟩
def upI (s : Nat) (u : Nat → Option Nat) (i : Nat) : Int := match (if i = s then none else u i) with
  | none => -1
  | some p => p
theorem upEnd_eq (s : Nat) (u : Nat → Option Nat) (i : Nat) : upEnd s u i = .int .i64 (upI s u i) := by
  unfold upEnd upI
  cases (if i = s then none else u i) <;> rfl
theorem upI_root (s : Nat) (u : Nat → Option Nat) : upI s u s = -1 := by unfold upI; rw [if_pos rfl]
theorem upI_none {s : Nat} {u : Nat → Option Nat} {i : Nat} (h : u i = none) : upI s u i = -1 := by unfold upI; rw [h]; split <;> simp_all
theorem upI_some {s : Nat} {u : Nat → Option Nat} {i p : Nat} (hi : i ≠ s) (h : u i = some p) : upI s u i = p := by unfold upI; rw [if_neg hi, h]
def upL (s : Nat) (u : Nat → Option Nat) (n : Nat) : List Int := (List.range n).map (upI s u)
theorem upL_len (s : Nat) (u : Nat → Option Nat) (n : Nat) : (upL s u n).length = n := by simp [upL]
theorem upL_at (s : Nat) (u : Nat → Option Nat) {n i : Nat} (h : i < n) : (upL s u n)[i]? = some (upI s u i) := by simp [upL, h]
end Go.Proofs.YtnmfbaahabcocaaDoor
end
