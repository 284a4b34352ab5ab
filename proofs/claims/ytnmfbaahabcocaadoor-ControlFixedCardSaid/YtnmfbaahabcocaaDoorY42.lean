/- Joined by my own program, in build order: HL. -/
import Derived.Test.YtnmfbaahabcocaaDoorY22
import Derived.Test.YtnmfbaahabcocaaDoorY20
import Derived.Test.YtnmfbaahabcocaaDoorY40
import Derived.Test.YtnmfbaahabcocaaDoorY41
import Derived.Lib.SlicesCompact
set_option linter.unusedVariables false
set_option linter.unusedSimpArgs false
section
namespace Go.Proofs.YtnmfbaahabcocaaDoor
namespace C17
open G
section
variable {code : List Ins} {u : Nat → Option Nat}
theorem rch_le (hok : okC code = true) {i : Nat} (h : Rch (turnP (gC code)) code.length i) : i ≤ code.length := by
 induction h with
 | here => exact Nat.le_refl _
 | step _ e _ => exact Nat.le_of_lt (gC_lt hok _ (mem_turnP.1 e)).1
theorem anc_le (hok : okC code = true) (T : Tree (turnP (gC code)) code.length u) {b j : Nat} (hb : b ≤ code.length) (h : Anc u code.length b j) : j ≤ code.length := rch_le hok (h.rch T (gC_all b hb))
theorem anc_root (T : Tree (turnP (gC code)) code.length u) {b : Nat} (hb : b ≤ code.length) : Anc u code.length b code.length := (T.dom b _ (gC_all b hb)).2 (dom_root (gC_all b hb))
theorem up_some (hok : okC code = true) (T : Tree (turnP (gC code)) code.length u) {i : Nat} (hi : i < code.length) : ∃ p, u i = some p ∧ p ≤ code.length ∧ upI code.length u i = p := by
 obtain ⟨p, hp⟩ := T.some (gC_all i (Nat.le_of_lt hi))
 exact ⟨p, hp, rch_le hok (T.par (by omega) hp).2.1, upI_some (by omega) hp⟩
structure Climb (u : Nat → Option Nat) (n b p k : Nat) (cs : List Nat) : Prop where
 anc : Anc u n b k
 top : Anc u n k p
 mem : ∀ j, j ∈ cs ↔ Anc u n b j ∧ ¬ Anc u n k j
 nodup : cs.Nodup
 lt : ∀ j ∈ cs, j < n
theorem Climb.start {n b p : Nat} (h : Anc u n b p) : Climb u n b p b [] :=
 ⟨.refl _, h, fun j => by simp, List.nodup_nil, fun j hj => by cases hj⟩
theorem Climb.next (hok : okC code = true) (T : Tree (turnP (gC code)) code.length u) {b p k q : Nat} {cs : List Nat} (hb : b ≤ code.length) (h : Climb u code.length b p k cs) (hkp : k ≠ p) (hk : k < code.length) (hq : u k = some q) : Climb u code.length b p q (cs ++ [k]) := by
 have hkn : k ≠ code.length := by omega
 refine ⟨h.anc.trans (.up hkn hq (.refl _)), ?_, climb_step T hkn hq h.anc h.mem, ?_, fun j hj => ?_⟩
 ·obtain ⟨-, r, hr, ha⟩ := h.top.next hkp
  rw [hq] at hr; cases hr; exact ha
 ·rw [List.nodup_append]
  refine ⟨h.nodup, by simp, fun x hx y hy e => ?_⟩
  simp at hy; subst hy; subst e
  exact ((h.mem x).1 hx).2 (.refl _)
 ·rcases List.mem_append.1 hj with hj | hj
  ·exact h.lt j hj
  ·simp at hj; omega
theorem Climb.done {n b p k : Nat} {cs : List Nat} (h : Climb u n b p k cs) (hk : k = p ∨ k = n) (j : Nat) : j ∈ cs ↔ Anc u n b j ∧ ¬ Anc u n p j := by
 have : k = p := hk.elim id fun e => by subst e; exact h.top.root.symm
 subst this
 exact h.mem j
def HangT (u : Nat → Option Nat) (n : Nat) (L : List (Nat × Nat)) (i j : Nat) : Prop := ∃ b p, (i, b) ∈ L ∧ u i = some p ∧ Anc u n b j ∧ ¬ Anc u n p j
theorem hangT_snoc {n : Nat} {L : List (Nat × Nat)} {f t i j : Nat} : HangT u n (L ++ [(f, t)]) i j ↔ HangT u n L i j ∨ (i = f ∧ ∃ p, u f = some p ∧ Anc u n t j ∧ ¬ Anc u n p j) := by
 constructor
 ·rintro ⟨b, p, hb, hp, h⟩
  rcases List.mem_append.1 hb with hb | hb
  ·exact .inl ⟨b, p, hb, hp, h⟩
  ·simp at hb
   obtain ⟨rfl, rfl⟩ := hb
   exact .inr ⟨rfl, p, hp, h⟩
 ·rintro (⟨b, p, hb, hp, h⟩ | ⟨rfl, p, hp, h⟩)
  ·exact ⟨b, p, List.mem_append_left _ hb, hp, h⟩
  ·exact ⟨t, p, by simp, hp, h⟩
theorem hangT_all (hok : okC code = true) (T : Tree (turnP (gC code)) code.length u) {i j : Nat} : HangT u code.length (gC code) i j ↔ i < code.length ∧ HangP (gC code) u code.length i j := by
 constructor
 ·rintro ⟨b, p, hb, hp, h1, h2⟩
  have hl := gC_lt hok _ hb
  have hpn : p ≤ code.length := rch_le hok (T.par (by have := hl.1; simp only at this; omega) hp).2.1
  refine ⟨hl.1, ?_, b, hb, h1, (hang_iff T (by have := hl.1; simp only at this; omega) hp).2 h2⟩
  have := anc_le hok T hl.2 h1
  refine Nat.lt_of_le_of_ne this fun e => h2 ?_
  rw [e]; exact anc_root T hpn
 ·rintro ⟨hi, hj, b, hb, h1, h2⟩
  obtain ⟨p, hp, -, -⟩ := up_some hok T hi
  exact ⟨b, p, hb, hp, h1, (hang_iff T (by omega) hp).1 h2⟩
open Classical in
noncomputable def hangL (L : List (Nat × Nat)) (u : Nat → Option Nat) (n : Nat) : List (Nat × Nat) := (List.range n).flatMap fun i => ((List.range n).filter fun j => decide (HangP L u n i j)).map fun j => (i, j)
theorem mem_hangL {L : List (Nat × Nat)} {n i j : Nat} : (i, j) ∈ hangL L u n ↔ i < n ∧ HangP L u n i j := by
 unfold hangL
 rw [List.mem_flatMap]
 constructor
 ·rintro ⟨a, ha, h⟩
  obtain ⟨b, hb, e⟩ := List.mem_map.1 h
  simp only [Prod.mk.injEq] at e
  obtain ⟨rfl, rfl⟩ := e
  exact ⟨List.mem_range.1 ha, by simpa using (List.mem_filter.1 hb).2⟩
 ·rintro ⟨h1, h2⟩
  exact ⟨i, List.mem_range.2 h1, List.mem_map.2 ⟨j, List.mem_filter.2 ⟨List.mem_range.2 h2.1, by simpa using h2⟩, rfl⟩⟩
theorem hangL_rising (L : List (Nat × Nat)) (n : Nat) : (hangL L u n).Pairwise lexLt := by
 unfold hangL
 rw [List.pairwise_flatMap]
 refine ⟨fun a _ => ?_, List.pairwise_lt_range.imp fun {a b} hab p hp q hq => ?_⟩
 ·rw [List.pairwise_map]
  exact (List.pairwise_lt_range.filter _).imp fun h => .inr ⟨rfl, h⟩
 ·obtain ⟨x, -, rfl⟩ := List.mem_map.1 hp
  obtain ⟨y, -, rfl⟩ := List.mem_map.1 hq
  exact .inl hab
end
section
variable {α : Type} [Inhabited α] [DecidableEq α]
theorem memC {zs : List α} {z : α} : z ∈ Lib.compact zs ↔ z ∈ zs := by
 have up : ∀ (m j : Nat), j < m → m ≤ zs.length → zs.toArray[j]! ∈ Lib.compactUpTo zs.toArray m := fun m j => by
  induction j with
  | zero =>
   intro h1 h2
   exact List.mem_map.2 ⟨0, List.mem_filter.2 ⟨List.mem_range.2 h1, Lib.keeps_lt_one _ 0 (by decide)⟩, rfl⟩
  | succ j ih =>
   intro h1 h2
   by_cases hk : Lib.keeps zs.toArray (j + 1) = true
   ·exact List.mem_map.2 ⟨j + 1, List.mem_filter.2 ⟨List.mem_range.2 h1, hk⟩, rfl⟩
   ·have : zs.toArray[j + 1]! = zs.toArray[j]! := by simpa [Lib.keeps] using hk
    rw [this]; exact ih (by omega) h2
 unfold Lib.compact
 constructor
 ·intro h
  obtain ⟨j, hj, rfl⟩ := List.mem_map.1 h
  have hj := List.mem_range.1 (List.mem_filter.1 hj).1
  simp [hj]
 ·intro h
  obtain ⟨j, hj⟩ := List.getElem?_of_mem h
  have hl := (List.getElem?_eq_some_iff.1 hj)
  have := up zs.length j hl.1 (Nat.le_refl _)
  obtain ⟨h1, h2⟩ := hl
  simpa [h1, h2] using this
end
def ltI (x y : Int × Int) : Prop := x.1 < y.1 ∨ (x.1 = y.1 ∧ x.2 < y.2)
theorem upC {d : Array (Int × Int)} (hs : ∀ i j, i ≤ j → j < d.size → ¬ ltI d[j]! d[i]!) : ∀ m, m ≤ d.size → (Lib.compactUpTo d m).Pairwise ltI ∧ ∀ x ∈ Lib.compactUpTo d m, ∃ i, i < m ∧ x = d[i]! := fun m => by
 induction m with
 | zero => intro _; exact ⟨by simp [Lib.compactUpTo], by simp [Lib.compactUpTo]⟩
 | succ m ih =>
  intro hm
  obtain ⟨h1, h2⟩ := ih (by omega)
  rw [Lib.compactUpTo_succ]
  by_cases hk : Lib.keeps d m = true
  ·rw [if_pos hk]
   refine ⟨List.pairwise_append.2 ⟨h1, by simp, fun x hx y hy => ?_⟩, fun x hx => ?_⟩
   ·simp at hy; subst hy
    obtain ⟨i, hi, rfl⟩ := h2 x hx
    have hne : d[m]! ≠ d[m - 1]! := by
     unfold Lib.keeps at hk
     simp only [decide_eq_true_eq] at hk
     exact hk.resolve_left (by omega)
    have a := hs (m - 1) m (by omega) (by omega)
    have b := hs i (m - 1) (by omega) (by omega)
    generalize d[m]! = z at *
    generalize d[m - 1]! = y at *
    generalize d[i]! = x at *
    obtain ⟨z1, z2⟩ := z
    obtain ⟨y1, y2⟩ := y
    obtain ⟨x1, x2⟩ := x
    simp only [ne_eq, Prod.mk.injEq, ltI] at *
    omega
   ·rcases List.mem_append.1 hx with hx | hx
    ·obtain ⟨i, hi, e⟩ := h2 x hx; exact ⟨i, by omega, e⟩
    ·simp at hx; exact ⟨m, by omega, hx⟩
  ·rw [if_neg hk, List.append_nil]
   exact ⟨h1, fun x hx => by obtain ⟨i, hi, e⟩ := h2 x hx; exact ⟨i, by omega, e⟩⟩
theorem sortE_le (L : List (Int × Int)) : (V.sortE L).Pairwise fun x y => ¬ ltI y x := by
 have hpw : (V.sortE L).Pairwise fun x y => (!(ltOf cmpE) y x) = true := by
  refine List.pairwise_mergeSort (fun a b c h1 h2 => ?_) (fun a b => ?_) _
  ·simp only [Bool.not_eq_true'] at *
   exact V.swoE.ntrans c b a h2 h1
  ·rw [V.ltE, V.ltE]
   by_cases h : b.1 < a.1 ∨ (b.1 = a.1 ∧ b.2 < a.2)
   ·have : ¬ (a.1 < b.1 ∨ (a.1 = b.1 ∧ a.2 < b.2)) := by omega
    simp [this]
   ·simp [h]
 refine hpw.imp fun {x y} h => ?_
 rw [V.ltE] at h
 simp at h
 intro q
 unfold ltI at q
 omega
theorem cut_row (O : List (Nat × Nat)) : ∃ K : List (Nat × Nat), Lib.compact (V.sortE (O.map V.castE)) = K.map V.castE ∧ K.Pairwise lexLt ∧ ∀ p, p ∈ K ↔ p ∈ O := by
 have hmem : ∀ p, p ∈ Lib.compact (V.sortE (O.map V.castE)) → ∃ q ∈ O, p = V.castE q := fun p hp => by
  obtain ⟨q, hq, e⟩ := List.mem_map.1 (V.mem_sortE.1 (memC.1 hp))
  exact ⟨q, hq, e.symm⟩
 have hpw : (Lib.compact (V.sortE (O.map V.castE))).Pairwise ltI := by
  refine (upC (d := (V.sortE (O.map V.castE)).toArray) (fun i j hij hj => ?_) _ (by simp)).1
  have hj : j < (V.sortE (O.map V.castE)).length := by simpa using hj
  rcases Nat.lt_or_eq_of_le hij with h | h
  ·have := List.pairwise_iff_getElem.1 (sortE_le (O.map V.castE)) i j (by omega) hj h
   simpa [hj, show i < (V.sortE (O.map V.castE)).length by omega] using this
  ·subst h
   unfold ltI; omega
 refine ⟨(Lib.compact (V.sortE (O.map V.castE))).map (fun p => (p.1.toNat, p.2.toNat)), ?_, ?_, fun p => ?_⟩
 ·rw [List.map_map]
  refine ((List.map_congr_left fun p hp => ?_).trans (List.map_id _)).symm
  obtain ⟨q, -, rfl⟩ := hmem p hp
  simp [V.castE]
 ·rw [List.pairwise_map]
  refine hpw.imp_of_mem fun {x y} hx hy h => ?_
  obtain ⟨a, -, rfl⟩ := hmem x hx
  obtain ⟨b, -, rfl⟩ := hmem y hy
  simp only [ltI, V.castE] at h
  simp only [lexLt, V.castE]
  omega
 ·rw [List.mem_map]
  constructor
  ·rintro ⟨x, hx, rfl⟩
   obtain ⟨q, hq, rfl⟩ := hmem x hx
   simpa [V.castE] using hq
  ·intro h
   exact ⟨V.castE p, memC.2 (V.mem_sortE.2 (List.mem_map_of_mem h)), by simp [V.castE]⟩
theorem hang_row {code : List Ins} {u : Nat → Option Nat} (hok : okC code = true) (T : Tree (turnP (gC code)) code.length u) (O : List (Nat × Nat)) (h : ∀ i j, (i, j) ∈ O ↔ HangT u code.length (gC code) i j) : Lib.compact (V.sortE (O.map V.castE)) = (hangL (gC code) u code.length).map V.castE := by
 obtain ⟨K, e, hr, hm⟩ := cut_row O
 rw [e]
 congr 1
 refine rising_ext hr (hangL_rising _ _) fun ⟨i, j⟩ => ?_
 rw [hm, h, hangT_all hok T, mem_hangL]
end C17
end Go.Proofs.YtnmfbaahabcocaaDoor
end
