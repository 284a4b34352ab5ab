/- Joined by my own program, in build order: CP, CG, TE, CL. -/
import Derived.Test.YtnmfbaahabcocaaDoorY19
import Derived.Test.YtnmfbaahabcocaaDoorY21
import Derived.Test.YtnmfbaahabcocaaDoorY5
import Derived.Test.YtnmfbaahabcocaaDoorY4
set_option linter.unusedVariables false
set_option linter.unusedSimpArgs false
section
namespace Go.Proofs.YtnmfbaahabcocaaDoor
namespace C17
def turnP (L : List (Nat × Nat)) : List (Nat × Nat) := L.map fun e => (e.2, e.1)
theorem mem_turnP {L : List (Nat × Nat)} {a b : Nat} : (b, a) ∈ turnP L ↔ (a, b) ∈ L := by
  unfold turnP
  rw [List.mem_map]
  constructor
  · rintro ⟨⟨x, y⟩, h, e⟩
    simp only [Prod.mk.injEq] at e
    obtain ⟨rfl, rfl⟩ := e
    exact h
  · intro h; exact ⟨(a, b), h, rfl⟩
section
variable {L : List (Nat × Nat)} {n : Nat} {u : Nat → Option Nat}
def HangP (L : List (Nat × Nat)) (u : Nat → Option Nat) (n i j : Nat) : Prop := j < n ∧ ∃ b, (i, b) ∈ L ∧ Anc u n b j ∧ (i = j ∨ ¬ Anc u n i j)
theorem edge_up (T : Tree (turnP L) n u) (hR : ∀ i, i ≤ n → Rch (turnP L) n i) {a b p : Nat} (hab : (a, b) ∈ L) (ha : a < n) (hb : b ≤ n) (hp : u a = some p) : Anc u n b p := by
  obtain ⟨h1, h2, h3, h4⟩ := T.par (show a ≠ n by omega) hp
  exact (T.dom b p (hR b hb)).2 (h4.pred h3 (hR b hb) (mem_turnP.2 hab))
theorem climb_step (T : Tree (turnP L) n u) {b k q : Nat} {cs : List Nat} (hk : k ≠ n) (hq : u k = some q) (hbk : Anc u n b k) (h : ∀ j, j ∈ cs ↔ Anc u n b j ∧ ¬ Anc u n k j) (j : Nat) : j ∈ cs ++ [k] ↔ Anc u n b j ∧ ¬ Anc u n q j := by
  have hl := T.loop hk hq
  rw [List.mem_append, List.mem_singleton, h]
  constructor
  · rintro (⟨h1, h2⟩ | rfl)
    · exact ⟨h1, fun h3 => h2 (.up hk hq h3)⟩
    · exact ⟨hbk, hl⟩
  · rintro ⟨h1, h2⟩
    by_cases e : j = k
    · exact .inr e
    · refine .inl ⟨h1, fun h3 => ?_⟩
      obtain ⟨-, p, hp, h4⟩ := h3.next (fun q => e q.symm)
      rw [hq] at hp
      cases hp
      exact h2 h4
theorem hang_iff (T : Tree (turnP L) n u) {a p j : Nat} (ha : a ≠ n) (hp : u a = some p) : (a = j ∨ ¬ Anc u n a j) ↔ ¬ Anc u n p j := by
  constructor
  · rintro (rfl | h)
    · exact T.loop ha hp
    · exact fun h2 => h (.up ha hp h2)
  · intro h
    by_cases e : a = j
    · exact .inl e
    · refine .inr fun h2 => ?_
      obtain ⟨-, q, hq, h3⟩ := h2.next e
      rw [hp] at hq
      cases hq
      exact h h3
inductive Walk (L : List (Nat × Nat)) : List Nat → Prop
  | one (a : Nat) : Walk L [a]
  | cons {a b : Nat} {r : List Nat} : (a, b) ∈ L → Walk L (b :: r) → Walk L (a :: b :: r)
theorem walk_avoid {i : Nat} (hi : i ≠ n) : ∀ {A : List Nat} {a : Nat}, Walk L (a :: A) → ((a :: A).getLast (by simp), n) ∈ L → i ∉ a :: A → RchA (turnP L) n i a
  | [], a, _, hl, hno => .step (.here (fun e => hi e.symm)) (mem_turnP.2 hl) (by simp at hno; exact fun e => hno e.symm)
  | b :: r, a, h, hl, hno => by
    cases h with
    | cons e h =>
      have ih := walk_avoid hi (A := r) h (by simpa using hl) (by simp at hno ⊢; exact hno.2)
      exact .step ih (mem_turnP.2 e) (by simp at hno; exact fun e => hno.1 e.symm)
theorem walk_hangs (T : Tree (turnP L) n u) (hR : ∀ i, i ≤ n → Rch (turnP L) n i) (hL : ∀ e ∈ L, e.1 < n ∧ e.2 ≤ n) {i : Nat} (hi : i < n) : ∀ {A : List Nat} {a : Nat}, Walk L (a :: A) → i ∈ a :: A → a < n → ¬ Anc u n a i → ∃ x ∈ a :: A, HangP L u n x i
  | [], a, _, hm, _, hno => by simp at hm; subst hm; exact absurd (Anc.refl _) hno
  | b :: r, a, h, hm, ha, hno => by
    cases h with
    | cons e h =>
      have hb := hL _ e
      have hm : i ∈ b :: r := (List.mem_cons.1 hm).resolve_left fun q => hno (q ▸ Anc.refl _)
      by_cases hbi : Anc u n b i
      · exact ⟨a, by simp, hi, b, e, hbi, .inr hno⟩
      · have hbn : b < n := by
          refine Nat.lt_of_le_of_ne hb.2 fun q => ?_
          subst q
          cases r with
          | nil => simp at hm; omega
          | cons c r =>
            cases h with
            | cons e2 _ => have := (hL _ e2).1; simp at this
        obtain ⟨x, hx, hh⟩ := walk_hangs T hR hL hi h hm hbn hbi
        exact ⟨x, List.mem_cons_of_mem _ hx, hh⟩
theorem two_walks (T : Tree (turnP L) n u) (hR : ∀ i, i ≤ n → Rch (turnP L) n i) (hL : ∀ e ∈ L, e.1 < n ∧ e.2 ≤ n) {i a : Nat} {A B : List Nat} (hi : i < n) (ha : a < n) (hA : Walk L (a :: A)) (hB : Walk L (a :: B)) (hBl : ((a :: B).getLast (by simp), n) ∈ L) (hm : i ∈ a :: A) (hno : i ∉ a :: B) : ∃ x ∈ a :: A, HangP L u n x i := by
  have h1 := walk_avoid (show i ≠ n by omega) hB hBl hno
  refine walk_hangs T hR hL hi hA hm ha fun h => ?_
  exact ((T.dom a i (hR a (by omega))).1 h).2 h1
end
end C17
end Go.Proofs.YtnmfbaahabcocaaDoor
end
section
namespace Go.Proofs.YtnmfbaahabcocaaDoor
namespace C17
open Classical in
noncomputable def lost (code : List Ins) (m : Nat) : List Nat := (List.range m).filter fun i => decide (¬ G.Rch (turnP (e1 code code.length)) [code.length] i)
noncomputable def e2 (code : List Ins) (m : Nat) : List (Nat × Nat) := (lost code m).map fun i => (i, code.length)
noncomputable def gC (code : List Ins) : List (Nat × Nat) := e1 code code.length ++ e2 code code.length
theorem lost_len (code : List Ins) (m : Nat) : (lost code m).length ≤ m := by
  unfold lost
  refine Nat.le_trans (List.length_filter_le _ _) ?_
  simp
theorem gC_len (code : List Ins) : (gC code).length ≤ 3 * code.length := by
  unfold gC e2
  rw [List.length_append, List.length_map]
  have := e1_len code code.length
  have := lost_len code code.length
  omega
theorem mem_e2 {code : List Ins} {m : Nat} {e : Nat × Nat} : e ∈ e2 code m ↔ e.1 < m ∧ e.2 = code.length ∧ ¬ G.Rch (turnP (e1 code code.length)) [code.length] e.1 := by
  unfold e2 lost
  rw [List.mem_map]
  constructor
  · rintro ⟨i, hi, rfl⟩
    simp at hi
    exact ⟨hi.1, rfl, hi.2⟩
  · rintro ⟨h1, h2, h3⟩
    refine ⟨e.1, by simp [h1, h3], ?_⟩
    rw [← h2]
theorem gC_lt {code : List Ins} (h : okC code = true) : ∀ e ∈ gC code, e.1 < code.length ∧ e.2 ≤ code.length := fun e he => by
  rcases List.mem_append.1 he with he | he
  · exact e1_lt h e he
  · obtain ⟨h1, h2, -⟩ := mem_e2.1 he
    exact ⟨h1, by omega⟩
theorem gC_all {code : List Ins} : ∀ i, i ≤ code.length → Rch (turnP (gC code)) code.length i := fun i hi => by
  by_cases e : i = code.length
  · subst e; exact .here
  by_cases h : G.Rch (turnP (e1 code code.length)) [code.length] i
  · clear hi e
    induction h with
    | here h => simp at h; subst h; exact .here
    | step _ e ih => exact ih.step (mem_turnP.2 (List.mem_append_left _ (mem_turnP.1 e)))
  · exact .step .here (mem_turnP.2 (List.mem_append_right _ (mem_e2.2 ⟨by show i < _; omega, rfl, h⟩)))
end C17
end Go.Proofs.YtnmfbaahabcocaaDoor
end
section
namespace Go.Proofs.YtnmfbaahabcocaaDoor
section
variable {E : List (Nat × Nat)} {s : Nat}
theorem RchA.ne {d i : Nat} (h : RchA E s d i) : i ≠ d := by
  cases h with
  | here h => exact h
  | step _ _ h => exact h
theorem rchA_split {a b c : Nat} (h : RchA E s a c) : RchA E s b c ∨ RchA E s a b := by
  induction h with
  | here h =>
    by_cases e : s = b
    · subst e; exact .inr (.here h)
    · exact .inl (.here e)
  | @step i j hi he hj ih =>
    rcases ih with ih | ih
    · by_cases e : j = b
      · subst e; exact .inr (hi.step he hj)
      · exact .inl (ih.step he e)
    · exact .inr ih
theorem Dom.trans {a b c : Nat} (h1 : Dom E s a b) (h2 : Dom E s b c) : Dom E s a c := ⟨h2.1, fun k => (rchA_split (b := b) k).elim h2.2 h1.2⟩
theorem rch_two {a b : Nat} (hab : a ≠ b) {j : Nat} (h : Rch E s j) : (RchA E s a j ∧ RchA E s b j) ∨ RchA E s a b ∨ RchA E s b a := by
  induction h with
  | here =>
    by_cases e : s = a
    · subst e; exact .inr (.inr (.here hab))
    · by_cases e2 : s = b
      · subst e2; exact .inr (.inl (.here e))
      · exact .inl ⟨.here e, .here e2⟩
  | @step i j _ he ih =>
    rcases ih with ⟨h1, h2⟩ | ih
    · by_cases e : j = a
      · subst e; exact .inr (.inr (h2.step he hab))
      · by_cases e2 : j = b
        · subst e2; exact .inr (.inl (h1.step he e))
        · exact .inl ⟨h1.step he e, h2.step he e2⟩
    · exact .inr ih
theorem dom_anti {a b : Nat} (h1 : Dom E s a b) (h2 : Dom E s b a) : a = b := Classical.byContradiction fun hab => by
  rcases rch_two hab h2.1 with ⟨h, -⟩ | h | h
  · exact h.ne rfl
  · exact h1.2 h
  · exact h2.2 h
theorem dom_chain {a b i : Nat} (h1 : Dom E s a i) (h2 : Dom E s b i) : Dom E s a b ∨ Dom E s b a := Classical.byContradiction fun hno => by
  have hab : a ≠ b := fun e => by subst e; exact hno (.inl (dom_self h1.rch))
  have ka : RchA E s a b := Classical.byContradiction fun k => hno (.inl ⟨h2.rch, k⟩)
  have kb : RchA E s b a := Classical.byContradiction fun k => hno (.inr ⟨h1.rch, k⟩)
  have key : ∀ {j}, Rch E s j → RchA E s a j ∨ RchA E s b j := fun {j} h => by
    induction h with
    | here =>
      by_cases e : s = a
      · subst e; exact .inr (.here hab)
      · exact .inl (.here e)
    | @step i j _ he ih =>
      rcases ih with ih | ih
      · by_cases e : j = a
        · subst e; exact .inr kb
        · exact .inl (ih.step he e)
      · by_cases e : j = b
        · subst e; exact .inl ka
        · exact .inr (ih.step he e)
  exact (key h1.1).elim h1.2 h2.2
open Classical in
noncomputable def cntD (E : List (Nat × Nat)) (s N b : Nat) : Nat := ((List.range N).filter fun a => decide (Dom E s a b)).length
open Classical in
theorem cntD_lt {N p v : Nat} (hv : v < N) (h : Dom E s p v) (hne : p ≠ v) : cntD E s N p < cntD E s N v := by
  unfold cntD
  have e : (List.range N).filter (fun a => decide (Dom E s a p)) = ((List.range N).filter fun a => decide (Dom E s a v)).filter fun a => decide (Dom E s a p) := by
    rw [List.filter_filter]
    refine List.filter_congr fun a _ => ?_
    by_cases k : Dom E s a p
    · simp [k, k.trans h]
    · simp [k]
  rw [e, List.length_filter_lt_length_iff_exists]
  refine ⟨v, ?_, ?_⟩
  · simp [hv, dom_self h.1]
  · simp only [decide_eq_true_eq]
    exact fun k => hne (dom_anti h k)
theorem cntD_le (N b : Nat) : cntD E s N b ≤ N := by
  unfold cntD
  refine Nat.le_trans (List.length_filter_le _ _) ?_
  simp
theorem near_one {N i : Nat} (hN : ∀ j, Rch E s j → j < N) (hi : Rch E s i) (his : i ≠ s) : ∃ d, Dom E s d i ∧ d ≠ i ∧ ∀ a, Dom E s a i → a ≠ i → Dom E s a d := by
  have hex : ∃ d, (Dom E s d i ∧ d ≠ i) ∧ ∀ a, Dom E s a i ∧ a ≠ i → cntD E s N a ≤ cntD E s N d := by
    have : ∀ k, (∃ d, (Dom E s d i ∧ d ≠ i) ∧ N ≤ cntD E s N d + k) → ∃ d, (Dom E s d i ∧ d ≠ i) ∧ ∀ a, Dom E s a i ∧ a ≠ i → cntD E s N a ≤ cntD E s N d := fun k => by
      induction k with
      | zero => rintro ⟨d, hd, hk⟩; exact ⟨d, hd, fun a _ => by have := cntD_le (E := E) (s := s) N a; omega⟩
      | succ k ih =>
        rintro ⟨d, hd, hk⟩
        by_cases c : ∃ a, (Dom E s a i ∧ a ≠ i) ∧ cntD E s N d < cntD E s N a
        · obtain ⟨a, ha, hlt⟩ := c
          exact ih ⟨a, ha, by omega⟩
        · exact ⟨d, hd, fun a ha => Nat.le_of_not_lt fun k => c ⟨a, ha, k⟩⟩
    exact this N ⟨s, ⟨dom_root hi, fun e => his e.symm⟩, by omega⟩
  obtain ⟨d, ⟨h1, h2⟩, h3⟩ := hex
  refine ⟨d, h1, h2, fun a ha hne => ?_⟩
  rcases dom_chain ha h1 with k | k
  · exact k
  · by_cases e : d = a
    · subst e; exact k
    · have := cntD_lt (hN a ha.rch) k e
      have := h3 a ⟨ha, hne⟩
      omega
open Classical in
noncomputable def upD (E : List (Nat × Nat)) (s : Nat) (i : Nat) : Option Nat :=
  if i = s then some s else if h : ∃ d, Rch E s i ∧ Dom E s d i ∧ d ≠ i ∧ ∀ a, Dom E s a i → a ≠ i → Dom E s a d then some (Classical.choose h) else none
theorem tree_exists {N : Nat} (hs : s < N) (hE : ∀ e ∈ E, e.1 < N ∧ e.2 < N) : Tree E s (upD E s) := by
  have hN : ∀ j, Rch E s j → j < N := fun j h => by
    induction h with
    | here => exact hs
    | step _ e _ => exact (hE _ e).2
  have hup : ∀ i, i ≠ s → Rch E s i → ∃ d, upD E s i = some d ∧ Dom E s d i ∧ d ≠ i ∧ ∀ a, Dom E s a i → a ≠ i → Dom E s a d := fun i hi hr => by
    have h : ∃ d, Rch E s i ∧ Dom E s d i ∧ d ≠ i ∧ ∀ a, Dom E s a i → a ≠ i → Dom E s a d := by
      obtain ⟨d, h⟩ := near_one hN hr hi
      exact ⟨d, hr, h⟩
    refine ⟨Classical.choose h, ?_, (Classical.choose_spec h).2⟩
    unfold upD
    rw [if_neg hi, dif_pos h]
  have hset : ∀ i p, i ≠ s → upD E s i = some p → Rch E s i := fun i p hi h => by
    unfold upD at h
    rw [if_neg hi] at h
    split at h
    · rename_i k; exact (Classical.choose_spec k).1
    · cases h
  have hpar : ∀ i p, i ≠ s → upD E s i = some p → Dom E s p i ∧ p ≠ i ∧ ∀ a, Dom E s a i → a ≠ i → Dom E s a p := fun i p hi h => by
    obtain ⟨d, h1, h2⟩ := hup i hi (hset i p hi h)
    rw [h] at h1; cases h1
    exact h2
  have hroot : upD E s s = some s := by unfold upD; rw [if_pos rfl]
  refine ⟨hroot, fun i => ⟨fun h => ?_, fun h => ?_⟩, ⟨fun v => N - cntD E s N v, fun v p hv hp => ?_⟩, fun i d hr => ⟨fun h => ?_, fun h => ?_⟩⟩
  · by_cases hi : i = s
    · subst hi; exact .here
    · obtain ⟨p, hp⟩ := Option.isSome_iff_exists.1 h
      exact hset i p hi hp
  · by_cases hi : i = s
    · subst hi; rw [hroot]; rfl
    · obtain ⟨d, h1, -⟩ := hup i hi h; rw [h1]; rfl
  · obtain ⟨h1, h2, -⟩ := hpar v p hv hp
    have := cntD_lt (hN v h1.1) h1 h2
    have := cntD_le (E := E) (s := s) N v
    show N - cntD E s N v < N - cntD E s N p
    omega
  · induction h with
    | refl => exact dom_self hr
    | @up v p a hv hp _ ih =>
      obtain ⟨h1, -, -⟩ := hpar v p hv hp
      exact (ih h1.rch).trans h1
  · have key : ∀ k i, cntD E s N i ≤ k → Rch E s i → Dom E s d i → Anc (upD E s) s i d := fun k => by
      induction k with
      | zero =>
        intro i hk hr h
        exfalso
        by_cases hi : i = s
        · subst hi
          have : 0 < cntD E i N i := by
            unfold cntD
            refine List.length_pos_of_mem (a := i) ?_
            simp [hN i hr, dom_self hr]
          omega
        · obtain ⟨p, h1, h2, h3, -⟩ := hup i hi hr
          have := cntD_lt (hN i hr) h2 h3
          omega
      | succ k ih =>
        intro i hk hr h
        by_cases e : d = i
        · subst e; exact .refl _
        · have hi : i ≠ s := fun q => by
            subst q
            exact e (dom_anti h (dom_root h.rch))
          obtain ⟨p, h1, h2, h3, h4⟩ := hup i hi hr
          have hlt := cntD_lt (hN i hr) h2 h3
          exact .up hi h1 (ih p (by omega) h2.rch (h4 d h e))
    exact key _ i (Nat.le_refl _) hr h
end
end Go.Proofs.YtnmfbaahabcocaaDoor
end
section
namespace Go.Proofs.YtnmfbaahabcocaaDoor
namespace C17
def exE : List (Nat × Nat) := [(0, 1), (0, 2), (1, 2), (2, 3)]
def insK (k t e : Int) : Ins := ⟨k, 0, 0, 0, 0, t, e, 0, ⟨#[]⟩, []⟩
def exC : List Ins := [insK 16 1 2, insK 3 0 0, insK 19 0 0]
theorem ex_e1 : e1 exC 3 = exE := by rfl
theorem ex_rch : ∀ i, i ≤ 3 → G.Rch (turnP exE) [3] i := fun i hi => by
  have h3 : G.Rch (turnP exE) [3] 3 := .here (by simp)
  have h2 : G.Rch (turnP exE) [3] 2 := h3.step (by simp [turnP, exE])
  have h1 : G.Rch (turnP exE) [3] 1 := h2.step (by simp [turnP, exE])
  have h0 : G.Rch (turnP exE) [3] 0 := h2.step (by simp [turnP, exE])
  match i, hi with
  | 0, _ => exact h0
  | 1, _ => exact h1
  | 2, _ => exact h2
  | 3, _ => exact h3
theorem ex_gC : gC exC = exE := by
  have h : e2 exC 3 = [] := by
    refine List.eq_nil_iff_forall_not_mem.2 fun e he => ?_
    obtain ⟨h1, h2, h3⟩ := mem_e2.1 he
    refine h3 ?_
    have := ex_rch e.1 (by omega)
    rw [← ex_e1] at this
    exact this
  show e1 exC 3 ++ e2 exC 3 = exE
  rw [h, ex_e1, List.append_nil]
theorem ex_avoid {j : Nat} (h : RchA (turnP exE) 3 2 j) : j = 3 := by
  induction h with
  | here _ => rfl
  | step _ he hj ih =>
    subst ih
    simp [turnP, exE] at he
    omega
theorem ex_tree {u : Nat → Option Nat} (T : Tree (turnP exE) 3 u) : upL 3 u 4 = [2, 2, 3, -1] := by
  have a3 : Rch (turnP exE) 3 3 := .here
  have a2 : Rch (turnP exE) 3 2 := a3.step (by simp [turnP, exE])
  have a1 : Rch (turnP exE) 3 1 := a2.step (by simp [turnP, exE])
  have a0 : Rch (turnP exE) 3 0 := a2.step (by simp [turnP, exE])
  have w2 : ∀ d, d ≠ 3 → d ≠ 2 → RchA (turnP exE) 3 d 2 := fun d h1 h2 => .step (.here (fun e => h1 e.symm)) (by simp [turnP, exE]) (fun e => h2 e.symm)
  obtain ⟨p2, hp2⟩ := T.some a2
  obtain ⟨p1, hp1⟩ := T.some a1
  obtain ⟨p0, hp0⟩ := T.some a0
  have up : ∀ {i p}, i < 2 → Rch (turnP exE) 3 i → (i, 2) ∈ exE → u i = some p → p = 2 := fun {i p} hi hr he hp => by
    obtain ⟨-, -, h3, h4⟩ := T.par (show i ≠ 3 by omega) hp
    have hp23 : p = 3 ∨ p = 2 := Classical.byContradiction fun hno => by
      have h5 : p ≠ 3 ∧ p ≠ 2 := ⟨fun e => hno (.inl e), fun e => hno (.inr e)⟩
      exact h4.2 (.step (w2 p h5.1 h5.2) (mem_turnP.2 he) (fun e => h3 e.symm))
    rcases hp23 with rfl | rfl
    · have hd : Dom (turnP exE) 3 2 i := ⟨hr, fun k => by have := ex_avoid k; omega⟩
      obtain ⟨-, q, hq, ha⟩ := ((T.dom i 2 hr).2 hd).next (by omega)
      rw [hp] at hq; cases hq
      have := ha.root
      omega
    · rfl
  have e2 : p2 = 3 := by
    obtain ⟨-, -, h3, h4⟩ := T.par (show (2 : Nat) ≠ 3 by omega) hp2
    exact Classical.byContradiction fun hno => h4.2 (w2 p2 hno h3)
  have e1 := up (by decide) a1 (by simp [exE]) hp1
  have e0 := up (by decide) a0 (by simp [exE]) hp0
  subst e0 e1 e2
  have r0 := upI_some (show (0 : Nat) ≠ 3 by decide) hp0
  have r1 := upI_some (show (1 : Nat) ≠ 3 by decide) hp1
  have r2 := upI_some (show (2 : Nat) ≠ 3 by decide) hp2
  have r3 := upI_root 3 u
  show [upI 3 u 0, upI 3 u 1, upI 3 u 2, upI 3 u 3] = _
  rw [r0, r1, r2, r3]
  rfl
end C17
end Go.Proofs.YtnmfbaahabcocaaDoor
end
