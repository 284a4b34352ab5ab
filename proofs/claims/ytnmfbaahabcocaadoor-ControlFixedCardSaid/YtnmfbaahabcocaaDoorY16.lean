/- Joined by my own program, in build order: Best. -/
import Derived.Test.YtnmfbaahabcocaaDoorY14
import Derived.Test.YtnmfbaahabcocaaDoorY15
set_option linter.unusedVariables false
set_option linter.unusedSimpArgs false
section
namespace Go.Proofs.YtnmfbaahabcocaaDoor
open Go.RowKit
def BestL (u : Nat → Option Nat) (s : Nat) (l : List Nat) : Option Nat → Prop
  | none => ∀ p ∈ l, u p = none
  | some c => (u c).isSome = true ∧ (∀ p ∈ l, (u p).isSome = true → Anc u s p c) ∧ ∀ d, (∀ p ∈ l, (u p).isSome = true → Anc u s p d) → Anc u s c d
section
variable {u : Nat → Option Nat} {s : Nat} {l : List Nat}
theorem BestL.start : BestL u s [] none := fun p h => by cases h
theorem BestL.skip {co : Option Nat} {p : Nat} (h : BestL u s l co) (hp : u p = none) : BestL u s (l ++ [p]) co := by
  have mem : ∀ q, q ∈ l ++ [p] → (u q).isSome = true → q ∈ l := fun q hq hs => by
    rcases List.mem_append.1 hq with hq | hq
    · exact hq
    · rw [List.mem_singleton.1 hq, hp] at hs; cases hs
  cases co with
  | none =>
    intro q hq
    rcases List.mem_append.1 hq with hq | hq
    · exact h q hq
    · rw [List.mem_singleton.1 hq]; exact hp
  | some c => exact ⟨h.1, fun q hq hs => h.2.1 q (mem q hq hs) hs, fun d hd => h.2.2 d fun q hq hs => hd q (List.mem_append_left _ hq) hs⟩
theorem BestL.first {p : Nat} (h : BestL u s l none) (hp : (u p).isSome = true) : BestL u s (l ++ [p]) (some p) := by
  refine ⟨hp, fun q hq hs => ?_, fun d hd => hd p (by simp) hp⟩
  rcases List.mem_append.1 hq with hq | hq
  · rw [h q hq] at hs; cases hs
  · rw [List.mem_singleton.1 hq]; exact .refl _
theorem BestL.meet {p c m : Nat} (h : BestL u s l (some c)) (hp : (u p).isSome = true) (hm : (u m).isSome = true) (h1 : Anc u s p m) (h2 : Anc u s c m) (h3 : ∀ d, Anc u s p d → Anc u s c d → Anc u s m d) : BestL u s (l ++ [p]) (some m) := by
  refine ⟨hm, fun q hq hs => ?_, fun d hd => h3 d (hd p (by simp) hp) (h.2.2 d fun q hq hs => hd q (List.mem_append_left _ hq) hs)⟩
  rcases List.mem_append.1 hq with hq | hq
  · exact (h.2.1 q hq hs).trans h2
  · rw [List.mem_singleton.1 hq]; exact h1
theorem BestL.best {E : List (Nat × Nat)} {i c : Nat} (h : BestL u s (outs (flip E) i) (some c)) : Best E s u i c :=
  ⟨h.1, fun p hp hs => h.2.1 p (mem_ins.2 hp) hs, fun d hd => h.2.2 d fun p hp hs => hd p (mem_ins.1 hp) hs⟩
theorem BestL.some {E : List (Nat × Nat)} {i r : Nat} {co : Option Nat} (h : BestL u s (outs (flip E) i) co) (he : (r, i) ∈ E) (hr : (u r).isSome = true) : ∃ c, co = .some c := by
  cases co with
  | some c => exact ⟨c, rfl⟩
  | none =>
    have := h r (mem_ins.2 he)
    rw [this] at hr; cases hr
end
theorem rch_lt {E : List (Nat × Nat)} {s n i : Nat} (hs : s < n) (hE : ∀ e ∈ E, e.1 < n ∧ e.2 < n) (h : Rch E s i) : i < n := by
  cases h with
  | here => exact hs
  | step _ he => exact (hE _ he).2
def phi (num : Nat → Nat) (u : Nat → Option Nat) : List Nat → Nat
  | [] => 0
  | v :: l => (match u v with | none => 0 | some p => num p + 1) + phi num u l
theorem phi_le (num : Nat → Nat) (u : Nat → Option Nat) (b : Nat) : ∀ l : List Nat, (∀ v ∈ l, ∀ p, u v = some p → num p + 1 ≤ b) → phi num u l ≤ l.length * b
  | [], _ => by simp [phi]
  | v :: l, h => by
    have ih := phi_le num u b l fun q hq => h q (List.mem_cons_of_mem _ hq)
    have h1 := h v (by simp)
    unfold phi
    rw [List.length_cons, Nat.succ_mul]
    cases hv : u v with
    | none => simp only; omega
    | some p => have := h1 p hv; simp only; omega
theorem phi_mono (num : Nat → Nat) (u u' : Nat → Option Nat) (i c : Nat) (hu : u' = setU u i c) (hle : ∀ x, u i = some x → num x ≤ num c) : ∀ l : List Nat, phi num u l ≤ phi num u' l
  | [] => Nat.le_refl _
  | v :: l => by
    have ih := phi_mono num u u' i c hu hle l
    unfold phi
    by_cases e : v = i
    · have h1 : u' v = some c := by rw [hu, e]; simp [setU]
      rw [h1]
      cases hv : u v with
      | none => simp only; omega
      | some p => have := hle p (by rw [← e]; exact hv); simp only; omega
    · have h1 : u' v = u v := by rw [hu]; simp [setU, e]
      rw [h1]; omega
theorem phi_lt (num : Nat → Nat) (u u' : Nat → Option Nat) (i c : Nat) (hu : u' = setU u i c) (hle : ∀ x, u i = some x → num x < num c) : ∀ l : List Nat, i ∈ l → phi num u l < phi num u' l
  | [], h => by cases h
  | v :: l, h => by
    have hm := phi_mono num u u' i c hu (fun x hx => Nat.le_of_lt (hle x hx)) l
    unfold phi
    by_cases e : v = i
    · have h1 : u' v = some c := by rw [hu, e]; simp [setU]
      rw [h1]
      cases hv : u v with
      | none => simp only; omega
      | some p => have := hle p (by rw [← e]; exact hv); simp only; omega
    · have h1 : u' v = u v := by rw [hu]; simp [setU, e]
      have h2 : i ∈ l := by
        rcases List.mem_cons.1 h with h | h
        · exact absurd h.symm e
        · exact h
      have := phi_lt num u u' i c hu hle l h2
      rw [h1]; omega
theorem phi_bound {E : List (Nat × Nat)} {s : Nat} {nodes : List Nat} {num : Nat → Nat} {u : Nat → Option Nat} (P : Post E s nodes num) (S : St E s nodes num u) : phi num u nodes ≤ nodes.length * nodes.length :=
  phi_le num u nodes.length nodes fun v _ p hp => by
    by_cases e : v = s
    · rw [e, S.root] at hp
      cases hp
      exact P.lt P.root
    · exact P.lt (S.tree v p e hp).2.1
theorem pass_next {E : List (Nat × Nat)} {s : Nat} {nodes : List Nat} {num : Nat → Nat} {u0 u : Nat → Option Nat} {m : Int} {ch : Bool} (P : Post E s nodes num) (B : Begin E s nodes num u0) (H : Pass E s nodes num u0 u m ch) {i c : Nat} (hi : i ∈ nodes) (his : i ≠ s) (him : (num i : Int) = m) (hb : Best E s u i c)
    (h1 : phi num u0 nodes ≤ phi num u nodes) (h2 : ch = true → phi num u0 nodes < phi num u nodes) :
    Pass E s nodes num u0 (setU u i c) (m - 1) (ch || decide (u i ≠ some c)) ∧ phi num u0 nodes ≤ phi num (setU u i c) nodes ∧ ((ch || decide (u i ≠ some c)) = true → phi num u0 nodes < phi num (setU u i c) nodes) := by
  obtain ⟨_, hcn, hmove⟩ := H.move P B hi his him hb
  have hle : ∀ x, u i = some x → num x ≤ num c := fun x hx => (Anc.num_le H.st (hmove x hx)).1
  have hm := phi_mono num u (setU u i c) i c rfl hle nodes
  refine ⟨H.step P B hi his him hb, Nat.le_trans h1 hm, fun h => ?_⟩
  by_cases e : u i = some c
  · have hc : ch = true := by simpa [e] using h
    exact Nat.lt_of_lt_of_le (h2 hc) hm
  · have hlt : ∀ x, u i = some x → num x < num c := fun x hx => by
      rcases Nat.lt_or_ge (num x) (num c) with h3 | h3
      · exact h3
      · have hxn := (H.st.tree i x his hx).2.1
        have := P.inj hxn hcn (Nat.le_antisymm (hle x hx) h3)
        exact absurd (by rw [hx, this]) e
    exact Nat.lt_of_le_of_lt h1 (phi_lt num u (setU u i c) i c rfl hlt nodes hi)
structure PS (wy wr : World) (ub vu n : Nat) (u : Nat → Option Nat) : Prop where
  below : Below wy.heap.size wy wr
  up : wr.rowIs ub 3 n (fun i => uv (u i))
  var : wr.cell? ⟨vu, 0, none⟩ = some (.slice (some ⟨ub, 0, none⟩) n n)
  ne : vu ≠ ub
  high : wy.heap.size ≤ ub
theorem PS.more {wy wr w1 : World} {ub vu n : Nat} {u : Nat → Option Nat} (h : PS wy wr ub vu n u) (hb : Below wr.heap.size wr w1) : PS wy w1 ub vu n u :=
  ⟨h.below.trans (hb.mono h.below.size), h.up.of_block (hb.block ub h.up.lt), (hb.cell (p := ⟨vu, 0, none⟩) (cell_lt h.var)).trans h.var, h.ne, h.high⟩
theorem PS.set {wy wr : World} {ub vu n : Nat} {u : Nat → Option Nat} (h : PS wy wr ub vu n u) (i c : Nat) : PS wy (wr.setCell ⟨ub, i, none⟩ (.int .i64 (c : Int))) ub vu n (setU u i c) :=
  ⟨h.below.setCell h.high _, (h.up.set i _).congr (fun j _ => by by_cases e : j = i <;> simp [e, setU, uv]), ((World.cell?_of_block (w := wr) (Below.heap_setCell wr _ _ vu h.ne))).trans h.var, h.ne, h.high⟩
theorem setU_same {u : Nat → Option Nat} {i c : Nat} (h : u i = some c) : setU u i c = u := by
  funext j
  unfold setU
  by_cases e : j = i
  · rw [if_pos e, e, h]
  · rw [if_neg e]
end Go.Proofs.YtnmfbaahabcocaaDoor
end
