/- Joined by my own program, in build order: Br. -/
import Derived.Test.YtnmfbaahabcocaaDoorY35
import Derived.Test.YtnmfbaahabcocaaDoorY19
import Derived.Test.YtnmfbaahabcocaaDoorY40
import Derived.Test.YtnmfbaahabcocaaDoorY41
set_option linter.unusedVariables false
set_option linter.unusedSimpArgs false
section
namespace Go.Proofs.YtnmfbaahabcocaaDoor
theorem tree_uniq {E : List (Nat × Nat)} {s : Nat} {u u' : Nat → Option Nat} (T : Tree E s u) (T' : Tree E s u') (i : Nat) : upI s u i = upI s u' i := by
 by_cases hi : i = s
 ·subst hi; rw [upI_root, upI_root]
 by_cases hr : Rch E s i
 ·obtain ⟨p, hp⟩ := T.some hr
  obtain ⟨p', hp'⟩ := T'.some hr
  rw [upI_some hi hp, upI_some hi hp']
  obtain ⟨-, h2, h3, h4⟩ := T.par hi hp
  obtain ⟨-, h2', h3', h4'⟩ := T'.par hi hp'
  obtain ⟨-, q, hq, a1⟩ := ((T'.dom i p hr).2 h4).next (fun e => h3 e.symm)
  rw [hp'] at hq; cases hq
  obtain ⟨-, q, hq, a2⟩ := ((T.dom i p' hr).2 h4').next (fun e => h3' e.symm)
  rw [hp] at hq; cases hq
  -- p stands above p', p' above p
  have a3 := (T.dom p' p h2').2 ((T'.dom p' p h2').1 a1)
  obtain ⟨num, hn⟩ := T.num
  have le : ∀ {x y}, Anc u s x y → num x ≤ num y := fun {x y} h => by
   induction h with
   | refl => exact Nat.le_refl _
   | up h1 h2 _ ih => have := hn _ _ h1 h2; omega
  by_cases e : p = p'
  ·rw [e]
  ·obtain ⟨hs, q, hq, a4⟩ := a2.next e
   have := hn _ _ hs hq
   have := le a4
   have := le a3
   omega
 ·have h1 : u i = none := by
   cases h : u i with
   | none => rfl
   | some p => exact absurd ((T.set i).1 (by rw [h]; rfl)) hr
  have h2 : u' i = none := by
   cases h : u' i with
   | none => rfl
   | some p => exact absurd ((T'.set i).1 (by rw [h]; rfl)) hr
  rw [upI_none h1, upI_none h2]
namespace V
open Go.RowKit G
theorem RE.of_rc {w : World} {I : Nat → Nat → Prop} {v : Value} {E : List (Nat × Nat)} (hlen : E.length ≤ 1000000) (hI : ∀ b o, I b o → b < w.heap.size) (h : RC w I v (.sl (E.map cEd))) : RE w v (E.map toE) := by
 cases h with
 | @sl a n cap e xs f hn hc hmx hl ha hr =>
  refine ⟨a, n, cap, rfl, by rw [List.length_map] at hn ⊢; exact hn, by rw [List.length_map] at hn; omega, fun i x hx => ?_⟩
  obtain ⟨⟨p, q⟩, hp, rfl⟩ : ∃ y, E[i]? = some y ∧ x = toE y := by
   rw [List.getElem?_map] at hx
   cases hy : E[i]? with
   | none => rw [hy] at hx; cases hx
   | some y => rw [hy] at hx; exact ⟨y, rfl, (Option.some.inj hx).symm⟩
  have hrow : (E.map cEd)[i]? = some [.int .i64 (p : Int), .int .i64 (q : Int)] := by rw [List.getElem?_map, hp]; rfl
  have he : e = 2 := (hl _ (List.mem_of_getElem? hrow)).symm
  subst he
  obtain ⟨g, o, hao, h1⟩ := ha i _ hrow
  have k0 := h1 0 (by decide)
  have k1 := h1 1 (by decide)
  have r0 := (RC.toInt (hr i 0 _ _ hrow rfl)).1
  have r1 := (RC.toInt (hr i 1 _ _ hrow rfl)).1
  rw [r0] at k0
  rw [r1] at k1
  exact ⟨g, o, hao, hI _ _ k0.1, k0.2, k1.2⟩
theorem rowIs_rc {w : World} {I : Nat → Nat → Prop} {b n : Nat} {f : Nat → Value} {g : Nat → Int} (h : w.rowIs b 3 n f) (hg : ∀ i, i < n → f i = .int .i64 (g i)) (hwf : ∀ i, i < n → (Lit.int .i64 (g i)).wf = true) (hn : n ≤ 100000) : RC w (fun c o => I c o ∨ c = b) (.slice (some ⟨b, 0, none⟩) n n) (.sl (((List.range n).map g).map cZ)) := by
 have hat : ∀ (i : Nat) x, (((List.range n).map g).map cZ)[i]? = some x → i < n ∧ x = [.int .i64 (g i)] := fun i x hx => by
  have hi : i < n := by have := (List.getElem?_eq_some_iff.1 hx).1; simpa using this
  refine ⟨hi, ?_⟩
  rw [List.getElem?_map, List.getElem?_map, List.getElem?_range hi] at hx
  exact (Option.some.inj hx).symm
 refine RC.sl (e := 1) (fun i _ => f i) (by simp) (Nat.le_refl _) (by unfold maxLen; omega) (fun x hx => by obtain ⟨y, -, rfl⟩ := List.mem_map.1 hx; rfl) (fun i x hx => ⟨b, 0, rfl, fun j hj => ⟨.inr rfl, ?_⟩⟩) (fun i j x c hx hc => ?_)
 ·obtain ⟨hi, -⟩ := hat i x hx
  have := h.cell hi
  simpa [show j = 0 by omega] using this
 ·obtain ⟨hi, rfl⟩ := hat i x hx
  cases j with
  | zero => simp at hc; subst hc; rw [hg i hi]; exact .int (hwf i hi)
  | succ j => simp at hc
theorem upI_wf {s n : Nat} {u : Nat → Option Nat} (hu : ∀ i p, u i = some p → p < n) (hn : n ≤ 100000) (i : Nat) : (Lit.int .i64 (upI s u i)).wf = true := by
 unfold upI
 split
 ·rfl
 ·rename_i p h
  split at h
  ·cases h
  ·have := hu i p h
   rw [lit_wf]
   show -9223372036854775808 ≤ (p : Int) ∧ (p : Int) ≤ 9223372036854775807
   omega
theorem graphB_of {n : Nat} {E : List (Nat × Nat)} (hn : n ≤ 100000) (hE : ∀ e ∈ E, e.1 < n ∧ e.2 < n) : graphB n (E.map toE) = true := by
 unfold graphB
 simp only [Bool.and_eq_true, decide_eq_true_eq, List.all_eq_true]
 refine ⟨⟨by omega, by omega⟩, fun x hx => ?_⟩
 obtain ⟨e, he, rfl⟩ := List.mem_map.1 hx
 have := hE e he
 simp [edgeB, toE]
 omega
theorem tree_lt {E : List (Nat × Nat)} {s n : Nat} {u : Nat → Option Nat} (T : Tree E s u) (hs : s < n) (hE : ∀ e ∈ E, e.1 < n ∧ e.2 < n) {i p : Nat} (h : u i = some p) : p < n := by
 have key : ∀ {j}, Rch E s j → j < n := fun {j} h => by
  induction h with
  | here => exact hs
  | step _ e _ => exact (hE _ e).2
 by_cases hi : i = s
 ·subst hi; rw [T.root] at h; cases h; exact hs
 ·exact key (T.par hi h).2.1
theorem tree_tup {w' : World} {I : Nat → Nat → Prop} {B : Nat → Value} {n s ub : Nat} {E : List (Nat × Nat)} {u u' : Nat → Option Nat} (T : Tree E s u) (T' : Tree E s u') (hn : n ≤ 100000) (hs : s < n) (hE : ∀ e ∈ E, e.1 < n ∧ e.2 < n) (hrow : w'.rowIs ub 3 n (upEnd s u')) :
  RV B w' (fun b o => I b o ∨ b = ub) (.tup [(false, [.sl ((upL s u n).map cZ)]), (false, [.int .i64 0])]) (.tuple #[.slice (some ⟨ub, 0, none⟩) n n, .int .i64 0]) :=
 ⟨[.slice (some ⟨ub, 0, none⟩) n n, .int .i64 0], rfl, ⟨_, rfl, rowIs_rc hrow (fun i _ => by rw [upEnd_eq, tree_uniq T' T]) (fun i _ => upI_wf (fun i p h => tree_lt T hs hE h) hn i) hn⟩, ⟨_, rfl, .int rfl⟩, trivial⟩
theorem domTree_ok (n s : Nat) (E : List (Nat × Nat)) (u : Nat → Option Nat) (T : Tree E s u) (hn : n ≤ 100000) (hs : s < n) (hE : ∀ e ∈ E, e.1 < n ∧ e.2 < n) (hlen : E.length ≤ 1000000) (m : Mem) : COk Tryd.prog 35 [.c (.int .i64 n), .c (.sl (E.map cEd)), .c (.int .i64 s)] m (.tup [(false, [.sl ((upL s u n).map cZ)]), (false, [.int .i64 0])]) := by
 refine ⟨enters_of Tryd.func35 (by kernel_rfl) rfl, rfl, fun m' _ => ?_⟩
 intro w0 I0 B I w vals hm hv
 match vals, hv with
 | [a, v, c], ⟨h1, h2, h3, _⟩ =>
  have h1 : RC w I a (.int .i64 n) := h1
  have h2 : RC w I v (.sl (E.map cEd)) := h2
  have h3 : RC w I c (.int .i64 s) := h3
  rw [(RC.toInt h1).1, (RC.toInt h3).1]
  refine (tree_main w n s v E (RE.of_rc hlen hm.there h2) hlen hn hs hE (graphB_of hn hE)).mono ?_
  rintro e w' ⟨hb, u', ub, T', rfl, hrow, hfr⟩
  exact ⟨_, fun b o => I b o ∨ b = ub, rfl, hb, fun _ _ k => .inl k, fun b o (k : I b o ∨ b = ub) => k.imp id (fun e => by subst e; exact ⟨hfr, hrow.lt⟩), tree_tup T T' hn hs hE hrow⟩
theorem refTree_ok (n s : Nat) (E : List (Nat × Nat)) (u : Nat → Option Nat) (T : Tree E s u) (hn : n ≤ 100000) (hs : s < n) (hE : ∀ e ∈ E, e.1 < n ∧ e.2 < n) (hlen : E.length ≤ 1000000) (m : Mem) : COk Tryd.prog 18 [.c (.int .i64 n), .c (.sl (E.map cEd)), .c (.int .i64 s)] m (.tup [(false, [.sl ((upL s u n).map cZ)]), (false, [.int .i64 0])]) := by
 refine ⟨enters_of Tryd.func18 (by kernel_rfl) rfl, rfl, fun m' _ => ?_⟩
 intro w0 I0 B I w vals hm hv
 match vals, hv with
 | [a, v, c], ⟨h1, h2, h3, _⟩ =>
  have h1 : RC w I a (.int .i64 n) := h1
  have h2 : RC w I v (.sl (E.map cEd)) := h2
  have h3 : RC w I c (.int .i64 s) := h3
  rw [(RC.toInt h1).1, (RC.toInt h3).1]
  refine (refTree_main w n s v E u T (RE.of_rc hlen hm.there h2) hlen hn hs hE (graphB_of hn hE)).mono ?_
  rintro e w' ⟨hb, ob, rfl, hrow, hfr⟩
  exact ⟨_, fun b o => I b o ∨ b = ob, rfl, hb, fun _ _ k => .inl k, fun b o (k : I b o ∨ b = ob) => k.imp id (fun e => by subst e; exact ⟨hfr, hrow.lt⟩), tree_tup T T hn hs hE hrow⟩
end V
end Go.Proofs.YtnmfbaahabcocaaDoor
end
