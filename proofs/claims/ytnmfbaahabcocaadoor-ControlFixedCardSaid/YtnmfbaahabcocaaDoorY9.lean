/- Joined by my own program, in build order: Fam. -/
import Derived.Test.YtnmfbaahabcocaaDoorY8
import Derived.Deep.OwnRows
import Derived.Deep.RegionHeld3
import Derived.Deep.AppendLies
import Derived.Laws.AppendOwnNone
import Derived.OwnWalk
import Derived.WalkSmall
import Derived.StillTactics
set_option linter.unusedVariables false
set_option linter.unusedSimpArgs false
section
namespace Go.Proofs.YtnmfbaahabcocaaDoor
open Go.RowKit
theorem info_int : (Tryd.prog.info? 3).map (fun i => (i.zero, i.size, i.bytes)) = some (some (.int .i64 0), 1, 8) := by kernel_rfl
theorem info_ints : (Tryd.prog.info? 26).map (fun i => (i.zero, i.size, i.bytes)) = some (some (.slice none 0 0), 1, 24) := by kernel_rfl
theorem info_bool : (Tryd.prog.info? 4).map (fun i => (i.zero, i.size, i.bytes)) = some (some (.bool false), 1, 1) := by kernel_rfl
def iv (i : Nat) : Value := .int .i64 (i : Int)
structure Fam (base : Nat) (w : World) (K : Nat) (F : Nat → Value) (L : Nat → List Nat) : Prop where
  own : ∀ k, k < K → w.ownsRow base 3 1 (F k) (L k).length ((L k).map iv)
  apart : ∀ i j, i < K → j < K → i ≠ j → (F i).ownBlock = none ∨ (F i).ownBlock ≠ (F j).ownBlock
  nil : ∀ k, k < K → L k = [] → F k = .slice none 0 0
theorem Fam.start (base : Nat) (w : World) (K : Nat) : Fam base w K (fun _ => .slice none 0 0) (fun _ => []) :=
  ⟨fun _ _ => World.ownsRow_nil _ _ _ _, fun _ _ _ _ _ => .inl rfl, fun _ _ _ => rfl⟩
theorem Fam.lt {base : Nat} {w : World} {K : Nat} {F : Nat → Value} {L : Nat → List Nat} (h : Fam base w K F L) {k b : Nat} (hk : k < K) (hb : (F k).ownBlock = some b) : base ≤ b ∧ b < w.heap.size :=
  (h.own k hk).lt b hb
theorem Fam.keep {base : Nat} {w w' : World} {K : Nat} {F : Nat → Value} {L : Nat → List Nat} (h : Fam base w K F L) {row : Option Nat} (hg : w.grownBy w' row) (hne : ∀ k, k < K → (F k).ownBlock = none ∨ (F k).ownBlock ≠ row) : Fam base w' K F L :=
  ⟨fun k hk => (h.own k hk).kept hg (hne k hk), h.apart, h.nil⟩
theorem grown_below {w w' : World} (h : Below w.heap.size w w') : w.grownBy w' none := ⟨h.os, h.tape, h.output, h.size, fun k hk _ => h.block k hk⟩
theorem Fam.below {base : Nat} {w w' : World} {K : Nat} {F : Nat → Value} {L : Nat → List Nat} (h : Fam base w K F L) (hb : Below w.heap.size w w') : Fam base w' K F L :=
  h.keep (grown_below hb) (fun k hk => by
    cases hq : (F k).ownBlock with
    | none => exact .inl rfl
    | some b => exact .inr (by simp))
theorem Fam.notBlock {base : Nat} {w : World} {K : Nat} {F : Nat → Value} {L : Nat → List Nat} (h : Fam base w K F L) {c : Nat} {cur : Array Value} {t : TypeId} {fr : Nat × Nat} (hc : w.heap[c]? = some (.cells cur t fr)) (ht : t ≠ 3) {k : Nat} (hk : k < K) : (F k).ownBlock ≠ some c := by
  intro e
  obtain ⟨-, h1⟩ := h.own k hk
  rcases h1 with ⟨h1, -⟩ | ⟨g, cap, cur', h1, h2, h3, -⟩
  · rw [h1] at e; simp [Value.ownBlock] at e
  · rw [h1] at e
    simp [Value.ownBlock] at e
    subst e
    rw [h3] at hc
    injection hc with hc
    injection hc with _ h4 _
    exact ht h4.symm
theorem grown_setCell (w : World) (b i : Nat) (v : Value) : w.grownBy (w.setCell ⟨b, i, none⟩ v) (some b) :=
  ⟨rfl, rfl, rfl, by show _ ≤ (w.heap.modify _ _).size; rw [Array.size_modify]; exact Nat.le_refl _, fun q _ hne => Below.heap_setCell w _ _ q (fun e => hne (by rw [e]))⟩
theorem Fam.push {base : Nat} {w w1 : World} {K : Nat} {F : Nat → Value} {L : Nat → List Nat} (h : Fam base w K F L) {k x : Nat} (hk : k < K) {v' : Value}
    (hown : w1.ownsRow base 3 1 v' ((L k).length + 1) ((L k).map iv ++ [iv x])) (hg : w.grownBy w1 (F k).ownBlock) (hat : v'.ownBlock = (F k).ownBlock ∨ ∃ g, v'.ownBlock = some g ∧ w.heap.size ≤ g) :
    Fam base w1 K (fun j => if j = k then v' else F j) (fun j => if j = k then L j ++ [x] else L j) := by
  refine ⟨fun j hj => ?_, fun i j hi hj hij => ?_, fun j hj hL => ?_⟩
  · by_cases e : j = k
    · subst e
      simp only [if_pos, List.length_append, List.map_append, List.length_cons, List.length_nil, List.map_cons, List.map_nil]
      exact hown
    · simp only [if_neg e]
      exact (h.own j hj).kept hg (h.apart j k hj hk e)
  · have far : ∀ q, q < K → q ≠ k → (F q).ownBlock = none ∨ (F q).ownBlock ≠ v'.ownBlock := by
      intro q hq hqk
      rcases hat with e | ⟨g, e, hge⟩
      · rw [e]; exact h.apart q k hq hk hqk
      · cases hb : (F q).ownBlock with
        | none => exact .inl rfl
        | some b =>
          right
          rw [e]
          intro e2
          have := (h.lt hq hb).2
          simp at e2; omega
    by_cases e1 : i = k
    · have e2 : ¬ j = k := fun e => hij (e1.trans e.symm)
      subst e1
      simp only [if_pos, if_neg e2]
      rcases far j hj e2 with h1 | h1
      · cases hv : v'.ownBlock with
        | none => exact .inl rfl
        | some g => right; rw [h1]; simp
      · exact .inr (fun e => h1 e.symm)
    · by_cases e2 : j = k
      · subst e2
        simp only [if_pos, if_neg e1]
        exact far i hi e1
      · simp only [if_neg e1, if_neg e2]
        exact h.apart i j hi hj hij
  · by_cases e : j = k
    · simp only [if_pos e] at hL
      simp at hL
    · simp only [if_neg e] at hL ⊢
      exact h.nil j hj hL
theorem one_at {w : World} {g : Nat} {v : Value} (h : w.cell? ⟨g, 0, none⟩ = some v) : ∀ (j : Nat) (u : Value), [v][j]? = some u → w.cell? ((Addr.mk g 0 none).add j) = some u
  | 0, u, hj => by simp at hj; subst hj; simpa [Addr.add] using h
  | j + 1, u, hj => by simp at hj
theorem one_cell (v : Value) (h : v.oneCell' = true) : ∀ u ∈ [v], u.oneCell' = true := fun u hu => by simp at hu; subst hu; exact h
def toE (e : Nat × Nat) : Edge := ⟨(e.1 : Int), (e.2 : Int)⟩
def outs (l : List (Nat × Nat)) (i : Nat) : List Nat := (l.filter fun e => e.1 = i).map (·.2)
theorem outs_snoc (l : List (Nat × Nat)) (f t i : Nat) : outs (l ++ [(f, t)]) i = if i = f then outs l i ++ [t] else outs l i := by
  unfold outs
  rw [List.filter_append]
  by_cases h : f = i
  · subst h; simp
  · have h2 : ¬ i = f := fun e => h e.symm
    simp [h, h2]
theorem outs_take (E : List (Nat × Nat)) (k f t : Nat) (h : E[k]? = some (f, t)) : (fun j => if j = f then outs (E.take k) j ++ [t] else outs (E.take k) j) = outs (E.take (k + 1)) := by
  funext j
  rw [List.take_add_one, h]
  exact (outs_snoc _ f t j).symm
theorem outs_len (l : List (Nat × Nat)) (i : Nat) : (outs l i).length ≤ l.length := by
  unfold outs; rw [List.length_map]; exact List.length_filter_le _ _
def AdjP (w0 : World) (tb n : Nat) (L : Nat → List Nat) (wx : World) : Prop :=
  ∃ F, wx.rowIs tb 26 n F ∧ Fam w0.heap.size wx n F L ∧ Below w0.heap.size w0 wx
theorem adj_done {w wa w1 : World} {tb n f t g gcap : Nat} {F : Nat → Value} {L : Nat → List Nat} {ov : Value} (hf : f < n) (RA : wa.rowIs tb 26 n F) (FA : Fam w.heap.size wa n F L) (BA : Below w.heap.size w wa) (htb : w.heap.size ≤ tb) (hov : ov = F f)
    (hown1 : w1.ownsRow w.heap.size 3 1 (.slice (some ⟨g, 0, none⟩) ((L f).length + 1) gcap) ((L f).length + 1) ((L f).map iv ++ [iv t]))
    (hgrow : (wa.alloc (.cells #[iv t] 3)).drew.grownBy w1 ov.ownBlock) (hat : ov.ownBlock = some g ∨ g = wa.heap.size + 1) :
    AdjP w tb n (fun j => if j = f then L j ++ [t] else L j) (w1.setCell ⟨tb, f, none⟩ (.slice (some ⟨g, 0, none⟩) ((L f).length + 1) gcap)) := by
  subst hov
  have hb : Below wa.heap.size wa (wa.alloc (.cells #[iv t] 3)).drew := ((Below.refl _ _).alloc (Nat.le_refl _) _).drew
  have FB := FA.below hb
  have FC := FB.push hf hown1 hgrow (by
    rcases hat with h | h
    · left; rw [h]; rfl
    · right; refine ⟨g, rfl, ?_⟩
      have : (wa.alloc (.cells #[iv t] 3)).drew.heap.size = wa.heap.size + 1 := by simp
      omega)
  have hntb : (F f).ownBlock ≠ some tb := by
    obtain ⟨c, hc, -⟩ := RA
    exact FA.notBlock hc (by decide) hf
  have R1 : w1.rowIs tb 26 n F := RA.of_block ((hgrow.block tb (by
    have : (wa.alloc (.cells #[iv t] 3)).drew.heap.size = wa.heap.size + 1 := by simp
    have := RA.lt
    omega) (Ne.symm hntb)).trans (hb.block tb RA.lt))
  refine ⟨_, R1.set f _, FC.keep (grown_setCell _ _ _ _) (fun k hk => ?_), ?_⟩
  · right
    obtain ⟨c, hc, -⟩ := R1
    exact FC.notBlock hc (by decide) hk
  · have h1 : Below w.heap.size w w1 := (BA.trans (hb.mono BA.size)).grown hgrow (by
      have : (wa.alloc (.cells #[iv t] 3)).drew.heap.size = wa.heap.size + 1 := by simp
      have := BA.size; omega) (fun k hk => (FA.lt hf hk).1)
    exact h1.setCell (by exact htb) _
end Go.Proofs.YtnmfbaahabcocaaDoor
end
