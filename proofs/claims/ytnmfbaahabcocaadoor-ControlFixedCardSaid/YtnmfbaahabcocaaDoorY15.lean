/- Joined by my own program, in build order: Adj2. -/
import Derived.Test.YtnmfbaahabcocaaDoorY13
set_option linter.unusedVariables false
set_option linter.unusedSimpArgs false
section
namespace Go.Proofs.YtnmfbaahabcocaaDoor
open Go.RowKit
structure AT (w0 wx : World) (tb fb n : Nat) (F G : Nat → Value) (L M : Nat → List Nat) : Prop where
  rt : wx.rowIs tb 26 n F
  rf : wx.rowIs fb 26 n G
  ft : Fam w0.heap.size wx n F L
  ff : Fam w0.heap.size wx n G M
  ap : ∀ i j, i < n → j < n → ∀ b, (F i).ownBlock = some b → (G j).ownBlock ≠ some b
  ne : tb ≠ fb
  ht : w0.heap.size ≤ tb
  hf : w0.heap.size ≤ fb
  below : Below w0.heap.size w0 wx
section
variable {w0 wx wa w1 : World} {tb fb n : Nat} {F G : Nat → Value} {L M : Nat → List Nat}
theorem AT.swap (h : AT w0 wx tb fb n F G L M) : AT w0 wx fb tb n G F M L :=
  ⟨h.rf, h.rt, h.ff, h.ft, fun i j hi hj b h1 h2 => h.ap j i hj hi b h2 h1, Ne.symm h.ne, h.hf, h.ht, h.below⟩
theorem AT.more (h : AT w0 wx tb fb n F G L M) (hb : Below wx.heap.size wx w1) : AT w0 w1 tb fb n F G L M :=
  ⟨h.rt.of_block (hb.block tb h.rt.lt), h.rf.of_block (hb.block fb h.rf.lt), h.ft.below hb, h.ff.below hb, h.ap, h.ne, h.ht, h.hf, h.below.trans (hb.mono h.below.size)⟩
theorem AT.rows (h : AT w0 wx tb fb n F G L M) : RowsAt wx tb n L ∧ RowsAt wx fb n M :=
  ⟨AdjP.rows ⟨F, h.rt, h.ft, h.below⟩, AdjP.rows ⟨G, h.rf, h.ff, h.below⟩⟩
theorem AT.push (h : AT w0 wa tb fb n F G L M) {f t g gcap : Nat} {ov : Value} (hf : f < n) (hov : ov = F f)
    (hown1 : w1.ownsRow w0.heap.size 3 1 (.slice (some ⟨g, 0, none⟩) ((L f).length + 1) gcap) ((L f).length + 1) ((L f).map iv ++ [iv t]))
    (hgrow : (wa.alloc (.cells #[iv t] 3)).drew.grownBy w1 ov.ownBlock) (hat : ov.ownBlock = some g ∨ g = wa.heap.size + 1) :
    ∃ F', AT w0 (w1.setCell ⟨tb, f, none⟩ (.slice (some ⟨g, 0, none⟩) ((L f).length + 1) gcap)) tb fb n F' G (fun j => if j = f then L j ++ [t] else L j) M := by
  subst hov
  have hsz : (wa.alloc (.cells #[iv t] 3)).drew.heap.size = wa.heap.size + 1 := by simp
  have hb : Below wa.heap.size wa (wa.alloc (.cells #[iv t] 3)).drew := ((Below.refl _ _).alloc (Nat.le_refl _) _).drew
  have hB := h.more hb
  have FC := hB.ft.push hf hown1 hgrow (by
    rcases hat with h | h
    · left; rw [h]; rfl
    · right; refine ⟨g, rfl, ?_⟩
      omega)
  have notT : ∀ c (cur : Array Value) fr, wa.heap[c]? = some (.cells cur 26 fr) → (F f).ownBlock ≠ some c := fun c cur fr hc => h.ft.notBlock hc (by decide) hf
  obtain ⟨ct, hct, -⟩ := id h.rt
  obtain ⟨cf, hcf, -⟩ := id h.rf
  have R1 : w1.rowIs tb 26 n F := h.rt.of_block ((hgrow.block tb (by have := h.rt.lt; omega) (Ne.symm (notT tb _ _ hct))).trans (hb.block tb h.rt.lt))
  have R2 : w1.rowIs fb 26 n G := h.rf.of_block ((hgrow.block fb (by have := h.rf.lt; omega) (Ne.symm (notT fb _ _ hcf))).trans (hb.block fb h.rf.lt))
  have FG : Fam w0.heap.size w1 n G M := hB.ff.keep hgrow (fun k hk => by
    cases hq : (G k).ownBlock with
    | none => exact .inl rfl
    | some b => exact .inr (fun e => h.ap f k hf hk b e.symm hq))
  refine ⟨_, R1.set f _, R2.setOther (Ne.symm h.ne) _, FC.keep (grown_setCell _ _ _ _) (fun k hk => ?_), FG.keep (grown_setCell _ _ _ _) (fun k hk => ?_), fun i j hi hj b h1 h2 => ?_, h.ne, h.ht, h.hf, ?_⟩
  · right
    obtain ⟨c, hc, -⟩ := R1
    exact FC.notBlock hc (by decide) hk
  · right
    obtain ⟨c, hc, -⟩ := R1
    exact FG.notBlock hc (by decide) hk
  · by_cases e : i = f
    · subst e
      simp only [if_pos] at h1
      simp only [Value.ownBlock, Option.some.injEq] at h1
      subst h1
      rcases hat with e | e
      · exact h.ap i j hi hj _ e h2
      · have := (h.ff.lt hj h2).2
        omega
    · simp only [if_neg e] at h1
      exact h.ap i j hi hj b h1 h2
  · have h1 : Below w0.heap.size w0 w1 := (h.below.trans (hb.mono h.below.size)).grown hgrow (by
      have := h.below.size; omega) (fun k hk => (h.ft.lt hf hk).1)
    exact h1.setCell h.ht _
theorem eb_after {eb f : Nat} {x ov v' a b : Value} {T : TypeId} (hgrow : (wa.alloc (.cells #[x] T)).drew.grownBy w1 ov.ownBlock) (h0 : ∃ cur fr, wa.heap[eb]? = some (.cells cur 42 fr)) (hrow : wa.rowIs tb 26 n F) (hne : ov.ownBlock ≠ some eb) (k0 : w1.cell? ⟨eb, 0, none⟩ = some a) (k1 : w1.cell? ⟨eb, 1, none⟩ = some b) :
    Hid (∃ cur fr, (w1.setCell ⟨tb, f, none⟩ v').heap[eb]? = some (.cells cur 42 fr)) ∧ (w1.setCell ⟨tb, f, none⟩ v').cell? ⟨eb, 0, none⟩ = some a ∧ (w1.setCell ⟨tb, f, none⟩ v').cell? ⟨eb, 1, none⟩ = some b := by
  obtain ⟨cur, fr, h⟩ := h0
  have hlt : eb < wa.heap.size := (Array.getElem?_eq_some_iff.1 h).1
  have hnt : eb ≠ tb := by
    rintro rfl
    obtain ⟨c, hc, -⟩ := hrow
    rw [h] at hc
    injection hc with hc
    injection hc with _ h4 _
    exact absurd h4 (by decide)
  have hb : Below wa.heap.size wa (wa.alloc (.cells #[x] T)).drew := ((Below.refl _ _).alloc (Nat.le_refl _) _).drew
  have e1 : w1.heap[eb]? = wa.heap[eb]? := (hgrow.block eb (Nat.lt_of_lt_of_le hlt hb.size) (Ne.symm hne)).trans (hb.block eb hlt)
  have e2 : (w1.setCell ⟨tb, f, none⟩ v').heap[eb]? = w1.heap[eb]? := Below.heap_setCell w1 _ _ eb hnt
  exact ⟨⟨cur, fr, e2.trans (e1.trans h)⟩, (World.cell?_of_block (w := w1) e2).trans k0, (World.cell?_of_block (w := w1) e2).trans k1⟩
theorem AT.start (w : World) (n tb fb : Nat) (ht : w.heap.size ≤ tb ∧ tb < w.heap.size + 2) (hf : w.heap.size ≤ fb ∧ fb < w.heap.size + 2) (hne : tb ≠ fb) :
    AT w (((w.alloc (.cells (madeCells #[.slice none 0 0] n) 26)).alloc (.cells (madeCells #[.slice none 0 0] n) 26)).drew) tb fb n (fun _ => .slice none 0 0) (fun _ => .slice none 0 0) (fun _ => []) (fun _ => []) := by
  have all : ∀ b, w.heap.size ≤ b ∧ b < w.heap.size + 2 → (((w.alloc (.cells (madeCells #[.slice none 0 0] n) 26)).alloc (.cells (madeCells #[.slice none 0 0] n) 26)).drew).rowIs b 26 n (fun _ => .slice none 0 0) := by
    intro b hb
    have h0 : b = w.heap.size ∨ b = w.heap.size + 1 := by omega
    rcases h0 with rfl | rfl
    · exact (World.rowIs_made _ _ _ _).alloc _
    · have := World.rowIs_made (w.alloc (.cells (madeCells #[.slice none 0 0] n) 26)) (.slice none 0 0) n 26
      have h2 : ((w.alloc (.cells (madeCells #[.slice none 0 0] n) 26)).alloc (.cells (madeCells #[.slice none 0 0] n) 26)).rowIs (w.heap.size + 1) 26 n (fun _ => .slice none 0 0) := by simpa using this
      exact h2
  refine ⟨all tb ht, all fb hf, Fam.start _ _ _, Fam.start _ _ _, fun i j _ _ b h => by simp [Value.ownBlock] at h, hne, ht.1, hf.1, ?_⟩
  have b1 := (Below.refl w.heap.size w).alloc (Nat.le_refl _) (.cells (madeCells #[.slice none 0 0] n) 26)
  exact (b1.alloc b1.size _).drew
end
def flip (E : List (Nat × Nat)) : List (Nat × Nat) := E.map fun e => (e.2, e.1)
theorem mem_ins {E : List (Nat × Nat)} {i j : Nat} : j ∈ outs (flip E) i ↔ (j, i) ∈ E := by
  rw [mem_outs]
  unfold flip
  rw [List.mem_map]
  constructor
  · rintro ⟨⟨a, b⟩, h, e⟩
    simp only [Prod.mk.injEq] at e
    rw [← e.1, ← e.2]; exact h
  · intro h
    exact ⟨(j, i), h, rfl⟩
theorem flip_at {E : List (Nat × Nat)} {k f t : Nat} (h : E[k]? = some (f, t)) : (flip E)[k]? = some (t, f) := by unfold flip; rw [List.getElem?_map, h]; rfl
theorem flip_len (E : List (Nat × Nat)) : (flip E).length = E.length := List.length_map _
end Go.Proofs.YtnmfbaahabcocaaDoor
end
