/- Joined by my own program, in build order: OrdSt. -/
import Derived.Test.YtnmfbaahabcocaaDoorY12
set_option linter.unusedVariables false
set_option linter.unusedSimpArgs false
section
namespace Go.Proofs.YtnmfbaahabcocaaDoor
open Go.RowKit
structure RowsAt (w : World) (tb n : Nat) (L : Nat → List Nat) : Prop where
  lt : tb < w.heap.size
  row : ∀ k, k < n → ∃ a cap, w.cell? ⟨tb, k, none⟩ = some (.slice a (L k).length cap) ∧ (∀ (j x : Nat), (L k)[j]? = some x → ∃ g, a = some ⟨g, 0, none⟩ ∧ g < w.heap.size ∧ w.cell? ⟨g, j, none⟩ = some (.int .i64 (x : Int)))
theorem own_shape {w : World} {base : Nat} {e : TypeId} {v : Value} {n : Nat} {xs : List Value} (h : w.ownsRow base e 1 v n xs) : ∃ a cap, v = .slice a n cap := by
  rcases h.2 with ⟨h1, h2⟩ | ⟨g, cap, cur, h1, -⟩
  · exact ⟨none, 0, by rw [h1, h2]⟩
  · exact ⟨_, cap, h1⟩
theorem own_at {w : World} {base : Nat} {e : TypeId} {v : Value} {l : List Nat} (h : w.ownsRow base e 1 v l.length (l.map iv)) {j x : Nat} (hj : l[j]? = some x) : ∃ g cap, v = .slice (some ⟨g, 0, none⟩) l.length cap ∧ g < w.heap.size ∧ l.length ≤ cap ∧ cap ≤ maxLen ∧ w.cell? ⟨g, j, none⟩ = some (.int .i64 (x : Int)) := by
  have hl := (List.getElem?_eq_some_iff.1 hj).1
  rcases id h.2 with ⟨h1, h2⟩ | ⟨g, cap, cur, h1, h2, h3, h4, h5, h6, h7⟩
  · omega
  · subst h1
    have hc := World.ownsRow.cellAt h j (by simpa using hl)
    refine ⟨g, cap, rfl, (h.lt g rfl).2, by simpa using h4, h5, ?_⟩
    rw [hc, List.getElem?_map, hj]
    rfl
theorem AdjP.rows {w0 wx : World} {tb n : Nat} {L : Nat → List Nat} (h : AdjP w0 tb n L wx) : RowsAt wx tb n L := by
  obtain ⟨F, hr, hf, hb⟩ := h
  refine ⟨hr.lt, fun k hk => ?_⟩
  have hown := hf.own k hk
  obtain ⟨a, cap, e⟩ := own_shape hown
  refine ⟨a, cap, by rw [hr.cell hk, e], fun j x hj => ?_⟩
  obtain ⟨g, cap', e2, h1, -, -, h2⟩ := own_at hown hj
  rw [e] at e2
  simp only [Value.slice.injEq] at e2
  exact ⟨g, e2.1, h1, h2⟩
theorem RowsAt.below {w w' : World} {tb n : Nat} {L : Nat → List Nat} (h : RowsAt w tb n L) (hb : Below w.heap.size w w') : RowsAt w' tb n L := by
  refine ⟨Nat.lt_of_lt_of_le h.lt hb.size, fun k hk => ?_⟩
  obtain ⟨a, cap, h1, h2⟩ := h.row k hk
  refine ⟨a, cap, (hb.cell (p := ⟨tb, k, none⟩) h.lt).trans h1, fun j x hj => ?_⟩
  obtain ⟨g, h3, h4, h5⟩ := h2 j x hj
  exact ⟨g, h3, Nat.lt_of_lt_of_le h4 hb.size, (hb.cell (p := ⟨g, j, none⟩) h4).trans h5⟩
theorem own_new (w : World) {base : Nat} (hb : base ≤ w.heap.size) (s : Nat) : (w.alloc (.cells #[.int .i64 (s : Int)] 3)).ownsRow base 3 1 (.slice (some ⟨w.heap.size, 0, none⟩) 1 1) 1 [iv s] := by
  refine ⟨by simp, .inr ⟨w.heap.size, 1, #[.int .i64 (s : Int)], rfl, hb, heap_alloc_new w _, ?_⟩⟩
  refine ⟨by omega, by unfold maxLen; omega, ?_⟩
  simp [iv]
structure Made3 (w wx : World) (n nb sb xb : Nat) : Prop where
  rn : wx.rowIs nb 3 n (fun _ => .int .i64 0)
  rs : wx.rowIs sb 3 n (fun _ => .int .i64 0)
  rx : wx.rowIs xb 3 n (fun _ => .int .i64 0)
  ns : nb ≠ sb
  nx : nb ≠ xb
  sx : sb ≠ xb
  below : Below w.heap.size w wx
  high : w.heap.size ≤ nb ∧ w.heap.size ≤ sb ∧ w.heap.size ≤ xb
theorem made3 (w : World) (n nb sb xb : Nat) (hn : w.heap.size ≤ nb ∧ nb < w.heap.size + 3) (hs : w.heap.size ≤ sb ∧ sb < w.heap.size + 3) (hx : w.heap.size ≤ xb ∧ xb < w.heap.size + 3) (h1 : nb ≠ sb) (h2 : nb ≠ xb) (h3 : sb ≠ xb) :
    Made3 w (((w.alloc (.cells (madeCells #[.int .i64 0] n) 3)).alloc (.cells (madeCells #[.int .i64 0] n) 3)).alloc (.cells (madeCells #[.int .i64 0] n) 3)) n nb sb xb := by
  have all : ∀ b, w.heap.size ≤ b ∧ b < w.heap.size + 3 → (((w.alloc (.cells (madeCells #[.int .i64 0] n) 3)).alloc (.cells (madeCells #[.int .i64 0] n) 3)).alloc (.cells (madeCells #[.int .i64 0] n) 3)).rowIs b 3 n (fun _ => .int .i64 0) := by
    intro b hb
    have h0 : b = w.heap.size ∨ b = w.heap.size + 1 ∨ b = w.heap.size + 2 := by omega
    rcases h0 with rfl | rfl | rfl
    · exact ((World.rowIs_made _ _ _ _).alloc _).alloc _
    · have := (World.rowIs_made (w.alloc (.cells (madeCells #[.int .i64 0] n) 3)) (.int .i64 0) n 3).alloc (.cells (madeCells #[.int .i64 0] n) 3)
      simpa using this
    · have := World.rowIs_made ((w.alloc (.cells (madeCells #[.int .i64 0] n) 3)).alloc (.cells (madeCells #[.int .i64 0] n) 3)) (.int .i64 0) n 3
      simpa using this
  refine ⟨all nb hn, all sb hs, all xb hx, h1, h2, h3, ?_, hn.1, hs.1, hx.1⟩
  have b1 := (Below.refl w.heap.size w).alloc (Nat.le_refl _) (.cells (madeCells #[.int .i64 0] n) 3)
  have b2 := b1.alloc b1.size (.cells (madeCells #[.int .i64 0] n) 3)
  exact b2.alloc b2.size _
theorem Made3.drew {w wx : World} {n nb sb xb : Nat} (h : Made3 w wx n nb sb xb) : Made3 w wx.drew n nb sb xb := ⟨h.rn, h.rs, h.rx, h.ns, h.nx, h.sx, h.below.drew, h.high⟩
structure OrdSt (w0 wr : World) (nb sb xb n : Nat) (fN fS fX : Nat → Nat) (vo vs : Value) (out stack : List Nat) : Prop where
  rn : wr.rowIs nb 3 n (fun i => iv (fN i))
  rs : wr.rowIs sb 3 n (fun i => iv (fS i))
  rx : wr.rowIs xb 3 n (fun i => iv (fX i))
  ns : nb ≠ sb
  nx : nb ≠ xb
  sx : sb ≠ xb
  oo : wr.ownsRow w0.heap.size 3 1 vo out.length (out.map iv)
  os : wr.ownsRow w0.heap.size 3 1 vs stack.length (stack.map iv)
  ap : ∀ b, vo.ownBlock = some b → vs.ownBlock ≠ some b
  far : ∀ c, c = nb ∨ c = sb ∨ c = xb → vo.ownBlock ≠ some c ∧ vs.ownBlock ≠ some c
  below : Below w0.heap.size w0 wr
  high : w0.heap.size ≤ nb ∧ w0.heap.size ≤ sb ∧ w0.heap.size ≤ xb
theorem Made3.ord {w wx : World} {n nb sb xb : Nat} (h : Made3 w wx n nb sb xb) (s : Nat) :
    OrdSt w ((wx.setCell ⟨sb, s, none⟩ (.int .i64 1)).alloc (.cells #[.int .i64 (s : Int)] 3)) nb sb xb n (fun _ => 0) (fun i => if i = s then 1 else 0) (fun _ => 0) (.slice none 0 0) (.slice (some ⟨wx.heap.size, 0, none⟩) 1 1) [] [s] := by
  have hsz : (wx.setCell ⟨sb, s, none⟩ (.int .i64 1)).heap.size = wx.heap.size := by show (wx.heap.modify _ _).size = _; rw [Array.size_modify]
  have l1 := h.rn.lt
  have l2 := h.rs.lt
  have l3 := h.rx.lt
  have hb : Below w.heap.size w (wx.setCell ⟨sb, s, none⟩ (.int .i64 1)) := h.below.setCell h.high.2.1 _
  refine ⟨(h.rn.setOther h.ns _).alloc _, ((h.rs.set s _).congr (fun j _ => ?_)).alloc _, (h.rx.setOther (Ne.symm h.sx) _).alloc _, h.ns, h.nx, h.sx, World.ownsRow_nil _ _ _ _, ?_, fun b e => (by simp [Value.ownBlock] at e), fun c hc => ⟨by simp [Value.ownBlock], fun e => ?_⟩, hb.alloc hb.size _, h.high⟩
  · by_cases e : j = s <;> simp [e, iv]
  · have := own_new (wx.setCell ⟨sb, s, none⟩ (.int .i64 1)) (base := w.heap.size) hb.size s
    rw [hsz] at this
    exact this
  · simp [Value.ownBlock] at e
    rcases hc with rfl | rfl | rfl <;> omega
section
variable {w0 wr w1 : World} {nb sb xb n : Nat} {fN fS fX : Nat → Nat} {vo vs : Value} {out stack : List Nat}
theorem OrdSt.swap (h : OrdSt w0 wr nb sb xb n fN fS fX vo vs out stack) : OrdSt w0 wr nb sb xb n fN fS fX vs vo stack out :=
  ⟨h.rn, h.rs, h.rx, h.ns, h.nx, h.sx, h.os, h.oo, fun b h1 h2 => h.ap b h2 h1, fun c hc => (h.far c hc).symm, h.below, h.high⟩
theorem OrdSt.drewN (h : OrdSt w0 wr nb sb xb n fN fS fX vo vs out stack) (k : Nat) : OrdSt w0 (wr.drewN k) nb sb xb n fN fS fX vo vs out stack :=
  ⟨h.rn, h.rs, h.rx, h.ns, h.nx, h.sx, h.oo.kept (below_drewN (Below.refl wr.heap.size _) k |> grown_below) (by cases hq : vo.ownBlock <;> simp), h.os.kept (below_drewN (Below.refl wr.heap.size _) k |> grown_below) (by cases hq : vs.ownBlock <;> simp), h.ap, h.far, bdrewN h.below k, h.high⟩
theorem OrdSt.alloc (h : OrdSt w0 wr nb sb xb n fN fS fX vo vs out stack) (o : Obj) : OrdSt w0 (wr.alloc o) nb sb xb n fN fS fX vo vs out stack :=
  ⟨h.rn.alloc _, h.rs.alloc _, h.rx.alloc _, h.ns, h.nx, h.sx, h.oo.alloc _, h.os.alloc _, h.ap, h.far, h.below.alloc h.below.size _, h.high⟩
theorem OrdSt.setN (h : OrdSt w0 wr nb sb xb n fN fS fX vo vs out stack) (i k : Nat) : OrdSt w0 (wr.setCell ⟨nb, i, none⟩ (.int .i64 (k : Int))) nb sb xb n (fun j => if j = i then k else fN j) fS fX vo vs out stack :=
  ⟨(h.rn.set i _).congr (fun j _ => by by_cases e : j = i <;> simp [e, iv]), h.rs.setOther (Ne.symm h.ns) _, h.rx.setOther (Ne.symm h.nx) _, h.ns, h.nx, h.sx, h.oo.kept (grown_setCell _ _ _ _) (.inr (h.far nb (.inl rfl)).1), h.os.kept (grown_setCell _ _ _ _) (.inr (h.far nb (.inl rfl)).2), h.ap, h.far, h.below.setCell h.high.1 _, h.high⟩
theorem OrdSt.setS (h : OrdSt w0 wr nb sb xb n fN fS fX vo vs out stack) (i k : Nat) : OrdSt w0 (wr.setCell ⟨sb, i, none⟩ (.int .i64 (k : Int))) nb sb xb n fN (fun j => if j = i then k else fS j) fX vo vs out stack :=
  ⟨h.rn.setOther h.ns _, (h.rs.set i _).congr (fun j _ => by by_cases e : j = i <;> simp [e, iv]), h.rx.setOther (Ne.symm h.sx) _, h.ns, h.nx, h.sx, h.oo.kept (grown_setCell _ _ _ _) (.inr (h.far sb (.inr (.inl rfl))).1), h.os.kept (grown_setCell _ _ _ _) (.inr (h.far sb (.inr (.inl rfl))).2), h.ap, h.far, h.below.setCell h.high.2.1 _, h.high⟩
theorem OrdSt.setX (h : OrdSt w0 wr nb sb xb n fN fS fX vo vs out stack) (i k : Nat) : OrdSt w0 (wr.setCell ⟨xb, i, none⟩ (.int .i64 (k : Int))) nb sb xb n fN fS (fun j => if j = i then k else fX j) vo vs out stack :=
  ⟨h.rn.setOther h.nx _, h.rs.setOther h.sx _, (h.rx.set i _).congr (fun j _ => by by_cases e : j = i <;> simp [e, iv]), h.ns, h.nx, h.sx, h.oo.kept (grown_setCell _ _ _ _) (.inr (h.far xb (.inr (.inr rfl))).1), h.os.kept (grown_setCell _ _ _ _) (.inr (h.far xb (.inr (.inr rfl))).2), h.ap, h.far, h.below.setCell h.high.2.2 _, h.high⟩
theorem OrdSt.push (h : OrdSt w0 wr nb sb xb n fN fS fX vo vs out stack) {v' : Value} {g x : Nat} (hv : v'.ownBlock = some g) (hown : w1.ownsRow w0.heap.size 3 1 v' (out.length + 1) (out.map iv ++ [iv x])) (hg : wr.grownBy w1 vo.ownBlock) (hat : vo.ownBlock = some g ∨ g = wr.heap.size) :
    OrdSt w0 w1 nb sb xb n fN fS fX v' vs (out ++ [x]) stack := by
  have hfar : ∀ c, c = nb ∨ c = sb ∨ c = xb → vo.ownBlock ≠ some c ∧ vs.ownBlock ≠ some c := h.far
  have blk : ∀ c, c = nb ∨ c = sb ∨ c = xb → c < wr.heap.size → w1.heap[c]? = wr.heap[c]? := fun c hc hl => hg.block c hl (fun e => (hfar c hc).1 e.symm)
  have lts : ∀ c, c = nb ∨ c = sb ∨ c = xb → c < wr.heap.size := by
    rintro c (rfl | rfl | rfl)
    · exact h.rn.lt
    · exact h.rs.lt
    · exact h.rx.lt
  have hap : vs.ownBlock = none ∨ vs.ownBlock ≠ vo.ownBlock := by
    cases hq : vs.ownBlock with
    | none => exact .inl rfl
    | some b => exact .inr (fun e => h.ap b e.symm hq)
  refine ⟨h.rn.of_block (blk nb (.inl rfl) h.rn.lt), h.rs.of_block (blk sb (.inr (.inl rfl)) h.rs.lt), h.rx.of_block (blk xb (.inr (.inr rfl)) h.rx.lt), h.ns, h.nx, h.sx, ?_, h.os.kept hg hap, fun b h1 h2 => ?_, fun c hc => ⟨fun e => ?_, (hfar c hc).2⟩, h.below.grown hg h.below.size (fun q hq => (h.oo.lt q hq).1), h.high⟩
  · rw [List.length_append, List.map_append]; exact hown
  · rw [hv] at h1
    cases h1
    rcases hat with e | e
    · exact h.ap g e h2
    · have := (h.os.lt g h2).2
      omega
  · rw [hv] at e
    cases e
    rcases hat with e | e
    · exact (hfar g hc).1 e
    · have := lts g hc
      omega
theorem OrdSt.pop {a : Option Addr} {cap i : Nat} {ws : List Nat} (h : OrdSt w0 wr nb sb xb n fN fS fX vo (.slice a (ws.length + 1) cap) out (ws ++ [i])) :
    ∃ g, a = some ⟨g, 0, none⟩ ∧ wr.cell? ⟨g, ws.length, none⟩ = some (.int .i64 (i : Int)) ∧ ws.length + 1 ≤ cap ∧ cap ≤ maxLen ∧ OrdSt w0 wr nb sb xb n fN fS fX vo (.slice (some ⟨g, 0, none⟩) ws.length cap) out ws := by
  have hown := h.os
  obtain ⟨g, cap', e, h1, h2, h3, h4⟩ := own_at hown (j := ws.length) (x := i) (by simp)
  simp only [Value.slice.injEq] at e
  obtain ⟨rfl, -, rfl⟩ := e
  rw [List.length_append, List.map_append] at hown
  exact ⟨g, rfl, h4, by simpa using h2, h3, h.rn, h.rs, h.rx, h.ns, h.nx, h.sx, h.oo, ownsRow_pop (by simp) hown, h.ap, h.far, h.below, h.high⟩
end
end Go.Proofs.YtnmfbaahabcocaaDoor
end
