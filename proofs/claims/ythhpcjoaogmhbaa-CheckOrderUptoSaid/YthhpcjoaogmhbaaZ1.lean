/- Joined by my own program, in build order: Base, Read, Glob, Shelf, Names, Slots, Slots2, Shape, Exprs, Stmts, May. -/
import Derived.Test.YthhpcjoaogmhbaaChecked
import Derived.WalkKit
import Derived.ProofKit
import Derived.Lib.Hide
import Derived.Deep.QuietTactic
import Derived.SizedLaws
import Derived.Shelf.Strings.Search1
import Derived.Shelf.Strings.Search2
import Derived.Shelf.Strings.Search3
import Derived.Shelf.LaysM
import Derived.Shelf.Strings.Shaped
import Derived.Test.YthhpcjoaogmhbaaProg
import Derived.WalkSpells
import Derived.Handy
import Derived.Lib.IndexAny
set_option linter.unusedVariables false
set_option linter.unusedSimpArgs false
section
namespace Go.Proofs.Ythhpcjoaogmhbaa
open Go.RowKit
def cellsAt (w : World) (b : Nat) : Nat → List Value → Prop
  | _, [] => True
  | o, v :: r => w.cell? ⟨b, o, none⟩ = some v ∧ cellsAt w b (o + 1) r
theorem cellsAt_of_block {w w' : World} {b : Nat} (h : w'.heap[b]? = w.heap[b]?) : ∀ {cs : List Value} {o : Nat}, cellsAt w b o cs → cellsAt w' b o cs
  | [], _, _ => trivial
  | _ :: _, _, ⟨h1, h2⟩ => ⟨(World.cell?_of_block (w := w) h).trans h1, cellsAt_of_block h h2⟩
def maxS : Nat := 140737488351232
def maxC : Nat := 9223372036854775807
def RSl {α : Type} (sz : Nat) (R : List Value → α → Prop) (w : World) (I : Nat → Prop) (v : Value) (l : List α) : Prop :=
  ∃ a n cap, v = .slice a n cap ∧ l.length = n ∧ n ≤ cap ∧ cap ≤ maxC ∧
    ∀ i x, l[i]? = some x → ∃ b off cs, a = some ⟨b, off, none⟩ ∧ I b ∧ cellsAt w b (off + i * sz) cs ∧ R cs x
theorem RSl.mono {α : Type} {sz : Nat} {R R' : List Value → α → Prop} {w w' : World} {I I' : Nat → Prop} {v : Value} {l : List α}
    (h : RSl sz R w I v l) (hI : ∀ b, I b → I' b) (hw : ∀ b, I b → w'.heap[b]? = w.heap[b]?) (hR : ∀ cs x, x ∈ l → R cs x → R' cs x) : RSl sz R' w' I' v l := by
  obtain ⟨a, n, cap, hv, hn, h1, h2, h3⟩ := h
  refine ⟨a, n, cap, hv, hn, h1, h2, fun i x hi => ?_⟩
  obtain ⟨b, off, cs, ha, hb, hc, hr⟩ := h3 i x hi
  exact ⟨b, off, cs, ha, hI b hb, cellsAt_of_block (hw b hb) hc, hR _ _ (List.mem_of_getElem? hi) hr⟩
theorem RSl.shape {α : Type} {sz : Nat} {R : List Value → α → Prop} {w : World} {I : Nat → Prop} {v : Value} {l : List α} (h : RSl sz R w I v l) :
    ∃ a n cap, v = .slice a n cap := let ⟨a, n, cap, hv, _⟩ := h; ⟨a, n, cap, hv⟩
theorem cell_lt {w : World} {a : Addr} {v : Value} (h : w.cell? a = some v) : a.block < w.heap.size := by
  unfold World.cell? at h
  split at h
  · rename_i h'; exact (Array.getElem?_eq_some_iff.1 h').1
  · cases h
theorem drop_of_getElem? {α : Type} {l : List α} {j : Nat} {x : α} (h : l[j]? = some x) : l.drop j = x :: l.drop (j + 1) := by
  obtain ⟨hj, rfl⟩ := List.getElem?_eq_some_iff.1 h
  exact List.drop_eq_getElem_cons hj
theorem next {w1 w2 : World} {b o : Nat} {v : Value} (hb : Below w1.heap.size w1 w2) (h : w1.cell? ⟨b, o, none⟩ = some v) : w2.cell? ⟨b, o, none⟩ = some v :=
  (hb.cell (p := ⟨b, o, none⟩) (cell_lt h)).trans h
theorem nextB {W w1 w2 : World} (hb : Below w1.heap.size w1 w2) (h : Hid (Below W.heap.size W w1)) : Hid (Below W.heap.size W w2) :=
  h.out.trans (hb.mono h.out.size)
theorem afterCall {W W1 w1 : World} (h : Below W.heap.size W W1) (hb : Below W1.heap.size W1 w1) : Hid (Below W.heap.size W w1) := h.trans (hb.mono h.size)
theorem len2 {α : Type} {l : List α} (h : l.length = 2) : ∃ a b, l = [a, b] := by
  match l, h with | [a, b], _ => exact ⟨a, b, rfl⟩
theorem len4 {α : Type} {l : List α} (h : l.length = 4) : ∃ a b c d, l = [a, b, c, d] := by
  match l, h with | [a, b, c, d], _ => exact ⟨a, b, c, d, rfl⟩
theorem len7 {α : Type} {l : List α} (h : l.length = 7) : ∃ a b c d e f g, l = [a, b, c, d, e, f, g] := by
  match l, h with | [a, b, c, d, e, f, g], _ => exact ⟨a, b, c, d, e, f, g, rfl⟩
structure WB (B : Nat) (w : World) where
  val : World
  prop : Below B w val
instance {B : Nat} {w : World} : Nonempty (WB B w) := ⟨⟨w, Below.refl _ _⟩⟩
structure Slot where
  type : ByteArray
  name : ByteArray
structure Expr where
  kind : Int
  num : Int
  name : ByteArray
  kids : List Expr
structure Stmt where
  kind : Int
  num : Int
  type : ByteArray
  name : ByteArray
  exprs : List Expr
  thn : List Stmt
  els : List Stmt
structure Method where
  type : ByteArray
  name : ByteArray
  params : List Slot
  body : List Stmt
structure Class where
  name : ByteArray
  super : ByteArray
  fields : List Slot
  methods : List Method
structure Program where
  classes : List Class
  main : List Stmt
def RSlot (cs : List Value) (x : Slot) : Prop := cs = [.string x.type, .string x.name] ∧ x.type.size ≤ maxS ∧ x.name.size ≤ maxS
def RSlots (w : World) (I : Nat → Prop) : Value → List Slot → Prop := RSl 2 RSlot w I
def RExpr : Nat → World → (Nat → Prop) → List Value → Expr → Prop
  | 0, _, _, _, _ => False
  | d + 1, w, I, cs, x => ∃ kv, cs = [.int .i64 x.kind, .int .i64 x.num, .string x.name, kv] ∧ (Lit.int .i64 x.kind).wf = true ∧ (Lit.int .i64 x.num).wf = true ∧ x.name.size ≤ maxS ∧ RSl 4 (RExpr d w I) w I kv x.kids
def RExprs (d : Nat) (w : World) (I : Nat → Prop) : Value → List Expr → Prop := RSl 4 (RExpr d w I) w I
def RStmt : Nat → World → (Nat → Prop) → List Value → Stmt → Prop
  | 0, _, _, _, _ => False
  | d + 1, w, I, cs, x => ∃ ev tv fv, cs = [.int .i64 x.kind, .int .i64 x.num, .string x.type, .string x.name, ev, tv, fv] ∧ (Lit.int .i64 x.kind).wf = true ∧ (Lit.int .i64 x.num).wf = true ∧ x.type.size ≤ maxS ∧ x.name.size ≤ maxS ∧
      RExprs d w I ev x.exprs ∧ RSl 7 (RStmt d w I) w I tv x.thn ∧ RSl 7 (RStmt d w I) w I fv x.els
def RStmts (d : Nat) (w : World) (I : Nat → Prop) : Value → List Stmt → Prop := RSl 7 (RStmt d w I) w I
def RMethod (d : Nat) (w : World) (I : Nat → Prop) (cs : List Value) (x : Method) : Prop :=
  ∃ pv bv, cs = [.string x.type, .string x.name, pv, bv] ∧ x.type.size ≤ maxS ∧ x.name.size ≤ maxS ∧ RSlots w I pv x.params ∧ RStmts d w I bv x.body
def RMethods (d : Nat) (w : World) (I : Nat → Prop) : Value → List Method → Prop := RSl 4 (RMethod d w I) w I
def RClass (d : Nat) (w : World) (I : Nat → Prop) (cs : List Value) (x : Class) : Prop :=
  ∃ fv mv, cs = [.string x.name, .string x.super, fv, mv] ∧ x.name.size ≤ maxS ∧ x.super.size ≤ maxS ∧ RSlots w I fv x.fields ∧ RMethods d w I mv x.methods
def RClasses (d : Nat) (w : World) (I : Nat → Prop) : Value → List Class → Prop := RSl 4 (RClass d w I) w I
def RProgram (d : Nat) (w : World) (I : Nat → Prop) (v : Value) (p : Program) : Prop :=
  ∃ cv mv, v = .agg #[cv, mv] ∧ RClasses d w I cv p.classes ∧ RStmts d w I mv p.main
section
variable {w w' : World} {I I' : Nat → Prop} (hI : ∀ b, I b → I' b) (hw : ∀ b, I b → w'.heap[b]? = w.heap[b]?)
include hI hw
theorem RSlots.mono {v : Value} {l : List Slot} (h : RSlots w I v l) : RSlots w' I' v l := RSl.mono h hI hw fun _ _ _ h => h
theorem RExpr.mono : ∀ {d : Nat} {cs : List Value} {x : Expr}, RExpr d w I cs x → RExpr d w' I' cs x
  | 0, _, _, h => h
  | _ + 1, _, _, ⟨kv, h1, h2, h3, h4, h5⟩ => ⟨kv, h1, h2, h3, h4, RSl.mono h5 hI hw fun _ _ _ h => RExpr.mono h⟩
theorem RExprs.mono {d : Nat} {v : Value} {l : List Expr} (h : RExprs d w I v l) : RExprs d w' I' v l := RSl.mono h hI hw fun _ _ _ h => RExpr.mono hI hw h
theorem RStmt.mono : ∀ {d : Nat} {cs : List Value} {x : Stmt}, RStmt d w I cs x → RStmt d w' I' cs x
  | 0, _, _, h => h
  | _ + 1, _, _, ⟨ev, tv, fv, h1, h2, h3, h4, h5, h6, h7, h8⟩ => ⟨ev, tv, fv, h1, h2, h3, h4, h5, RExprs.mono hI hw h6, RSl.mono h7 hI hw fun _ _ _ h => RStmt.mono h, RSl.mono h8 hI hw fun _ _ _ h => RStmt.mono h⟩
theorem RStmts.mono {d : Nat} {v : Value} {l : List Stmt} (h : RStmts d w I v l) : RStmts d w' I' v l := RSl.mono h hI hw fun _ _ _ h => RStmt.mono hI hw h
theorem RMethod.mono {d : Nat} {cs : List Value} {x : Method} (h : RMethod d w I cs x) : RMethod d w' I' cs x :=
  let ⟨pv, bv, h1, h2, h3, h4, h5⟩ := h
  ⟨pv, bv, h1, h2, h3, h4.mono hI hw, h5.mono hI hw⟩
theorem RMethods.mono {d : Nat} {v : Value} {l : List Method} (h : RMethods d w I v l) : RMethods d w' I' v l := RSl.mono h hI hw fun _ _ _ h => RMethod.mono hI hw h
theorem RClass.mono {d : Nat} {cs : List Value} {x : Class} (h : RClass d w I cs x) : RClass d w' I' cs x :=
  let ⟨fv, mv, h1, h2, h3, h4, h5⟩ := h
  ⟨fv, mv, h1, h2, h3, h4.mono hI hw, h5.mono hI hw⟩
theorem RClasses.mono {d : Nat} {v : Value} {l : List Class} (h : RClasses d w I v l) : RClasses d w' I' v l := RSl.mono h hI hw fun _ _ _ h => RClass.mono hI hw h
theorem RProgram.mono {d : Nat} {v : Value} {p : Program} (h : RProgram d w I v p) : RProgram d w' I' v p :=
  let ⟨cv, mv, h1, h2, h3⟩ := h
  ⟨cv, mv, h1, h2.mono hI hw, h3.mono hI hw⟩
end
theorem RExpr.inv {d : Nat} {w : World} {I : Nat → Prop} {cs : List Value} {x : Expr} (h : RExpr d w I cs x) : ∃ d' a n cap, d' < d ∧ cs = [.int .i64 x.kind, .int .i64 x.num, .string x.name, .slice a n cap] ∧ (Lit.int .i64 x.kind).wf = true ∧ (Lit.int .i64 x.num).wf = true ∧ x.name.size ≤ maxS ∧ RExprs d' w I (.slice a n cap) x.kids := by
  cases d with
  | zero => exact h.elim
  | succ d =>
    obtain ⟨kv, h1, h2, h3, h4, h5⟩ := h
    obtain ⟨a, n, cap, rfl⟩ := h5.shape
    exact ⟨d, a, n, cap, Nat.lt_succ_self _, h1, h2, h3, h4, h5⟩
theorem RStmt.inv {d : Nat} {w : World} {I : Nat → Prop} {cs : List Value} {x : Stmt} (h : RStmt d w I cs x) : ∃ d' a n cap a' n' cap' a'' n'' cap'', d' < d ∧
    cs = [.int .i64 x.kind, .int .i64 x.num, .string x.type, .string x.name, .slice a n cap, .slice a' n' cap', .slice a'' n'' cap''] ∧ (Lit.int .i64 x.kind).wf = true ∧ (Lit.int .i64 x.num).wf = true ∧ x.type.size ≤ maxS ∧ x.name.size ≤ maxS ∧
    RExprs d' w I (.slice a n cap) x.exprs ∧ RStmts d' w I (.slice a' n' cap') x.thn ∧ RStmts d' w I (.slice a'' n'' cap'') x.els := by
  cases d with
  | zero => exact h.elim
  | succ d =>
    obtain ⟨ev, tv, fv, h1, h2, h3, h4, h5, h6, h7, h8⟩ := h
    obtain ⟨a, n, cap, rfl⟩ := h6.shape
    obtain ⟨a', n', cap', rfl⟩ := h7.shape
    obtain ⟨a'', n'', cap'', rfl⟩ := h8.shape
    exact ⟨d, _, _, _, _, _, _, _, _, _, Nat.lt_succ_self _, h1, h2, h3, h4, h5, h6, h7, h8⟩
end Go.Proofs.Ythhpcjoaogmhbaa
end
section
namespace Go.Proofs.Ythhpcjoaogmhbaa
open Go.RowKit
theorem list_of {α : Type} (p : Nat → α → Prop) : ∀ (n : Nat), (∀ i, i < n → ∃ x, p i x) → ∃ l : List α, l.length = n ∧ ∀ i x, l[i]? = some x → p i x
  | 0, _ => ⟨[], rfl, fun i x h => by simp at h⟩
  | n + 1, h => by
    obtain ⟨l, hl, hp⟩ := list_of p n (fun i hi => h i (by omega))
    obtain ⟨y, hy⟩ := h n (by omega)
    refine ⟨l ++ [y], by simp [hl], fun i x hx => ?_⟩
    rw [List.getElem?_append] at hx
    split at hx
    · exact hp i x hx
    · rename_i hlt
      have : i = n := by
        rcases Nat.lt_or_ge (i - l.length) 1 with h1 | h1
        · omega
        · rw [List.getElem?_eq_none (by simpa using h1)] at hx; cases hx
      subst this
      have h0 : i - l.length = 0 := by omega
      rw [h0] at hx
      simp at hx
      subst hx; exact hy
theorem cellsAt_of {w : World} {b : Nat} : ∀ {cs : List Value} {o : Nat}, (∀ i, i < cs.length → w.cell? ⟨b, o + i, none⟩ = cs[i]?) → cellsAt w b o cs
  | [], _, _ => trivial
  | v :: r, o, h => ⟨by simpa using h 0 (by simp), cellsAt_of fun i hi => by have := h (i + 1) (by simp; omega); simpa [Nat.add_assoc, Nat.add_comm 1 i] using this⟩
theorem add_block (a : Addr) (k : Nat) : (a.add k).block = a.block := by unfold Addr.add; split <;> rfl
theorem cellsAt_of_cells {w : World} {base : Nat} {a : Addr} {k n : Nat} {cs : List Value} (hn : 0 < n) (h : w.cells? base (a.add k) n = some cs) :
    ∃ b off, a = ⟨b, off, a.spot⟩ ∧ (a.spot = none ∨ k ≠ 0) ∧ b < w.heap.size ∧ cellsAt w b (off + k) cs ∧ cs.length = n := by
  obtain ⟨_, hlen, hc⟩ := World.cells?_some h
  obtain ⟨b, off, spot⟩ := a
  have h0 := hc 0 hn
  have hc0 : ∃ v, cs[0]? = some v := ⟨cs[0], by simp⟩
  obtain ⟨v, hv⟩ := hc0
  rw [hv] at h0
  have hlt := cell_lt h0
  have hb : ((Addr.mk b off spot).add k).add 0 = (Addr.mk b off spot).add k := by simp [Addr.add]
  have hs : spot = none ∨ k ≠ 0 := by
    by_cases hk : k = 0
    · left
      subst hk
      have := World.cell?_spot h0
      simpa [Addr.add] using this
    · right; exact hk
  refine ⟨b, off, rfl, hs, ?_, cellsAt_of fun i hi => ?_, hlen⟩
  · have : (((Addr.mk b off spot).add k).add 0).block = b := by rw [add_block, add_block]
    omega
  · rw [hlen] at hi
    have := hc i hi
    rw [← this]
    congr 1
    by_cases hk : k = 0
    · subst hk
      rcases hs with rfl | hs
      · by_cases h1 : i = 0 <;> simp [Addr.add, h1]
      · exact absurd rfl hs
    · by_cases h1 : i = 0 <;> simp [Addr.add, hk, h1]
section
variable {H : Type} {enc : TypeId × Value → H} {P : Go.Program} {w : World} {held : Bool}
def Fits (P : Go.Program) (t : TypeId) (d : DataW H) : Prop := ∀ n ∈ d.weights P t, n ≤ reachBytes
theorem weights_mem_all {P : Go.Program} {e : TypeId} : ∀ {l : List (DataW H)} {d : DataW H}, d ∈ l → ∀ n ∈ d.weights P e, n ∈ DataW.weightsAll P e l
  | [], _, h, _, _ => by cases h
  | x :: r, d, h, n, hn => by
    rw [DataW.weightsAll, List.mem_append]
    rcases List.mem_cons.1 h with rfl | h
    · exact .inl hn
    · exact .inr (weights_mem_all h n hn)
theorem read_slice {α : Type} {t e : TypeId} {sz fuel : Nat} {cs : List Value} {x : DataW H × List MemPlace} {R : List Value → α → Prop} (ht : P.underlying t = some (.slice e)) (hsz : P.cellsOf e = sz) (hpos : 0 < sz)
    (hbytes : 0 < P.bytesOf e) (hfit : Fits P t x.1) (hR : ∀ n cs' y, n < fuel → DataW.trod enc P w 0 (fun _ => true) held n e cs' = some y → Fits P e y.1 → ∃ a : α, R cs' a) (h : DataW.trod enc P w 0 (fun _ => true) held fuel t cs = some x) :
    ∃ v, ∃ l : List α, cs = [v] ∧ RSl sz R w (· < w.heap.size) v l := by
  rcases DataW.trod_slice ht h with ⟨rfl, _⟩ | ⟨a, len, cap, elems, rest, n, hf, rfl, hxe, _, hl, hm, hlen, hel, hsp, _⟩
  · exact ⟨_, [], rfl, none, 0, 0, rfl, rfl, Nat.le_refl _, by unfold maxC; omega, fun i x h => by simp at h⟩
  · have _h0 := hm
    have hwt : x.1.weights P t = ((elems.map (·.1)).length + (rest.map (·.1)).length) * P.bytesOf e :: (DataW.weightsAll P e (elems.map (·.1)) ++ DataW.weightsAll P e (rest.map (·.1))) := by
      rw [hxe]; simp only [DataW.weights, ht]
    have hcap : cap ≤ maxC := by
      have h1 := hfit _ (by rw [hwt]; exact List.mem_cons_self ..)
      have h2 := (hsp rfl).1
      have h3 : (elems.map (·.1)).length + (rest.map (·.1)).length = cap := by simp only [List.length_map]; omega
      rw [h3] at h1
      have h4 : cap * 1 ≤ cap * P.bytesOf e := Nat.mul_le_mul_left _ hbytes
      unfold reachBytes at h1
      unfold maxC
      omega
    have hfe : ∀ z, z ∈ elems → Fits P e z.1 := fun z hz k hk => hfit k (by
      rw [hwt]
      exact List.mem_cons_of_mem _ (List.mem_append_left _ (weights_mem_all (List.mem_map_of_mem hz) k hk)))
    have hall : ∀ i, i < len → ∃ y : α, ∃ b off cs', a = ⟨b, off, none⟩ ∧ b < w.heap.size ∧ cellsAt w b (off + i * sz) cs' ∧ R cs' y := by
      intro i hi
      have h1 := hel i hi
      rw [hsz] at h1
      have h2 : ∃ z, elems[i]? = some z := ⟨elems[i], by simp⟩
      obtain ⟨z, hz⟩ := h2
      rw [hz] at h1
      cases hcell : w.cells? 0 (a.add (i * sz)) sz with
      | none => rw [hcell] at h1; simp at h1
      | some cs' =>
        rw [hcell] at h1
        have h1' : DataW.trod enc P w 0 (fun _ => true) held n e cs' = some z := by simpa using h1
        obtain ⟨b, off, ha, _, hb, hc, _⟩ := cellsAt_of_cells hpos hcell
        -- the address has no spot: element 0's cells are read, too
        have h00 := hel 0 (by omega)
        have h02 : ∃ z, elems[0]? = some z := ⟨elems[0], by simp⟩
        obtain ⟨z0, hz0⟩ := h02
        rw [hz0, hsz] at h00
        cases hcell0 : w.cells? 0 (a.add (0 * sz)) sz with
        | none => rw [hcell0] at h00; simp at h00
        | some cs0 =>
          obtain ⟨_, _, _, hs0, _⟩ := cellsAt_of_cells hpos hcell0
          have hsp : a.spot = none := by rcases hs0 with h | h; exact h; simp at h
          obtain ⟨y, hy⟩ := hR n cs' z (by omega) h1' (hfe z (List.mem_of_getElem? hz))
          exact ⟨y, b, off, cs', by rw [ha, hsp], hb, hc, hy⟩
    obtain ⟨l, hll, hp⟩ := list_of _ len hall
    refine ⟨_, l, rfl, some a, len, cap, rfl, hll, hl, hcap, fun i y hy => ?_⟩
    obtain ⟨b, off, cs', ha, hb, hc, hr⟩ := hp i y hy
    exact ⟨b, off, cs', by rw [ha], hb, hc, hr⟩
end
theorem RExpr.more : ∀ {d : Nat} {w : World} {I : Nat → Prop} {cs : List Value} {x : Expr} {d' : Nat}, d ≤ d' → RExpr d w I cs x → RExpr d' w I cs x
  | 0, _, _, _, _, _, _, h => h.elim
  | _ + 1, _, _, _, _, 0, hd, _ => absurd hd (by omega)
  | _ + 1, _, _, _, _, _ + 1, hd, ⟨kv, h1, h2, h3, h4, h5⟩ => ⟨kv, h1, h2, h3, h4, RSl.mono h5 (fun _ h => h) (fun _ _ => rfl) fun _ _ _ h => RExpr.more (by omega) h⟩
theorem RExprs.more {d d' : Nat} {w : World} {I : Nat → Prop} {v : Value} {l : List Expr} (hd : d ≤ d') (h : RExprs d w I v l) : RExprs d' w I v l := RSl.mono h (fun _ h => h) (fun _ _ => rfl) fun _ _ _ h => RExpr.more hd h
theorem RStmt.more : ∀ {d : Nat} {w : World} {I : Nat → Prop} {cs : List Value} {x : Stmt} {d' : Nat}, d ≤ d' → RStmt d w I cs x → RStmt d' w I cs x
  | 0, _, _, _, _, _, _, h => h.elim
  | _ + 1, _, _, _, _, 0, hd, _ => absurd hd (by omega)
  | _ + 1, _, _, _, _, _ + 1, hd, ⟨ev, tv, fv, h1, h2, h3, h4, h5, h6, h7, h8⟩ => ⟨ev, tv, fv, h1, h2, h3, h4, h5, RExprs.more (by omega) h6,
      RSl.mono h7 (fun _ h => h) (fun _ _ => rfl) fun _ _ _ h => RStmt.more (by omega) h, RSl.mono h8 (fun _ h => h) (fun _ _ => rfl) fun _ _ _ h => RStmt.more (by omega) h⟩
theorem RStmts.more {d d' : Nat} {w : World} {I : Nat → Prop} {v : Value} {l : List Stmt} (hd : d ≤ d') (h : RStmts d w I v l) : RStmts d' w I v l := RSl.mono h (fun _ h => h) (fun _ _ => rfl) fun _ _ _ h => RStmt.more hd h
theorem RMethod.more {d d' : Nat} {w : World} {I : Nat → Prop} {cs : List Value} {x : Method} (hd : d ≤ d') (h : RMethod d w I cs x) : RMethod d' w I cs x :=
  let ⟨pv, bv, h1, h2, h3, h4, h5⟩ := h
  ⟨pv, bv, h1, h2, h3, h4, h5.more hd⟩
theorem RClass.more {d d' : Nat} {w : World} {I : Nat → Prop} {cs : List Value} {x : Class} (hd : d ≤ d') (h : RClass d w I cs x) : RClass d' w I cs x :=
  let ⟨pv, bv, h1, h2, h3, h4, h5⟩ := h
  ⟨pv, bv, h1, h2, h3, h4, RSl.mono h5 (fun _ h => h) (fun _ _ => rfl) fun _ _ _ h => h.more hd⟩
section
variable {H : Type} {enc : TypeId × Value → H} {w : World} {held : Bool}
theorem fit_string {P : Go.Program} {t : TypeId} {s : ByteArray} {y : DataW H × List MemPlace} (h : y = (.lit (.string s.data.toList), [])) (hf : Fits P t y.1) : s.size ≤ maxS := by
  subst h
  have := hf s.data.toList.length (by simp [DataW.weights])
  unfold reachBytes at this
  have h2 : s.data.toList.length = s.size := rfl
  unfold maxS
  omega
theorem fieldsSlot : (Try.prog.underlying 38).map (fun d => match d with | .struct fs => fs.toList.map (fun f => (f.type, f.offset)) | _ => []) = some [(9, 0), (9, 1)] := by kernel_rfl
theorem fieldsExpr : (Try.prog.underlying 85).map (fun d => match d with | .struct fs => fs.toList.map (fun f => (f.type, f.offset)) | _ => []) = some [(3, 0), (2, 1), (9, 2), (73, 3)] := by kernel_rfl
theorem fieldsStmt : (Try.prog.underlying 75).map (fun d => match d with | .struct fs => fs.toList.map (fun f => (f.type, f.offset)) | _ => []) = some [(3, 0), (2, 1), (9, 2), (9, 3), (73, 4), (23, 5), (23, 6)] := by kernel_rfl
theorem fieldsMethod : (Try.prog.underlying 56).map (fun d => match d with | .struct fs => fs.toList.map (fun f => (f.type, f.offset)) | _ => []) = some [(9, 0), (9, 1), (31, 2), (23, 3)] := by kernel_rfl
theorem fieldsClass : (Try.prog.underlying 41).map (fun d => match d with | .struct fs => fs.toList.map (fun f => (f.type, f.offset)) | _ => []) = some [(9, 0), (9, 1), (31, 2), (39, 3)] := by kernel_rfl
theorem fieldsProgram : (Try.prog.underlying 25).map (fun d => match d with | .struct fs => fs.toList.map (fun f => (f.type, f.offset)) | _ => []) = some [(22, 0), (23, 1)] := by kernel_rfl
theorem read_struct {P : Go.Program} {t : TypeId} {fl : List (TypeId × Nat)} {fuel : Nat} {cs : List Value} {x : DataW H × List MemPlace}
    (hf : (P.underlying t).map (fun d => match d with | .struct fs => fs.toList.map (fun f => (f.type, f.offset)) | _ => []) = some fl) (hne : fl ≠ []) (hfit : Fits P t x.1)
    (h : DataW.trod enc P w 0 (fun _ => true) held fuel t cs = some x) : cs.length = P.cellsOf t ∧ ∃ n, n < fuel ∧ ∀ k ∈ fl, ∃ y, DataW.trod enc P w 0 (fun _ => true) held n k.1 ((cs.drop k.2).take (P.cellsOf k.1)) = some y ∧ Fits P k.1 y.1 := by
  cases hu : P.underlying t with
  | none => rw [hu] at hf; simp at hf
  | some d =>
    rw [hu] at hf
    simp only [Option.map_some, Option.some.injEq] at hf
    cases d with
    | struct fs =>
      simp only at hf
      obtain ⟨xs, n, hfu, hxe, hl, hlen, hall⟩ := DataW.trod_struct hu h
      refine ⟨hl, n, by omega, fun k hk => ?_⟩
      rw [← hf] at hk
      obtain ⟨f, hfm, rfl⟩ := List.mem_map.1 hk
      obtain ⟨i, hi⟩ := List.mem_iff_getElem?.1 hfm
      have hi' : fs[i]? = some f := by rw [← Array.getElem?_toList]; exact hi
      have := hall i f hi'
      have hlt : i < xs.length := by
        rw [hlen]
        exact (Array.getElem?_eq_some_iff.1 hi').1
      refine ⟨xs[i], by simpa [List.getElem?_eq_getElem hlt] using this, fun m hm => hfit m ?_⟩
      rw [hxe]
      simp only [DataW.weights, hu]
      exact DataW.weights_mem_each (j := i) (by rw [List.getElem?_map, hi]; rfl) (by rw [List.getElem?_map, List.getElem?_eq_getElem hlt]; rfl) m hm
    | _ => simp only at hf; exact absurd hf.symm hne
theorem cellsOf_one (t : TypeId) (ht : Try.prog.cellsOf t = 1) (cs : List Value) (k : Nat) (v : Value) (h : cs[k]? = some v) : (cs.drop k).take (Try.prog.cellsOf t) = [v] := by
  rw [ht]
  have hk : k < cs.length := (List.getElem?_eq_some_iff.1 h).1
  rw [List.drop_eq_getElem_cons hk]
  simp only [List.take_succ_cons, List.take_zero]
  rw [List.getElem?_eq_getElem hk] at h
  simpa using h
theorem c_int : Try.prog.cellsOf 3 = 1 := by kernel_rfl
theorem c_int64 : Try.prog.cellsOf 2 = 1 := by kernel_rfl
theorem c_string : Try.prog.cellsOf 9 = 1 := by kernel_rfl
theorem c_exprs : Try.prog.cellsOf 73 = 1 := by kernel_rfl
theorem c_stmts : Try.prog.cellsOf 23 = 1 := by kernel_rfl
theorem c_slots : Try.prog.cellsOf 31 = 1 := by kernel_rfl
theorem c_methods : Try.prog.cellsOf 39 = 1 := by kernel_rfl
theorem c_classes : Try.prog.cellsOf 22 = 1 := by kernel_rfl
theorem c_slot : Try.prog.cellsOf 38 = 2 := by kernel_rfl
theorem c_expr : Try.prog.cellsOf 85 = 4 := by kernel_rfl
theorem c_stmt : Try.prog.cellsOf 75 = 7 := by kernel_rfl
theorem c_method : Try.prog.cellsOf 56 = 4 := by kernel_rfl
theorem c_class : Try.prog.cellsOf 41 = 4 := by kernel_rfl
theorem c_program : Try.prog.cellsOf 25 = 2 := by kernel_rfl
theorem read_slot {n : Nat} {cs : List Value} {y : DataW H × List MemPlace} (hfit : Fits Try.prog 38 y.1) (h : DataW.trod enc Try.prog w 0 (fun _ => true) held n 38 cs = some y) : ∃ a : Slot, RSlot cs a := by
  obtain ⟨hl, m, _, hall⟩ := read_struct fieldsSlot (by simp) hfit h
  rw [c_slot] at hl
  obtain ⟨v0, v1, rfl⟩ := len2 hl
  obtain ⟨y0, h0, f0⟩ := hall (9, 0) (by simp)
  obtain ⟨y1, h1, f1⟩ := hall (9, 1) (by simp)
  rw [cellsOf_one _ c_string _ _ _ rfl] at h0 h1
  obtain ⟨s0, e0, g0, -⟩ := DataW.trod_string Try.underlying9 h0
  have l0 : s0.size ≤ maxS := fit_string g0 f0
  obtain ⟨s1, e1, g1, -⟩ := DataW.trod_string Try.underlying9 h1
  have l1 : s1.size ≤ maxS := fit_string g1 f1
  simp only [List.cons.injEq, and_true] at e0 e1
  subst e0 e1
  exact ⟨⟨s0, s1⟩, rfl, l0, l1⟩
theorem read_slots {n : Nat} {cs : List Value} {y : DataW H × List MemPlace} (hfit : Fits Try.prog 31 y.1) (h : DataW.trod enc Try.prog w 0 (fun _ => true) held n 31 cs = some y) : ∃ v l, cs = [v] ∧ RSlots w (· < w.heap.size) v l :=
  read_slice Try.underlying31 c_slot (by decide) (of_decide_eq_true (by kernel_rfl)) hfit (fun _ _ _ _ h f => read_slot f h) h
theorem read_expr : ∀ (n : Nat) {cs : List Value} {y : DataW H × List MemPlace}, Fits Try.prog 85 y.1 → DataW.trod enc Try.prog w 0 (fun _ => true) held n 85 cs = some y → ∃ a : Expr, RExpr n w (· < w.heap.size) cs a := by
  intro n
  induction n using Nat.strongRecOn with
  | ind n ih =>
    intro cs y hfit h
    obtain ⟨hl, m, hm, hall⟩ := read_struct fieldsExpr (by simp) hfit h
    rw [c_expr] at hl
    obtain ⟨v0, v1, v2, v3, rfl⟩ := len4 hl
    obtain ⟨y0, h0, f0⟩ := hall (3, 0) (by simp)
    obtain ⟨y1, h1, f1⟩ := hall (2, 1) (by simp)
    obtain ⟨y2, h2, f2⟩ := hall (9, 2) (by simp)
    obtain ⟨y3, h3, f3⟩ := hall (73, 3) (by simp)
    rw [cellsOf_one _ c_int _ _ _ rfl] at h0
    rw [cellsOf_one _ c_int64 _ _ _ rfl] at h1
    rw [cellsOf_one _ c_string _ _ _ rfl] at h2
    rw [cellsOf_one _ c_exprs _ _ _ rfl] at h3
    obtain ⟨s0, e0, -, l0⟩ := DataW.trod_int Try.underlying3 h0
    obtain ⟨s1, e1, -, l1⟩ := DataW.trod_int Try.underlying2 h1
    obtain ⟨s2, e2, g2, -⟩ := DataW.trod_string Try.underlying9 h2
    have l2 : s2.size ≤ maxS := fit_string g2 f2
    obtain ⟨v, l, e3, hr⟩ := read_slice (R := RExpr (n - 1) w (· < w.heap.size)) Try.underlying73 c_expr (by decide) (of_decide_eq_true (by kernel_rfl)) f3 (fun k cs' y hk hy fy => by
      obtain ⟨a, ha⟩ := ih k (by omega) fy hy
      exact ⟨a, ha.more (by omega)⟩) h3
    simp only [List.cons.injEq, and_true] at e0 e1 e2 e3
    subst e0 e1 e2 e3
    obtain ⟨n, rfl⟩ : ∃ k, n = k + 1 := ⟨n - 1, by omega⟩
    exact ⟨⟨s0, s1, s2, l⟩, _, rfl, l0, l1, l2, hr⟩
theorem read_exprs {n : Nat} {cs : List Value} {y : DataW H × List MemPlace} (hfit : Fits Try.prog 73 y.1) (h : DataW.trod enc Try.prog w 0 (fun _ => true) held n 73 cs = some y) : ∃ v l, cs = [v] ∧ RExprs n w (· < w.heap.size) v l :=
  read_slice Try.underlying73 c_expr (by decide) (of_decide_eq_true (by kernel_rfl)) hfit (fun k _ _ hk h f => let ⟨a, ha⟩ := read_expr k f h; ⟨a, ha.more (Nat.le_of_lt hk)⟩) h
theorem read_stmt : ∀ (n : Nat) {cs : List Value} {y : DataW H × List MemPlace}, Fits Try.prog 75 y.1 → DataW.trod enc Try.prog w 0 (fun _ => true) held n 75 cs = some y → ∃ a : Stmt, RStmt n w (· < w.heap.size) cs a := by
  intro n
  induction n using Nat.strongRecOn with
  | ind n ih =>
    intro cs y hfit h
    obtain ⟨hl, m, hm, hall⟩ := read_struct fieldsStmt (by simp) hfit h
    rw [c_stmt] at hl
    obtain ⟨v0, v1, v2, v3, v4, v5, v6, rfl⟩ := len7 hl
    obtain ⟨y0, h0, f0⟩ := hall (3, 0) (by simp)
    obtain ⟨y1, h1, f1⟩ := hall (2, 1) (by simp)
    obtain ⟨y2, h2, f2⟩ := hall (9, 2) (by simp)
    obtain ⟨y3, h3, f3⟩ := hall (9, 3) (by simp)
    obtain ⟨y4, h4, f4⟩ := hall (73, 4) (by simp)
    obtain ⟨y5, h5, f5⟩ := hall (23, 5) (by simp)
    obtain ⟨y6, h6, f6⟩ := hall (23, 6) (by simp)
    rw [cellsOf_one _ c_int _ _ _ rfl] at h0
    rw [cellsOf_one _ c_int64 _ _ _ rfl] at h1
    rw [cellsOf_one _ c_string _ _ _ rfl] at h2 h3
    rw [cellsOf_one _ c_exprs _ _ _ rfl] at h4
    rw [cellsOf_one _ c_stmts _ _ _ rfl] at h5 h6
    obtain ⟨s0, e0, -, l0⟩ := DataW.trod_int Try.underlying3 h0
    obtain ⟨s1, e1, -, l1⟩ := DataW.trod_int Try.underlying2 h1
    obtain ⟨s2, e2, g2, -⟩ := DataW.trod_string Try.underlying9 h2
    have l2 : s2.size ≤ maxS := fit_string g2 f2
    obtain ⟨s3, e3, g3, -⟩ := DataW.trod_string Try.underlying9 h3
    have l3 : s3.size ≤ maxS := fit_string g3 f3
    obtain ⟨u4, k4, e4, r4⟩ := read_exprs f4 h4
    have hrec : ∀ k cs' (y : DataW H × List MemPlace), k < m → DataW.trod enc Try.prog w 0 (fun _ => true) held k 75 cs' = some y → Fits Try.prog 75 y.1 → ∃ a : Stmt, RStmt (n - 1) w (· < w.heap.size) cs' a := fun k cs' y hk hy fy => by
      obtain ⟨a, ha⟩ := ih k (by omega) fy hy
      exact ⟨a, ha.more (by omega)⟩
    obtain ⟨u5, k5, e5, r5⟩ := read_slice Try.underlying23 c_stmt (by decide) (of_decide_eq_true (by kernel_rfl)) f5 hrec h5
    obtain ⟨u6, k6, e6, r6⟩ := read_slice Try.underlying23 c_stmt (by decide) (of_decide_eq_true (by kernel_rfl)) f6 hrec h6
    simp only [List.cons.injEq, and_true] at e0 e1 e2 e3 e4 e5 e6
    subst e0 e1 e2 e3 e4 e5 e6
    obtain ⟨n, rfl⟩ : ∃ k, n = k + 1 := ⟨n - 1, by omega⟩
    exact ⟨⟨s0, s1, s2, s3, k4, k5, k6⟩, _, _, _, rfl, l0, l1, l2, l3, r4.more (by omega), r5, r6⟩
theorem read_stmts {n : Nat} {cs : List Value} {y : DataW H × List MemPlace} (hfit : Fits Try.prog 23 y.1) (h : DataW.trod enc Try.prog w 0 (fun _ => true) held n 23 cs = some y) : ∃ v l, cs = [v] ∧ RStmts n w (· < w.heap.size) v l :=
  read_slice Try.underlying23 c_stmt (by decide) (of_decide_eq_true (by kernel_rfl)) hfit (fun k _ _ hk h f => let ⟨a, ha⟩ := read_stmt k f h; ⟨a, ha.more (Nat.le_of_lt hk)⟩) h
theorem read_method {n : Nat} {cs : List Value} {y : DataW H × List MemPlace} (hfit : Fits Try.prog 56 y.1) (h : DataW.trod enc Try.prog w 0 (fun _ => true) held n 56 cs = some y) : ∃ a : Method, RMethod n w (· < w.heap.size) cs a := by
  obtain ⟨hl, m, hm, hall⟩ := read_struct fieldsMethod (by simp) hfit h
  rw [c_method] at hl
  obtain ⟨v0, v1, v2, v3, rfl⟩ := len4 hl
  obtain ⟨y0, h0, f0⟩ := hall (9, 0) (by simp)
  obtain ⟨y1, h1, f1⟩ := hall (9, 1) (by simp)
  obtain ⟨y2, h2, f2⟩ := hall (31, 2) (by simp)
  obtain ⟨y3, h3, f3⟩ := hall (23, 3) (by simp)
  rw [cellsOf_one _ c_string _ _ _ rfl] at h0 h1
  rw [cellsOf_one _ c_slots _ _ _ rfl] at h2
  rw [cellsOf_one _ c_stmts _ _ _ rfl] at h3
  obtain ⟨s0, e0, g0, -⟩ := DataW.trod_string Try.underlying9 h0
  have l0 : s0.size ≤ maxS := fit_string g0 f0
  obtain ⟨s1, e1, g1, -⟩ := DataW.trod_string Try.underlying9 h1
  have l1 : s1.size ≤ maxS := fit_string g1 f1
  obtain ⟨u2, k2, e2, r2⟩ := read_slots f2 h2
  obtain ⟨u3, k3, e3, r3⟩ := read_stmts f3 h3
  simp only [List.cons.injEq, and_true] at e0 e1 e2 e3
  subst e0 e1 e2 e3
  exact ⟨⟨s0, s1, k2, k3⟩, _, _, rfl, l0, l1, r2, r3.more (by omega)⟩
theorem read_class {n : Nat} {cs : List Value} {y : DataW H × List MemPlace} (hfit : Fits Try.prog 41 y.1) (h : DataW.trod enc Try.prog w 0 (fun _ => true) held n 41 cs = some y) : ∃ a : Class, RClass n w (· < w.heap.size) cs a := by
  obtain ⟨hl, m, hm, hall⟩ := read_struct fieldsClass (by simp) hfit h
  rw [c_class] at hl
  obtain ⟨v0, v1, v2, v3, rfl⟩ := len4 hl
  obtain ⟨y0, h0, f0⟩ := hall (9, 0) (by simp)
  obtain ⟨y1, h1, f1⟩ := hall (9, 1) (by simp)
  obtain ⟨y2, h2, f2⟩ := hall (31, 2) (by simp)
  obtain ⟨y3, h3, f3⟩ := hall (39, 3) (by simp)
  rw [cellsOf_one _ c_string _ _ _ rfl] at h0 h1
  rw [cellsOf_one _ c_slots _ _ _ rfl] at h2
  rw [cellsOf_one _ c_methods _ _ _ rfl] at h3
  obtain ⟨s0, e0, g0, -⟩ := DataW.trod_string Try.underlying9 h0
  have l0 : s0.size ≤ maxS := fit_string g0 f0
  obtain ⟨s1, e1, g1, -⟩ := DataW.trod_string Try.underlying9 h1
  have l1 : s1.size ≤ maxS := fit_string g1 f1
  obtain ⟨u2, k2, e2, r2⟩ := read_slots f2 h2
  obtain ⟨u3, k3, e3, r3⟩ := read_slice (R := RMethod n w (· < w.heap.size)) Try.underlying39 c_method (by decide) (of_decide_eq_true (by kernel_rfl)) f3 (fun k cs' y hk hy fy => let ⟨a, ha⟩ := read_method fy hy; ⟨a, ha.more (by omega)⟩) h3
  simp only [List.cons.injEq, and_true] at e0 e1 e2 e3
  subst e0 e1 e2 e3
  exact ⟨⟨s0, s1, k2, k3⟩, _, _, rfl, l0, l1, r2, r3⟩
theorem read_program {v : Value} {y : DataW H} {p : List MemPlace} (hfit : Fits Try.prog 25 y) (h : DataW.Trod enc Try.prog w 0 (fun _ => true) held 25 v y p) (hv : ∃ cs, v = .agg cs) : ∃ d a, RProgram d w (· < w.heap.size) v a := by
  obtain ⟨n, h⟩ := h
  obtain ⟨hl, m, hm, hall⟩ := read_struct fieldsProgram (by simp) hfit h
  rw [c_program] at hl
  obtain ⟨v0, v1, hcs⟩ := len2 hl
  rw [hcs] at hall
  obtain ⟨y0, h0, f0⟩ := hall (22, 0) (by simp)
  obtain ⟨y1, h1, f1⟩ := hall (23, 1) (by simp)
  rw [cellsOf_one _ c_classes _ _ _ rfl] at h0
  rw [cellsOf_one _ c_stmts _ _ _ rfl] at h1
  obtain ⟨u0, k0, e0, r0⟩ := read_slice (R := RClass n w (· < w.heap.size)) Try.underlying22 c_class (by decide) (of_decide_eq_true (by kernel_rfl)) f0 (fun k cs' y hk hy fy => let ⟨a, ha⟩ := read_class fy hy; ⟨a, ha.more (by omega)⟩) h0
  obtain ⟨u1, k1, e1, r1⟩ := read_stmts f1 h1
  simp only [List.cons.injEq, and_true] at e0 e1
  subst e0 e1
  obtain ⟨cs, rfl⟩ := hv
  have : cs = #[v0, v1] := by simpa [Value.cells, ← Array.toList_inj] using hcs
  subst this
  exact ⟨n, ⟨k0, k1⟩, _, _, rfl, r0, r1.more (by omega)⟩
end
end Go.Proofs.Ythhpcjoaogmhbaa
end
section
namespace Go.Proofs.Ythhpcjoaogmhbaa
namespace V
open Go.RowKit
def GlobOk (w : World) : Prop := ∃ m, w.cell? ⟨0, 0, none⟩ = some (.int .i64 m)
theorem GlobOk.keep {w w' : World} (h : GlobOk w) (hb : Below w.heap.size w w') : GlobOk w' := by
  obtain ⟨m, hm⟩ := h
  refine ⟨m, (hb.cell (p := ⟨0, 0, none⟩) ?_).trans hm⟩
  unfold World.cell? at hm
  split at hm
  · rename_i h'; exact (Array.getElem?_eq_some_iff.1 h').1
  · cases hm
end V
end Go.Proofs.Ythhpcjoaogmhbaa
end
section
namespace Go.Proofs
open Go.Shelf
def Try.lays144_ren : Go.Shelf.Ren := ⟨fun | 144 => 80 | 143 => 88 | 219 => 89 | 217 => 90 | 225 => 91 | 224 => 92 | 267 => 93 | 266 => 94 | 314 => 95 | n => n, fun | 9 => 9 | 4 => 4 | 3 => 3 | 5 => 5 | 46 => 101 | 146 => 103 | 51 => 102 | n => n, fun | 1 => 0 | n => n⟩
theorem Try.lays144 : Go.Proofs.Lays.n144 Try.prog Try.lays144_ren := {
  mixed := by kernel_rfl
  f143 := Try.func88.trans (congrArg some (by kernel_rfl))
  f144 := Try.func80.trans (congrArg some (by kernel_rfl))
  f217 := Try.func90.trans (congrArg some (by kernel_rfl))
  f219 := Try.func89.trans (congrArg some (by kernel_rfl))
  f224 := Try.func92.trans (congrArg some (by kernel_rfl))
  f225 := Try.func91.trans (congrArg some (by kernel_rfl))
  f266 := Try.func94.trans (congrArg some (by kernel_rfl))
  f267 := Try.func93.trans (congrArg some (by kernel_rfl))
  f314 := Try.func95.trans (congrArg some (by kernel_rfl))
  t3 := Try.underlying3
  a3 := Try.isAgg3
  z3 := Try.sizeOf3
  v3 := Try.zeroValue3
  t4 := Try.underlying4
  a4 := Try.isAgg4
  z4 := Try.sizeOf4
  v4 := Try.zeroValue4
  t5 := Try.underlying5
  a5 := Try.isAgg5
  z5 := Try.sizeOf5
  v5 := Try.zeroValue5
  t9 := Try.underlying9
  a9 := Try.isAgg9
  z9 := Try.sizeOf9
  v9 := Try.zeroValue9
  t46 := Try.underlying101
  a46 := Try.isAgg101
  z46 := Try.sizeOf101
  v46 := Try.zeroValue101
  t51 := Try.underlying102
  a51 := Try.isAgg102
  z51 := Try.sizeOf102
  v51 := Try.zeroValue102
  t146 := Try.underlying103
  a146 := Try.isAgg103
  z146 := Try.sizeOf103
  v146 := Try.zeroValue103
  g1 := by kernel_rfl }
open Go.RowKit Go.Lib in
theorem Try.strings_Contains_one (s : ByteArray) (c : UInt8) (w : World) :
    Calls Try.prog 80 #[.string s, .string ⟨#[c]⟩] w fun e w' => e = .returned (.bool (decide (0 ≤ Lib.indexByte s.data.toList c))) ∧ w' = w := Any.strings_Contains_one Try.lays144 s c w
open Go.RowKit Go.Lib in
theorem Try.strings_Contains (s sub : ByteArray) (m : Int) (w : World) (hs : s.size < 4294967281) (hm : w.cell? ⟨0, 0, none⟩ = some (.int .i64 m)) :
    Calls Try.prog 80 #[.string s, .string sub] w fun e w' => e = .returned (.bool (Lib.contains s.data.toList sub.data.toList)) ∧ w' = w := Any.strings_Contains Try.lays144 s sub m w hs hm
end Go.Proofs
end
section
namespace Go.Proofs.Ythhpcjoaogmhbaa
open Go.RowKit
def letterB (c : UInt8) : Bool := (97 ≤ c && c ≤ 122) || (65 ≤ c && c ≤ 90)
def digitB (c : UInt8) : Bool := 48 ≤ c && c ≤ 57
def withinB (c : UInt8) : Bool := letterB c || digitB c || c == 95
theorem letterB_iff (c : UInt8) : letterB c = decide ((97 ≤ (c.toNat : Int) ∧ (c.toNat : Int) ≤ 122) ∨ (65 ≤ (c.toNat : Int) ∧ (c.toNat : Int) ≤ 90)) := by
  rw [Bool.eq_iff_iff]; simp [letterB, UInt8.le_iff_toNat_le]; omega
theorem digitB_iff (c : UInt8) : digitB c = decide (48 ≤ (c.toNat : Int) ∧ (c.toNat : Int) ≤ 57) := by
  rw [Bool.eq_iff_iff]; simp [digitB, UInt8.le_iff_toNat_le]; omega
theorem all_bytes {p : UInt8 → Prop} [DecidablePred p] (h : ∀ n : Fin 256, p (UInt8.ofNat n.val)) (c : UInt8) : p c := by
  have := h ⟨c.toNat, c.toNat_lt⟩
  simpa using this
theorem begins_eq (c : UInt8) : (decide (97 ≤ bits BinOp.or IntKind.u8 (c.toNat : Int) 32) && decide (bits BinOp.or IntKind.u8 (c.toNat : Int) 32 ≤ 122)) = letterB c :=
  all_bytes (p := fun c => (decide (97 ≤ bits BinOp.or IntKind.u8 (c.toNat : Int) 32) && decide (bits BinOp.or IntKind.u8 (c.toNat : Int) 32 ≤ 122)) = letterB c) (by decide +kernel) c
theorem ret_bool {a b : Bool} (h : a = b) : Ending.returned (.bool a) = .returned (.bool b) := by rw [h]
theorem begins_any (c : UInt8) (w : World) : Calls Try.prog 55 #[.int .u8 c.toNat] w fun e w' => e = .returned (.bool (letterB c)) ∧ w = w' := by
  have hq := Lib.hid (begins_eq c)
  go_enter Try.func55, Try.ntmps55
  go_wp2
  all_goals go_ret
  all_goals refine ⟨ret_bool ?_, rfl⟩
  all_goals rw [← hq.out]; simp [*]
  all_goals omega
theorem letter_any (c : UInt8) (w : World) : Calls Try.prog 67 #[.int .u8 c.toNat] w fun e w' => e = .returned (.bool (letterB c)) ∧ w = w' := by
  go_enter Try.func67, Try.ntmps67
  go_wp2
  all_goals go_ret
  all_goals refine ⟨ret_bool ?_, rfl⟩
  all_goals rw [letterB_iff, Bool.eq_iff_iff]; simp; omega
theorem digit_any (c : UInt8) (w : World) : Calls Try.prog 82 #[.int .u8 c.toNat] w fun e w' => e = .returned (.bool (digitB c)) ∧ w = w' := by
  go_enter Try.func82, Try.ntmps82
  go_wp2
  all_goals go_ret
  all_goals refine ⟨ret_bool ?_, rfl⟩
  all_goals rw [digitB_iff, Bool.eq_iff_iff]; simp; omega
theorem figure_any (c : UInt8) (w : World) : Calls Try.prog 79 #[.int .u8 c.toNat] w fun e w' => e = .returned (.bool (digitB c)) ∧ w = w' := by
  go_enter Try.func79, Try.ntmps79
  go_wp2
  all_goals go_ret
  all_goals refine ⟨ret_bool ?_, rfl⟩
  all_goals rw [digitB_iff, Bool.eq_iff_iff]; simp; omega
theorem goes_any (c : UInt8) (w : World) : Calls Try.prog 57 #[.int .u8 c.toNat] w fun e w' => e = .returned (.bool (withinB c)) ∧ w = w' := by
  go_enter Try.func57, Try.ntmps57
  go_wp2_with (first
    | (go_at_call 55; refine (begins_any _ _).mono ?_; rintro e w' ⟨rfl, rfl⟩)
    | (go_at_call 79; refine (figure_any _ _).mono ?_; rintro e w' ⟨rfl, rfl⟩))
  all_goals go_ret
  all_goals refine ⟨ret_bool ?_, rfl⟩
  all_goals simp_all [withinB]
  all_goals (rw [Bool.eq_iff_iff]; simp [← UInt8.toNat_inj]; omega)
theorem within_any (c : UInt8) (w : World) : Calls Try.prog 69 #[.int .u8 c.toNat] w fun e w' => e = .returned (.bool (withinB c)) ∧ w = w' := by
  go_enter Try.func69, Try.ntmps69
  go_wp2_with (first
    | (go_at_call 67; refine (letter_any _ _).mono ?_; rintro e w' ⟨rfl, rfl⟩)
    | (go_at_call 82; refine (digit_any _ _).mono ?_; rintro e w' ⟨rfl, rfl⟩))
  all_goals go_ret
  all_goals refine ⟨ret_bool ?_, rfl⟩
  all_goals simp_all [withinB]
  all_goals (rw [Bool.eq_iff_iff]; simp [← UInt8.toNat_inj]; omega)
theorem run_any (s : ByteArray) (hs : s.size ≤ maxS) (w : World) : Calls Try.prog 56 #[.string s, .func (.func 57) #[] #[]] w fun e w' => e = .returned (.int .i64 (s.data.toList.takeWhile withinB).length) ∧ w = w' := by
  unfold maxS at hs
  go_enter Try.func56, Try.ntmps56
  go_wp2
  go_loop [5] (fun v5 => ∃ k : Nat, k ≤ s.size ∧ v5 = .int .i64 k ∧ (s.data.toList.takeWhile withinB).length = k + ((s.data.toList.drop k).takeWhile withinB).length) (fun v5 => s.size - (intOf v5).toNat)
  case atStart => exact ⟨0, by omega, rfl, by simp⟩
  case round =>
    obtain ⟨k, hk, rfl, hq⟩ := hrel
    have HQ := Lib.hid hq
    clear hq
    by_cases hlt : k < s.size
    · have hd : s.data.toList.drop k = s[k] :: s.data.toList.drop (k + 1) := by
        rw [List.drop_eq_getElem_cons (by simpa using hlt)]; rfl
      have HD := Lib.hid hd
      clear hd
      go_wp2_with (go_at_call 57; refine (goes_any _ _).mono ?_; rintro e w' ⟨rfl, rfl⟩)
      · have hw : withinB s[k] = true := by assumption
        go_round
        case rel => exact ⟨k + 1, by omega, by go_num, by rw [HQ.out, HD.out, List.takeWhile_cons_of_pos hw]; simp; omega⟩
        case measure => simp [intOf]; omega
      · have hw : withinB s[k] = false := by assumption
        go_ret
        refine ⟨?_, rfl⟩
        rw [HQ.out, HD.out, List.takeWhile_cons_of_neg (by simp [hw])]; rfl
    · have hd : s.data.toList.drop k = [] := List.drop_of_length_le (by simpa using hlt)
      have HD := Lib.hid hd
      clear hd
      go_wp2
      go_ret
      refine ⟨?_, rfl⟩
      rw [HQ.out, HD.out]; rfl
def words : List (List UInt8) := [[99, 108, 97, 115, 115], [101, 120, 116, 101, 110, 100, 115], [105, 110, 116], [109, 97, 105, 110], [105, 102], [101, 108, 115, 101], [119, 104, 105, 108, 101], [112, 114, 105, 110, 116], [114, 101, 116, 117, 114, 110], [110, 117, 108, 108], [116, 104, 105, 115], [110, 101, 119], [114, 101, 97, 100], [100, 101, 99, 108, 97, 115, 115, 105, 102, 121], [108, 101, 110, 103, 116, 104]]
def isWordB (l : List UInt8) : Bool := words.contains l
def wordsText : List UInt8 := [32, 99, 108, 97, 115, 115, 32, 101, 120, 116, 101, 110, 100, 115, 32, 105, 110, 116, 32, 109, 97, 105, 110, 32, 105, 102, 32, 101, 108, 115, 101, 32, 119, 104, 105, 108, 101, 32, 112, 114, 105, 110, 116, 32, 114, 101, 116, 117, 114, 110, 32, 110, 117, 108, 108, 32, 116, 104, 105, 115, 32, 110, 101, 119, 32, 114, 101, 97, 100, 32, 100, 101, 99, 108, 97, 115, 115, 105, 102, 121, 32, 108, 101, 110, 103, 116, 104, 32]
theorem prefix_seg (l r : List UInt8) (hsp : 32 ∉ l) (h : (32 :: (l ++ [32])).isPrefixOf r = true) : r[0]? = some 32 ∧ l = (r.drop 1).takeWhile (· != 32) := by
  obtain ⟨t, rfl⟩ := List.isPrefixOf_iff_prefix.1 h
  refine ⟨rfl, ?_⟩
  simp only [List.cons_append, List.drop_succ_cons, List.drop_zero, List.append_assoc]
  rw [List.takeWhile_append_of_pos (by intro a ha; simp; rintro rfl; exact hsp ha)]
  simp
theorem segs_words : ∀ i, i < 89 → wordsText[i]? = some 32 → (wordsText.drop (i + 1)).takeWhile (· != 32) = [] ∨ (wordsText.drop (i + 1)).takeWhile (· != 32) ∈ words := by decide +kernel
theorem words_in : ∀ l ∈ words, Lib.contains wordsText (32 :: (l ++ [32])) = true := by decide +kernel
theorem words_blank : ∀ l ∈ words, 32 ∉ l := by decide +kernel
theorem contains_words (l : List UInt8) (hne : l ≠ []) (hsp : 32 ∉ l) : Lib.contains wordsText (32 :: (l ++ [32])) = isWordB l := by
  rw [Bool.eq_iff_iff]
  constructor
  · intro h
    rcases Lib.index_spec wordsText (32 :: (l ++ [32])) with ⟨h1, _⟩ | ⟨i, _, hi, hocc, _⟩
    · simp [Lib.contains, h1] at h
    · obtain ⟨h0, h1⟩ := prefix_seg l _ hsp hocc
      have hi' : i < 89 := by
        have : i ≤ wordsText.length := hi
        rcases Nat.lt_or_ge i 89 with h | h
        · exact h
        · have hl : wordsText.length = 88 := rfl
          omega
      have h2 : wordsText[i]? = some 32 := by simpa using h0
      rw [List.drop_drop] at h1
      rcases segs_words i hi' h2 with h | h
      · exact absurd (h1.trans h) hne
      · rw [← h1] at h; simpa [isWordB] using h
  · intro h
    exact words_in l (by simpa [isWordB] using h)
theorem indexByte_none (l : List UInt8) (c : UInt8) : (decide (0 ≤ Lib.indexByte l c)) = l.contains c := (Lib.contains_iff_indexByte l c).symm
theorem refIsWord_any (s : ByteArray) (w : World) : Calls Try.prog 68 #[.string s] w fun e w' => e = .returned (.bool (isWordB s.data.toList)) ∧ w = w' := by
  go_enter Try.func68, Try.ntmps68
  go_wp2
  all_goals first | contradiction | (simp_all; done) | skip
  all_goals go_ret
  all_goals refine ⟨ret_bool ?_, rfl⟩
  all_goals simp_all [isWordB, words, Lib.toList_data]
theorem isWord_any (s : ByteArray) (hs : s.size ≤ 1000) (m : Int) (w : World) (hm : w.cell? ⟨0, 0, none⟩ = some (.int .i64 m)) :
    Calls Try.prog 58 #[.string s] w fun e w' => e = .returned (.bool (isWordB s.data.toList)) ∧ w = w' := by
  by_cases hne : s.toList = []
  · go_enter Try.func58, Try.ntmps58
    go_wp2
    go_ret
    refine ⟨ret_bool ?_, rfl⟩
    rw [← Lib.toList_data, hne]; rfl
  have HN : Hid (s.data.toList ≠ []) := by rw [← Lib.toList_data]; exact hne
  have hb : (!s.toList.isEmpty) = true := by simp [hne]
  by_cases hsp : 32 ∈ s.data.toList
  · have h1 : decide (0 ≤ Lib.indexByte s.data.toList 32) = true := by rw [indexByte_none]; exact List.contains_iff_mem.2 hsp
    have H2 : Hid (false = isWordB s.data.toList) := by
      cases hq : isWordB s.data.toList with
      | false => rfl
      | true => exact absurd hsp (words_blank _ (List.contains_iff_mem.1 hq))
    clear hsp
    go_enter Try.func58, Try.ntmps58
    go_wp2_with fail
    refine (Try.strings_Contains_one _ _ _).mono ?_
    rintro e w' ⟨rfl, rfl⟩
    go_wp2
    go_ret
    exact ⟨ret_bool H2.out, rfl⟩
  · have h1 : decide (0 ≤ Lib.indexByte s.data.toList 32) = false := by rw [indexByte_none, Bool.eq_false_iff]; exact fun h => hsp (List.contains_iff_mem.1 h)
    have H2 : Hid (Lib.contains wordsText (32 :: (s.data.toList ++ [32])) = isWordB s.data.toList) := contains_words _ HN.out hsp
    clear hsp
    go_enter Try.func58, Try.ntmps58
    go_wp2_with fail
    refine (Try.strings_Contains_one _ _ _).mono ?_
    rintro e w' ⟨rfl, rfl⟩
    go_wp2_with fail
    refine (Try.strings_Contains _ _ m _ ?_ hm).mono ?_
    · decide
    rintro e w' ⟨rfl, rfl⟩
    generalize hq : Lib.contains _ _ = q
    have H3 : Hid (q = isWordB s.data.toList) := by
      rw [← H2.out, ← hq]; congr 1
    clear hq
    go_wp2
    go_ret
    exact ⟨ret_bool H3.out, rfl⟩
def isNameB (s : ByteArray) : Bool := match s.data.toList with
  | [] => false
  | c :: r => decide ((c :: r).length ≤ 16) && letterB c && (c :: r).all withinB && !isWordB (c :: r)
theorem takeWhile_all {α : Type} (p : α → Bool) (l : List α) : ((l.takeWhile p).length = l.length) = (l.all p = true) := by
  induction l with
  | nil => simp
  | cons a l ih =>
    by_cases h : p a = true
    · simp [List.takeWhile_cons_of_pos h, h]; simpa using ih
    · simp [List.takeWhile_cons_of_neg h, h]
theorem isName_any (s : ByteArray) (hs : s.size ≤ maxS) (m : Int) (w : World) (hm : w.cell? ⟨0, 0, none⟩ = some (.int .i64 m)) :
    Calls Try.prog 31 #[.string s] w fun e w' => e = .returned (.bool (isNameB s)) ∧ w = w' := by
  by_cases h0 : s.data.toList = []
  · have h1 : s.toList = [] := by rw [Lib.toList_data]; exact h0
    have H2 : Hid (isNameB s = false) := by unfold isNameB; rw [h0]; rfl
    clear h0
    go_enter Try.func31, Try.ntmps31
    go_wp2
    go_ret
    exact ⟨ret_bool H2.out.symm, rfl⟩
  have h1 : (!s.toList.isEmpty) = true := by rw [Lib.toList_data]; simpa using h0
  have h1' : ¬ s.toList = [] := by rw [Lib.toList_data]; exact h0
  obtain ⟨c, r, hcr⟩ : ∃ c r, s.data.toList = c :: r := by
    cases h : s.data.toList with
    | nil => exact absurd h h0
    | cons c r => exact ⟨c, r, rfl⟩
  have hsz : s.size = r.length + 1 := by
    have : s.size = s.data.toList.length := by simp
    rw [this, hcr]; rfl
  have hpos : 0 < s.size := by omega
  have H2 : Hid (isNameB s = (decide ((c :: r).length ≤ 16) && letterB c && (c :: r).all withinB && !isWordB (c :: r))) := by unfold isNameB; rw [hcr]; rfl
  have hc0 : s[0] = c := by
    have h2 : s.data[0]? = some s[0] := by rw [Array.getElem?_eq_getElem (by simpa using hpos)]; rfl
    have : s.data.toList[0]? = some s[0] := by rw [Array.getElem?_toList]; exact h2
    rw [hcr] at this; simpa using this.symm
  have h3 : (((s.data.toList.takeWhile withinB).length : Int) == (s.size : Int)) = (c :: r).all withinB := by
    have h2 : s.size = s.data.toList.length := by simp
    have := takeWhile_all withinB s.data.toList
    rw [Bool.eq_iff_iff, ← hcr, ← this, h2]; simp only [beq_iff_eq]; omega
  have HSZ := Lib.hid hsz
  have HCR := Lib.hid hcr
  have HC0 := Lib.hid hc0
  generalize hall : (c :: r).all withinB = ball at *
  have HW : Hid (isWordB (c :: r) = isWordB s.data.toList) := by rw [HCR.out]; rfl
  have HL : Hid ((c :: r).length = s.size) := by rw [HSZ.out]; rfl
  clear h0 hcr hsz hc0 hall
  go_enter Try.func31, Try.ntmps31
  go_wp2_with (first
    | (go_at_call 55; rw [HC0.out]; refine (begins_any _ _).mono ?_; rintro e w' ⟨rfl, rfl⟩)
    | (go_at_call 56; refine (run_any _ hs _).mono ?_; rintro e w' ⟨rfl, rfl⟩)
    | (go_at_call 58; refine (isWord_any _ ?_ m _ hm).mono ?_; · omega
       rintro e w' ⟨rfl, rfl⟩))
  all_goals go_ret
  all_goals refine ⟨ret_bool ?_, rfl⟩
  all_goals rw [H2.out, HW.out, HL.out]
  all_goals simp_all
  all_goals omega
theorem len_data (s : ByteArray) : s.data.toList.length = s.size := rfl
theorem isNameB_eq (s : ByteArray) (hpos : 0 < s.size) : isNameB s = (decide (s.size ≤ 16) && letterB s[0] && s.data.toList.all withinB && !isWordB s.data.toList) := by
  have h2 : s.size = s.data.toList.length := by simp
  have h3 : s.data.toList[0]? = some s[0] := by rw [Array.getElem?_toList, Array.getElem?_eq_getElem (by simpa using hpos)]; rfl
  unfold isNameB
  rw [h2]
  cases h : s.data.toList with
  | nil => rw [h] at h2; simp only [List.length_nil] at h2; omega
  | cons c r => rw [h] at h3; simp only [List.getElem?_cons_zero, Option.some.injEq] at h3; rw [← h3]
theorem refIsName_any (s : ByteArray) (hs : s.size ≤ maxS) (w : World) :
    Calls Try.prog 44 #[.string s] w fun e w' => e = .returned (.bool (isNameB s)) ∧ w = w' := by
  unfold maxS at hs
  by_cases hpos : 0 < s.size
  · have H2 := Lib.hid (isNameB_eq s hpos)
    by_cases hl : s.size ≤ 16
    · cases hlt : letterB s[0] with
      | false =>
        have H3 : Hid (isNameB s = false) := by show isNameB s = false; rw [H2.out, hlt]; simp
        go_enter Try.func44, Try.ntmps44
        go_wp2_with (go_at_call 67; refine (letter_any _ _).mono ?_; rintro e w' ⟨rfl, rfl⟩)
        go_ret
        exact ⟨ret_bool H3.out.symm, rfl⟩
      | true =>
        cases hwd : isWordB s.data.toList with
        | true =>
          have H3 : Hid (isNameB s = false) := by show isNameB s = false; rw [H2.out, hwd]; simp
          go_enter Try.func44, Try.ntmps44
          go_wp2_with (first
            | (go_at_call 67; refine (letter_any _ _).mono ?_; rintro e w' ⟨rfl, rfl⟩)
            | (go_at_call 68; refine (refIsWord_any _ _).mono ?_; rintro e w' ⟨rfl, rfl⟩))
          go_ret
          exact ⟨ret_bool H3.out.symm, rfl⟩
        | false =>
          have H3 : Hid (isNameB s = s.data.toList.all withinB) := by show isNameB s = _; rw [H2.out, hlt, hwd]; simp [hl]
          go_enter Try.func44, Try.ntmps44
          go_wp2_with (first
            | (go_at_call 67; refine (letter_any _ _).mono ?_; rintro e w' ⟨rfl, rfl⟩)
            | (go_at_call 68; refine (refIsWord_any _ _).mono ?_; rintro e w' ⟨rfl, rfl⟩))
          clear hlt hwd
          go_loop [3] (fun v3 => ∃ k : Nat, k ≤ s.size ∧ v3 = .int .i64 k ∧ s.data.toList.all withinB = (s.data.toList.drop k).all withinB) (fun v3 => s.size - (intOf v3).toNat)
          case atStart => exact ⟨0, by omega, rfl, rfl⟩
          case round =>
            obtain ⟨k, hk, rfl, hq⟩ := hrel
            have HQ := Lib.hid hq
            clear hq
            by_cases hlt : k < s.size
            · have HD : Hid (s.data.toList.drop k = s[k] :: s.data.toList.drop (k + 1)) := by
                have : s.data.toList.drop k = s[k] :: s.data.toList.drop (k + 1) := by rw [List.drop_eq_getElem_cons (by simpa using hlt)]; rfl
                exact this
              cases hw : withinB s[k] with
              | false =>
                go_wp2_with (go_at_call 69; refine (within_any _ _).mono ?_; rintro e w' ⟨rfl, rfl⟩)
                go_ret
                refine ⟨ret_bool ?_, rfl⟩
                rw [H3.out, HQ.out, HD.out]; simp [hw]
              | true =>
                go_wp2_with (go_at_call 69; refine (within_any _ _).mono ?_; rintro e w' ⟨rfl, rfl⟩)
                go_round
                case rel => exact ⟨k + 1, by omega, by go_num, by rw [HQ.out, HD.out]; simp [hw]⟩
                case measure => simp [intOf]; omega
            · have HD : Hid (s.data.toList.drop k = []) := List.drop_of_length_le (by simpa using hlt)
              go_wp2
              go_ret
              refine ⟨ret_bool ?_, rfl⟩
              rw [H3.out, HQ.out, HD.out]; rfl
    · go_enter Try.func44, Try.ntmps44
      go_wp2
      all_goals go_ret
      all_goals refine ⟨ret_bool ?_, rfl⟩
      all_goals rw [H2.out]; simp [hl]
  · have H2 : Hid (isNameB s = false) := by
      have h2 : s.data.toList = [] := by
        have : s.data.toList.length = 0 := by rw [len_data]; omega
        exact List.length_eq_zero_iff.1 this
      unfold isNameB; rw [h2]; rfl
    go_enter Try.func44, Try.ntmps44
    go_wp2
    all_goals go_ret
    all_goals exact ⟨ret_bool H2.out.symm, rfl⟩
end Go.Proofs.Ythhpcjoaogmhbaa
end
section
namespace Go.Proofs.Ythhpcjoaogmhbaa
open Go.RowKit
def idxB {α : Type} (p : α → Bool) : List α → Int
  | [] => -1
  | x :: l => if p x then 0 else if idxB p l = -1 then -1 else idxB p l + 1
theorem idxB_ge {α : Type} (p : α → Bool) : ∀ l : List α, -1 ≤ idxB p l
  | [] => Int.le_refl _
  | x :: l => by have := idxB_ge p l; unfold idxB; split; omega; split <;> omega
theorem idxB_any {α : Type} (p : α → Bool) : ∀ l : List α, decide (0 ≤ idxB p l) = l.any p
  | [] => rfl
  | x :: l => by
    have h := idxB_any p l
    have h2 := idxB_ge p l
    unfold idxB
    by_cases hx : p x = true
    · simp [hx]
    · rw [if_neg hx, List.any_cons, ← h]
      simp only [hx, Bool.false_or]
      split
      · rename_i h3; rw [h3]
      · rename_i h3; rw [Bool.eq_iff_iff]; simp; omega
theorem idxB_hit {α : Type} (p : α → Bool) : ∀ (l : List α) (k : Nat) (x : α), l[k]? = some x → p x = true → (∀ y ∈ l.take k, p y = false) → idxB p l = k
  | [], k, x, h, _, _ => by simp at h
  | y :: l, 0, x, h, hp, _ => by simp at h; subst h; simp [idxB, hp]
  | y :: l, k + 1, x, h, hp, hno => by
    have hy := hno y (by simp)
    have := idxB_hit p l k x (by simpa using h) hp (fun z hz => hno z (by simp [hz]))
    unfold idxB
    rw [if_neg (by simp [hy]), if_neg (by omega), this]; simp
theorem idxB_none {α : Type} (p : α → Bool) : ∀ (l : List α), (∀ y ∈ l, p y = false) → idxB p l = -1
  | [], _ => rfl
  | y :: l, hno => by
    have hy := hno y (by simp)
    unfold idxB
    rw [if_neg (by simp [hy]), if_pos (idxB_none p l fun z hz => hno z (by simp [hz]))]
theorem indexSlots_any {α : Type} (R : List Value → α → Prop) (l : List α) (p : α → Bool) (g : FuncId) (v : Value) (w : World) (hg : ∀ args W, (callFunc g args).run Try.prog W = .ok (.enter g args) W) (hlen : ∀ cs x, R cs x → cs.length = 2) (hv : RSl 2 R w (· < w.heap.size) v l)
    (HF : Hid (∀ (W : World) cs x, Below w.heap.size w W → x ∈ l → R cs x → Calls Try.prog g #[.agg cs.toArray] W fun e w' => e = .returned (.bool (p x)) ∧ Below W.heap.size W w')) :
    Calls Try.prog 81 #[v, .func (.func g) #[] #[]] w fun e w' => e = .returned (.int .i64 (idxB p l)) ∧ Below w.heap.size w w' := by
  obtain ⟨a, n, cap, rfl, hn, hcap, hmax, hel⟩ := hv
  have H := Lib.hid hel
  have HN := Lib.hid hn
  have HL := Lib.hid hlen
  unfold maxC at hmax
  clear hel hn hlen
  go_enter Try.func81, Try.ntmps81
  go_wp2
  go_loopw [8] (fun v8 w' => ∃ j : Nat, j ≤ n ∧ v8 = .int .i64 j ∧ Hid (∀ y ∈ l.take j, p y = false) ∧ Hid (Below w.heap.size w w')) (fun v8 _ => n - (intOf v8).toNat)
  case atStart => exact ⟨0, by omega, rfl, (by show ∀ y ∈ l.take 0, p y = false; simp), Below.refl _ _⟩
  case round =>
    obtain ⟨j, hj, rfl, HP, HB⟩ := hrel
    by_cases hlt : j < n
    · obtain ⟨x, hx⟩ : ∃ x, l[j]? = some x := ⟨_, List.getElem?_eq_getElem (by rw [HN.out]; exact hlt)⟩
      have HX := Lib.hid hx
      clear hx
      obtain ⟨b, off, cs, rfl, hbl, hc, hr⟩ := H.out j _ HX.out
      obtain ⟨u0, u1, rfl⟩ := len2 (HL.out _ _ hr)
      have HR := Lib.hid hr
      have HC := cellsAt_of_block (HB.out.block b hbl) hc
      simp only [cellsAt, and_true] at HC
      obtain ⟨c0, c1⟩ := HC
      clear hc hr
      go_wp2_with fail
      refine (HF.out _ _ _ HB.out (List.mem_of_getElem? HX.out) HR.out).mono ?_
      rintro e w1 ⟨rfl, hb1⟩
      have HB1 : Hid (Below w.heap.size w w1) := HB.out.trans (hb1.mono HB.out.size)
      clear hb1
      cases hp : p x with
      | true =>
        go_wp2
        go_ret
        exact ⟨by rw [idxB_hit p l j x HX.out hp HP.out]; rfl, HB1.out⟩
      | false =>
        go_wp2
        refine ⟨⟨j + 1, by omega, by go_num, ?_, HB1⟩, by simp [intOf]; omega⟩
        show ∀ y ∈ l.take (j + 1), p y = false
        rw [List.take_add_one, HX.out]
        intro y hy
        simp only [Option.toList_some, List.mem_append, List.mem_singleton] at hy
        rcases hy with hy | rfl
        · exact HP.out y hy
        · exact hp
    · obtain rfl : j = n := by omega
      have et := List.take_of_length_le (l := l) (i := j) (by rw [HN.out]; exact Nat.le_refl _)
      have HE : Hid (idxB p l = -1) := idxB_none p l (by have := HP.out; rw [et] at this; exact this)
      clear et
      go_wp2
      go_ret
      exact ⟨by rw [HE.out]; rfl, HB.out⟩
theorem indexExprs_any {α : Type} (R : List Value → α → Prop) (l : List α) (p : α → Bool) (g : FuncId) (v : Value) (w : World) (hg : ∀ args W, (callFunc g args).run Try.prog W = .ok (.enter g args) W) (hlen : ∀ cs x, R cs x → cs.length = 4) (hv : RSl 4 R w (· < w.heap.size) v l)
    (HF : Hid (∀ (W : World) cs x, Below w.heap.size w W → x ∈ l → R cs x → Calls Try.prog g #[.agg cs.toArray] W fun e w' => e = .returned (.bool (p x)) ∧ Below W.heap.size W w')) :
    Calls Try.prog 85 #[v, .func (.func g) #[] #[]] w fun e w' => e = .returned (.int .i64 (idxB p l)) ∧ Below w.heap.size w w' := by
  obtain ⟨a, n, cap, rfl, hn, hcap, hmax, hel⟩ := hv
  have H := Lib.hid hel
  have HN := Lib.hid hn
  have HL := Lib.hid hlen
  unfold maxC at hmax
  clear hel hn hlen
  go_enter Try.func85, Try.ntmps85
  go_wp2
  go_loopw [8] (fun v8 w' => ∃ j : Nat, j ≤ n ∧ v8 = .int .i64 j ∧ Hid (∀ y ∈ l.take j, p y = false) ∧ Hid (Below w.heap.size w w')) (fun v8 _ => n - (intOf v8).toNat)
  case atStart => exact ⟨0, by omega, rfl, (by show ∀ y ∈ l.take 0, p y = false; simp), Below.refl _ _⟩
  case round =>
    obtain ⟨j, hj, rfl, HP, HB⟩ := hrel
    by_cases hlt : j < n
    · obtain ⟨x, hx⟩ : ∃ x, l[j]? = some x := ⟨_, List.getElem?_eq_getElem (by rw [HN.out]; exact hlt)⟩
      have HX := Lib.hid hx
      clear hx
      obtain ⟨b, off, cs, rfl, hbl, hc, hr⟩ := H.out j _ HX.out
      obtain ⟨u0, u1, u2, u3, rfl⟩ := len4 (HL.out _ _ hr)
      have HR := Lib.hid hr
      have HC := cellsAt_of_block (HB.out.block b hbl) hc
      simp only [cellsAt, and_true] at HC
      obtain ⟨c0, c1, c2, c3⟩ := HC
      clear hc hr
      go_wp2_with fail
      refine (HF.out _ _ _ HB.out (List.mem_of_getElem? HX.out) HR.out).mono ?_
      rintro e w1 ⟨rfl, hb1⟩
      have HB1 : Hid (Below w.heap.size w w1) := HB.out.trans (hb1.mono HB.out.size)
      clear hb1
      cases hp : p x with
      | true =>
        go_wp2
        go_ret
        exact ⟨by rw [idxB_hit p l j x HX.out hp HP.out]; rfl, HB1.out⟩
      | false =>
        go_wp2
        refine ⟨⟨j + 1, by omega, by go_num, ?_, HB1⟩, by simp [intOf]; omega⟩
        show ∀ y ∈ l.take (j + 1), p y = false
        rw [List.take_add_one, HX.out]
        intro y hy
        simp only [Option.toList_some, List.mem_append, List.mem_singleton] at hy
        rcases hy with hy | rfl
        · exact HP.out y hy
        · exact hp
    · obtain rfl : j = n := by omega
      have et := List.take_of_length_le (l := l) (i := j) (by rw [HN.out]; exact Nat.le_refl _)
      have HE : Hid (idxB p l = -1) := idxB_none p l (by have := HP.out; rw [et] at this; exact this)
      clear et
      go_wp2
      go_ret
      exact ⟨by rw [HE.out]; rfl, HB.out⟩
theorem indexStmts_any {α : Type} (R : List Value → α → Prop) (l : List α) (p : α → Bool) (g : FuncId) (v : Value) (w : World) (hg : ∀ args W, (callFunc g args).run Try.prog W = .ok (.enter g args) W) (hlen : ∀ cs x, R cs x → cs.length = 7) (hv : RSl 7 R w (· < w.heap.size) v l)
    (HF : Hid (∀ (W : World) cs x, Below w.heap.size w W → x ∈ l → R cs x → Calls Try.prog g #[.agg cs.toArray] W fun e w' => e = .returned (.bool (p x)) ∧ Below W.heap.size W w')) :
    Calls Try.prog 72 #[v, .func (.func g) #[] #[]] w fun e w' => e = .returned (.int .i64 (idxB p l)) ∧ Below w.heap.size w w' := by
  obtain ⟨a, n, cap, rfl, hn, hcap, hmax, hel⟩ := hv
  have H := Lib.hid hel
  have HN := Lib.hid hn
  have HL := Lib.hid hlen
  unfold maxC at hmax
  clear hel hn hlen
  go_enter Try.func72, Try.ntmps72
  go_wp2
  go_loopw [8] (fun v8 w' => ∃ j : Nat, j ≤ n ∧ v8 = .int .i64 j ∧ Hid (∀ y ∈ l.take j, p y = false) ∧ Hid (Below w.heap.size w w')) (fun v8 _ => n - (intOf v8).toNat)
  case atStart => exact ⟨0, by omega, rfl, (by show ∀ y ∈ l.take 0, p y = false; simp), Below.refl _ _⟩
  case round =>
    obtain ⟨j, hj, rfl, HP, HB⟩ := hrel
    by_cases hlt : j < n
    · obtain ⟨x, hx⟩ : ∃ x, l[j]? = some x := ⟨_, List.getElem?_eq_getElem (by rw [HN.out]; exact hlt)⟩
      have HX := Lib.hid hx
      clear hx
      obtain ⟨b, off, cs, rfl, hbl, hc, hr⟩ := H.out j _ HX.out
      obtain ⟨u0, u1, u2, u3, u4, u5, u6, rfl⟩ := len7 (HL.out _ _ hr)
      have HR := Lib.hid hr
      have HC := cellsAt_of_block (HB.out.block b hbl) hc
      simp only [cellsAt, and_true] at HC
      obtain ⟨c0, c1, c2, c3, c4, c5, c6⟩ := HC
      clear hc hr
      go_wp2_with fail
      refine (HF.out _ _ _ HB.out (List.mem_of_getElem? HX.out) HR.out).mono ?_
      rintro e w1 ⟨rfl, hb1⟩
      have HB1 : Hid (Below w.heap.size w w1) := HB.out.trans (hb1.mono HB.out.size)
      clear hb1
      cases hp : p x with
      | true =>
        go_wp2
        go_ret
        exact ⟨by rw [idxB_hit p l j x HX.out hp HP.out]; rfl, HB1.out⟩
      | false =>
        go_wp2
        refine ⟨⟨j + 1, by omega, by go_num, ?_, HB1⟩, by simp [intOf]; omega⟩
        show ∀ y ∈ l.take (j + 1), p y = false
        rw [List.take_add_one, HX.out]
        intro y hy
        simp only [Option.toList_some, List.mem_append, List.mem_singleton] at hy
        rcases hy with hy | rfl
        · exact HP.out y hy
        · exact hp
    · obtain rfl : j = n := by omega
      have et := List.take_of_length_le (l := l) (i := j) (by rw [HN.out]; exact Nat.le_refl _)
      have HE : Hid (idxB p l = -1) := idxB_none p l (by have := HP.out; rw [et] at this; exact this)
      clear et
      go_wp2
      go_ret
      exact ⟨by rw [HE.out]; rfl, HB.out⟩
theorem containsSlots_any {α : Type} (R : List Value → α → Prop) (l : List α) (p : α → Bool) (g : FuncId) (v : Value) (w : World) (hg : ∀ args W, (callFunc g args).run Try.prog W = .ok (.enter g args) W) (hlen : ∀ cs x, R cs x → cs.length = 2) (hv : RSl 2 R w (· < w.heap.size) v l)
    (HF : Hid (∀ (W : World) cs x, Below w.heap.size w W → x ∈ l → R cs x → Calls Try.prog g #[.agg cs.toArray] W fun e w' => e = .returned (.bool (p x)) ∧ Below W.heap.size W w')) :
    Calls Try.prog 59 #[v, .func (.func g) #[] #[]] w fun e w' => e = .returned (.bool (l.any p)) ∧ Below w.heap.size w w' := by
  have HL := Lib.hid hlen
  have HV := Lib.hid hv
  clear hlen hv
  have HG := Lib.hid hg
  clear hg
  go_enter Try.func59, Try.ntmps59
  go_wp2_with fail
  refine (indexSlots_any R l p g v w HG.out HL.out HV.out HF).mono ?_
  rintro e w' ⟨rfl, hb⟩
  have HB := Lib.hid hb
  clear hb
  go_wp2
  go_ret
  exact ⟨by rw [← idxB_any]; rfl, HB.out⟩
theorem containsExprs_any {α : Type} (R : List Value → α → Prop) (l : List α) (p : α → Bool) (g : FuncId) (v : Value) (w : World) (hg : ∀ args W, (callFunc g args).run Try.prog W = .ok (.enter g args) W) (hlen : ∀ cs x, R cs x → cs.length = 4) (hv : RSl 4 R w (· < w.heap.size) v l)
    (HF : Hid (∀ (W : World) cs x, Below w.heap.size w W → x ∈ l → R cs x → Calls Try.prog g #[.agg cs.toArray] W fun e w' => e = .returned (.bool (p x)) ∧ Below W.heap.size W w')) :
    Calls Try.prog 76 #[v, .func (.func g) #[] #[]] w fun e w' => e = .returned (.bool (l.any p)) ∧ Below w.heap.size w w' := by
  have HL := Lib.hid hlen
  have HV := Lib.hid hv
  clear hlen hv
  have HG := Lib.hid hg
  clear hg
  go_enter Try.func76, Try.ntmps76
  go_wp2_with fail
  refine (indexExprs_any R l p g v w HG.out HL.out HV.out HF).mono ?_
  rintro e w' ⟨rfl, hb⟩
  have HB := Lib.hid hb
  clear hb
  go_wp2
  go_ret
  exact ⟨by rw [← idxB_any]; rfl, HB.out⟩
theorem containsStmts_any {α : Type} (R : List Value → α → Prop) (l : List α) (p : α → Bool) (g : FuncId) (v : Value) (w : World) (hg : ∀ args W, (callFunc g args).run Try.prog W = .ok (.enter g args) W) (hlen : ∀ cs x, R cs x → cs.length = 7) (hv : RSl 7 R w (· < w.heap.size) v l)
    (HF : Hid (∀ (W : World) cs x, Below w.heap.size w W → x ∈ l → R cs x → Calls Try.prog g #[.agg cs.toArray] W fun e w' => e = .returned (.bool (p x)) ∧ Below W.heap.size W w')) :
    Calls Try.prog 52 #[v, .func (.func g) #[] #[]] w fun e w' => e = .returned (.bool (l.any p)) ∧ Below w.heap.size w w' := by
  have HL := Lib.hid hlen
  have HV := Lib.hid hv
  clear hlen hv
  have HG := Lib.hid hg
  clear hg
  go_enter Try.func52, Try.ntmps52
  go_wp2_with fail
  refine (indexStmts_any R l p g v w HG.out HL.out HV.out HF).mono ?_
  rintro e w' ⟨rfl, hb⟩
  have HB := Lib.hid hb
  clear hb
  go_wp2
  go_ret
  exact ⟨by rw [← idxB_any]; rfl, HB.out⟩
end Go.Proofs.Ythhpcjoaogmhbaa
end
section
namespace Go.Proofs.Ythhpcjoaogmhbaa
open Go.RowKit
def isTypeB (s : ByteArray) : Bool := s.data.toList == [105, 110, 116] || s.data.toList == [105, 110, 116, 91, 93] || isNameB s
def slotB (x : Slot) : Bool := isTypeB x.type && isNameB x.name
def HasMax (w : World) : Prop := ∃ m, w.cell? ⟨0, 0, none⟩ = some (.int .i64 m)
theorem HasMax.keep {w w' : World} (h : HasMax w) (hb : Below w.heap.size w w') : HasMax w' :=
  let ⟨m, hm⟩ := h
  ⟨m, (hb.cell (p := ⟨0, 0, none⟩) (cell_lt hm)).trans hm⟩
theorem name_in {w : World} (hM : HasMax w) (s : ByteArray) (hs : s.size ≤ maxS) : Calls Try.prog 31 #[.string s] w fun e w' => e = .returned (.bool (isNameB s)) ∧ w = w' :=
  let ⟨m, hm⟩ := hM
  isName_any s hs m w hm
theorem typ_any (s : ByteArray) (hs : s.size ≤ maxS) (w : World) (hM : HasMax w) : Calls Try.prog 61 #[.string s] w fun e w' => e = .returned (.bool (isTypeB s)) ∧ w = w' := by
  cases h1 : s.data.toList == [105, 110, 116] with
  | true =>
    have k1 : (s.toList == [105, 110, 116]) = true := by rw [Lib.toList_data]; exact h1
    have H := Lib.hid (show isTypeB s = true by simp only [isTypeB, h1]; rfl)
    clear h1
    go_enter Try.func61, Try.ntmps61
    go_wp2
    go_ret
    exact ⟨ret_bool H.out.symm, rfl⟩
  | false =>
    cases h2 : s.data.toList == [105, 110, 116, 91, 93] with
    | true =>
      have k1 : (s.toList == [105, 110, 116]) = false := by rw [Lib.toList_data]; exact h1
      have k2 : (s.toList == [105, 110, 116, 91, 93]) = true := by rw [Lib.toList_data]; exact h2
      have H := Lib.hid (show isTypeB s = true by simp only [isTypeB, h1, h2]; rfl)
      clear h1 h2
      go_enter Try.func61, Try.ntmps61
      go_wp2
      go_ret
      exact ⟨ret_bool H.out.symm, rfl⟩
    | false =>
      have k1 : (s.toList == [105, 110, 116]) = false := by rw [Lib.toList_data]; exact h1
      have k2 : (s.toList == [105, 110, 116, 91, 93]) = false := by rw [Lib.toList_data]; exact h2
      have H := Lib.hid (show isTypeB s = isNameB s by simp only [isTypeB, h1, h2, Bool.false_or])
      clear h1 h2
      go_enter Try.func61, Try.ntmps61
      go_wp2_with fail
      refine (name_in hM s hs).mono ?_
      rintro e w' ⟨rfl, rfl⟩
      go_wp2
      all_goals go_ret
      all_goals exact ⟨ret_bool H.out.symm, rfl⟩
theorem refType_any (s : ByteArray) (hs : s.size ≤ maxS) (w : World) : Calls Try.prog 46 #[.string s] w fun e w' => e = .returned (.bool (isTypeB s)) ∧ w = w' := by
  cases h1 : s.data.toList == [105, 110, 116] with
  | true =>
    have k1 : (s.toList == [105, 110, 116]) = true := by rw [Lib.toList_data]; exact h1
    have H := Lib.hid (show isTypeB s = true by simp only [isTypeB, h1]; rfl)
    clear h1
    go_enter Try.func46, Try.ntmps46
    go_wp2
    go_ret
    exact ⟨ret_bool H.out.symm, rfl⟩
  | false =>
    cases h2 : s.data.toList == [105, 110, 116, 91, 93] with
    | true =>
      have k1 : (s.toList == [105, 110, 116]) = false := by rw [Lib.toList_data]; exact h1
      have k2 : (s.toList == [105, 110, 116, 91, 93]) = true := by rw [Lib.toList_data]; exact h2
      have H := Lib.hid (show isTypeB s = true by simp only [isTypeB, h1, h2]; rfl)
      clear h1 h2
      go_enter Try.func46, Try.ntmps46
      go_wp2
      go_ret
      exact ⟨ret_bool H.out.symm, rfl⟩
    | false =>
      have k1 : (s.toList == [105, 110, 116]) = false := by rw [Lib.toList_data]; exact h1
      have k2 : (s.toList == [105, 110, 116, 91, 93]) = false := by rw [Lib.toList_data]; exact h2
      have H := Lib.hid (show isTypeB s = isNameB s by simp only [isTypeB, h1, h2, Bool.false_or])
      clear h1 h2
      go_enter Try.func46, Try.ntmps46
      go_wp2_with fail
      refine (refIsName_any s hs w).mono ?_
      rintro e w' ⟨rfl, rfl⟩
      go_wp2
      all_goals go_ret
      all_goals exact ⟨ret_bool H.out.symm, rfl⟩
theorem slot_any (a b : ByteArray) (ha : a.size ≤ maxS) (hb : b.size ≤ maxS) (w : World) (hM : HasMax w) :
    Calls Try.prog 33 #[.agg #[.string a, .string b]] w fun e w' => e = .returned (.bool (slotB ⟨a, b⟩)) ∧ Below w.heap.size w w' := by
  have HM := Lib.hid hM
  clear hM
  go_enter Try.func33, Try.ntmps33
  go_wp2_with fail
  refine (typ_any _ ha _ (HM.out.keep (by go_grown))).mono ?_
  rintro e w' ⟨rfl, rfl⟩
  cases h1 : isTypeB a with
  | false =>
    go_wp2
    go_ret
    exact ⟨ret_bool (by simp [slotB, h1]), by go_grown⟩
  | true =>
    go_wp2_with fail
    refine (name_in (HM.out.keep (by go_grown)) _ hb).mono ?_
    rintro e w' ⟨rfl, rfl⟩
    go_wp2
    all_goals go_ret
    all_goals exact ⟨ret_bool (by simp [slotB, h1]), by go_grown⟩
theorem slots1_any (a b : ByteArray) (ha : a.size ≤ maxS) (hb : b.size ≤ maxS) (w : World) (hM : HasMax w) :
    Calls Try.prog 60 #[.agg #[.string a, .string b]] w fun e w' => e = .returned (.bool (!slotB ⟨a, b⟩)) ∧ Below w.heap.size w w' := by
  have HM := Lib.hid hM
  clear hM
  go_enter Try.func60, Try.ntmps60
  go_wp2_with fail
  refine (slot_any _ _ ha hb _ (HM.out.keep (by go_grown))).mono ?_
  rintro e w' ⟨rfl, hb⟩
  have HB : Hid (Below w.heap.size w w') := afterCall (by go_grown) hb
  clear hb
  go_wp2
  go_ret
  exact ⟨rfl, HB.out⟩
theorem slots_any (w : World) (hM : HasMax w) (v : Value) (l : List Slot) (h : RSlots w (· < w.heap.size) v l) :
    Calls Try.prog 32 #[v] w fun e w' => e = .returned (.bool (l.all slotB)) ∧ Below w.heap.size w w' := by
  have HM := Lib.hid hM
  have H := Lib.hid h
  clear hM h
  have hg : ∀ args W, (callFunc 60 args).run Try.prog W = .ok (.enter 60 args) W := fun _ _ => by kernel_rfl
  go_enter Try.func32, Try.ntmps32
  go_wp2_with fail
  refine (containsSlots_any RSlot l (fun x => !slotB x) 60 v w hg (fun cs x hx => by rw [hx.1]; rfl) H.out ?_).mono ?_
  · intro W cs x hb _ hx
    obtain ⟨rfl, ha, hb'⟩ := hx
    exact slots1_any _ _ ha hb' W (HM.out.keep hb)
  rintro e w' ⟨rfl, hb⟩
  have HB := Lib.hid hb
  clear hb
  go_wp2
  go_ret
  refine ⟨ret_bool ?_, HB.out⟩
  rw [List.all_eq_not_any_not]
theorem maySlots_any (w : World) (v : Value) (l : List Slot) (h : RSlots w (· < w.heap.size) v l) :
    Calls Try.prog 45 #[v] w fun e w' => e = .returned (.bool (l.all slotB)) ∧ Below w.heap.size w w' := by
  obtain ⟨a, n, cap, rfl, hn, hcap, hmax, hel⟩ := h
  have H := Lib.hid hel
  have HN := Lib.hid hn
  unfold maxC at hmax
  clear hel hn
  go_enter Try.func45, Try.ntmps45
  go_wp2
  go_loopw [7] (fun v7 w' => ∃ j : Nat, j ≤ n ∧ v7 = .int .i64 j ∧ Hid (l.all slotB = (l.drop j).all slotB) ∧ Hid (Below w.heap.size w w')) (fun v7 _ => n - (intOf v7).toNat)
  case atStart => exact ⟨0, by omega, rfl, rfl, Below.refl _ _⟩
  case round =>
    obtain ⟨j, hj, rfl, HP, HB⟩ := hrel
    by_cases hlt : j < n
    · obtain ⟨x, hx⟩ : ∃ x, l[j]? = some x := ⟨_, List.getElem?_eq_getElem (by rw [HN.out]; exact hlt)⟩
      have HX := Lib.hid hx
      clear hx
      obtain ⟨b, off, cs, rfl, hbl, hc, hr⟩ := H.out j _ HX.out
      obtain ⟨rfl, ht, hn'⟩ := hr
      obtain ⟨c0, c1, -⟩ := cellsAt_of_block (HB.out.block b hbl) hc
      clear hc
      have HD : Hid (l.drop j = x :: l.drop (j + 1)) := drop_of_getElem? HX.out
      have HB1 : ∀ X, Hid (Below w.heap.size w (wr.alloc X)) := fun X => HB.out.alloc HB.out.size X
      cases h1 : isTypeB x.type with
      | false =>
        go_wp2_with (go_at_call 46; refine (refType_any _ ht _).mono ?_; rintro e w' ⟨rfl, rfl⟩)
        go_ret
        exact ⟨ret_bool (by rw [HP.out, HD.out]; simp [slotB, h1]), (HB1 _).out⟩
      | true =>
        cases h2 : isNameB x.name with
        | false =>
          go_wp2_with (first
            | (go_at_call 46; refine (refType_any _ ht _).mono ?_; rintro e w' ⟨rfl, rfl⟩)
            | (go_at_call 44; refine (refIsName_any _ hn' _).mono ?_; rintro e w' ⟨rfl, rfl⟩))
          go_ret
          exact ⟨ret_bool (by rw [HP.out, HD.out]; simp [slotB, h2]), (HB1 _).out⟩
        | true =>
          go_wp2_with (first
            | (go_at_call 46; refine (refType_any _ ht _).mono ?_; rintro e w' ⟨rfl, rfl⟩)
            | (go_at_call 44; refine (refIsName_any _ hn' _).mono ?_; rintro e w' ⟨rfl, rfl⟩))
          refine ⟨⟨j + 1, by omega, by go_num, ?_, HB1 _⟩, by simp [intOf]; omega⟩
          show l.all slotB = (l.drop (j + 1)).all slotB
          rw [HP.out, HD.out]; simp [slotB, h1, h2]
    · obtain rfl : j = n := by omega
      have HE : Hid (l.drop j = []) := List.drop_of_length_le (by rw [HN.out]; exact Nat.le_refl _)
      go_wp2
      go_ret
      exact ⟨ret_bool (by rw [HP.out, HE.out]; rfl), HB.out⟩
end Go.Proofs.Ythhpcjoaogmhbaa
end
section
namespace Go.Proofs.Ythhpcjoaogmhbaa
open Go.RowKit
structure Shape where
  least : Int
  most : Int
  name : Bool
  num : Int
  level : Int
  sign : ByteArray
def Shape.val (s : Shape) : Value := .agg #[.int .i64 s.least, .int .i64 s.most, .bool s.name, .int .i64 s.num, .int .i64 s.level, .string s.sign]
theorem of_1 (w : World) : Calls Try.prog 86 #[.int .i64 1] w fun e w' => e = .returned (.tuple #[Shape.val ⟨0, 0, false, 9223372036854775807, 4, ⟨#[]⟩⟩, .bool true]) ∧ Below w.heap.size w w' := by
  go_enter Try.func86, Try.ntmps86
  go_wp2
  skip
  go_returns
  exact ⟨rfl, by go_grown⟩
theorem of_2 (w : World) : Calls Try.prog 86 #[.int .i64 2] w fun e w' => e = .returned (.tuple #[Shape.val ⟨0, 0, false, 0, 4, ⟨#[]⟩⟩, .bool true]) ∧ Below w.heap.size w w' := by
  go_enter Try.func86, Try.ntmps86
  go_wp2
  skip
  go_returns
  exact ⟨rfl, by go_grown⟩
theorem of_3 (w : World) : Calls Try.prog 86 #[.int .i64 3] w fun e w' => e = .returned (.tuple #[Shape.val ⟨0, 0, false, 0, 4, ⟨#[]⟩⟩, .bool true]) ∧ Below w.heap.size w w' := by
  go_enter Try.func86, Try.ntmps86
  go_wp2
  skip
  go_returns
  exact ⟨rfl, by go_grown⟩
theorem of_4 (w : World) : Calls Try.prog 86 #[.int .i64 4] w fun e w' => e = .returned (.tuple #[Shape.val ⟨0, 0, true, 0, 4, ⟨#[]⟩⟩, .bool true]) ∧ Below w.heap.size w w' := by
  go_enter Try.func86, Try.ntmps86
  go_wp2
  skip
  go_returns
  exact ⟨rfl, by go_grown⟩
theorem of_5 (w : World) : Calls Try.prog 86 #[.int .i64 5] w fun e w' => e = .returned (.tuple #[Shape.val ⟨0, 0, true, 0, 4, ⟨#[]⟩⟩, .bool true]) ∧ Below w.heap.size w w' := by
  go_enter Try.func86, Try.ntmps86
  go_wp2
  skip
  go_returns
  exact ⟨rfl, by go_grown⟩
theorem of_6 (w : World) : Calls Try.prog 86 #[.int .i64 6] w fun e w' => e = .returned (.tuple #[Shape.val ⟨1, 1, false, 0, 4, ⟨#[]⟩⟩, .bool true]) ∧ Below w.heap.size w w' := by
  go_enter Try.func86, Try.ntmps86
  go_wp2
  skip
  go_returns
  exact ⟨rfl, by go_grown⟩
theorem of_7 (w : World) : Calls Try.prog 86 #[.int .i64 7] w fun e w' => e = .returned (.tuple #[Shape.val ⟨1, 1, true, 0, 4, ⟨#[]⟩⟩, .bool true]) ∧ Below w.heap.size w w' := by
  go_enter Try.func86, Try.ntmps86
  go_wp2
  skip
  go_returns
  exact ⟨rfl, by go_grown⟩
theorem of_8 (w : World) : Calls Try.prog 86 #[.int .i64 8] w fun e w' => e = .returned (.tuple #[Shape.val ⟨2, 2, false, 0, 4, ⟨#[]⟩⟩, .bool true]) ∧ Below w.heap.size w w' := by
  go_enter Try.func86, Try.ntmps86
  go_wp2
  skip
  go_returns
  exact ⟨rfl, by go_grown⟩
theorem of_9 (w : World) : Calls Try.prog 86 #[.int .i64 9] w fun e w' => e = .returned (.tuple #[Shape.val ⟨1, 1, false, 0, 4, ⟨#[]⟩⟩, .bool true]) ∧ Below w.heap.size w w' := by
  go_enter Try.func86, Try.ntmps86
  go_wp2
  skip
  go_returns
  exact ⟨rfl, by go_grown⟩
theorem of_10 (w : World) : Calls Try.prog 86 #[.int .i64 10] w fun e w' => e = .returned (.tuple #[Shape.val ⟨1, 5, true, 0, 4, ⟨#[]⟩⟩, .bool true]) ∧ Below w.heap.size w w' := by
  go_enter Try.func86, Try.ntmps86
  go_wp2
  skip
  go_returns
  exact ⟨rfl, by go_grown⟩
theorem of_11 (w : World) : Calls Try.prog 86 #[.int .i64 11] w fun e w' => e = .returned (.tuple #[Shape.val ⟨0, 0, false, 99, 4, ⟨#[]⟩⟩, .bool true]) ∧ Below w.heap.size w w' := by
  go_enter Try.func86, Try.ntmps86
  go_wp2
  skip
  go_returns
  exact ⟨rfl, by go_grown⟩
theorem of_12 (w : World) : Calls Try.prog 86 #[.int .i64 12] w fun e w' => e = .returned (.tuple #[Shape.val ⟨1, 1, false, 0, 4, ⟨#[]⟩⟩, .bool true]) ∧ Below w.heap.size w w' := by
  go_enter Try.func86, Try.ntmps86
  go_wp2
  skip
  go_returns
  exact ⟨rfl, by go_grown⟩
theorem of_13 (w : World) : Calls Try.prog 86 #[.int .i64 13] w fun e w' => e = .returned (.tuple #[Shape.val ⟨2, 2, false, 0, 2, ⟨#[32, 43, 32]⟩⟩, .bool true]) ∧ Below w.heap.size w w' := by
  go_enter Try.func86, Try.ntmps86
  go_wp2
  (go_region; go_wp2)
  go_returns
  exact ⟨rfl, by go_grown⟩
theorem of_14 (w : World) : Calls Try.prog 86 #[.int .i64 14] w fun e w' => e = .returned (.tuple #[Shape.val ⟨2, 2, false, 0, 2, ⟨#[32, 45, 32]⟩⟩, .bool true]) ∧ Below w.heap.size w w' := by
  go_enter Try.func86, Try.ntmps86
  go_wp2
  (go_region; go_wp2)
  go_returns
  exact ⟨rfl, by go_grown⟩
theorem of_15 (w : World) : Calls Try.prog 86 #[.int .i64 15] w fun e w' => e = .returned (.tuple #[Shape.val ⟨2, 2, false, 0, 3, ⟨#[32, 42, 32]⟩⟩, .bool true]) ∧ Below w.heap.size w w' := by
  go_enter Try.func86, Try.ntmps86
  go_wp2
  (go_region; go_wp2)
  go_returns
  exact ⟨rfl, by go_grown⟩
theorem of_16 (w : World) : Calls Try.prog 86 #[.int .i64 16] w fun e w' => e = .returned (.tuple #[Shape.val ⟨2, 2, false, 0, 3, ⟨#[32, 47, 32]⟩⟩, .bool true]) ∧ Below w.heap.size w w' := by
  go_enter Try.func86, Try.ntmps86
  go_wp2
  (go_region; go_wp2)
  go_returns
  exact ⟨rfl, by go_grown⟩
theorem of_17 (w : World) : Calls Try.prog 86 #[.int .i64 17] w fun e w' => e = .returned (.tuple #[Shape.val ⟨2, 2, false, 0, 1, ⟨#[32, 60, 32]⟩⟩, .bool true]) ∧ Below w.heap.size w w' := by
  go_enter Try.func86, Try.ntmps86
  go_wp2
  (go_region; go_wp2)
  go_returns
  exact ⟨rfl, by go_grown⟩
theorem of_18 (w : World) : Calls Try.prog 86 #[.int .i64 18] w fun e w' => e = .returned (.tuple #[Shape.val ⟨2, 2, false, 0, 1, ⟨#[32, 61, 61, 32]⟩⟩, .bool true]) ∧ Below w.heap.size w w' := by
  go_enter Try.func86, Try.ntmps86
  go_wp2
  (go_region; go_wp2)
  go_returns
  exact ⟨rfl, by go_grown⟩
def shapes : List Shape := [
  ⟨0, 0, false, 9223372036854775807, 4, ⟨#[]⟩⟩,
  ⟨0, 0, false, 0, 4, ⟨#[]⟩⟩,
  ⟨0, 0, false, 0, 4, ⟨#[]⟩⟩,
  ⟨0, 0, true, 0, 4, ⟨#[]⟩⟩,
  ⟨0, 0, true, 0, 4, ⟨#[]⟩⟩,
  ⟨1, 1, false, 0, 4, ⟨#[]⟩⟩,
  ⟨1, 1, true, 0, 4, ⟨#[]⟩⟩,
  ⟨2, 2, false, 0, 4, ⟨#[]⟩⟩,
  ⟨1, 1, false, 0, 4, ⟨#[]⟩⟩,
  ⟨1, 5, true, 0, 4, ⟨#[]⟩⟩,
  ⟨0, 0, false, 99, 4, ⟨#[]⟩⟩,
  ⟨1, 1, false, 0, 4, ⟨#[]⟩⟩,
  ⟨2, 2, false, 0, 2, ⟨#[32, 43, 32]⟩⟩,
  ⟨2, 2, false, 0, 2, ⟨#[32, 45, 32]⟩⟩,
  ⟨2, 2, false, 0, 3, ⟨#[32, 42, 32]⟩⟩,
  ⟨2, 2, false, 0, 3, ⟨#[32, 47, 32]⟩⟩,
  ⟨2, 2, false, 0, 1, ⟨#[32, 60, 32]⟩⟩,
  ⟨2, 2, false, 0, 1, ⟨#[32, 61, 61, 32]⟩⟩]
def noShape : Shape := ⟨0, 0, false, 0, 4, ⟨#[]⟩⟩
def shapeOf (k : Int) : Shape × Bool := if 1 ≤ k ∧ k ≤ 18 then (shapes.getD (k - 1).toNat noShape, true) else (noShape, false)
theorem of_none (k : Int) (hk : ¬ (1 ≤ k ∧ k ≤ 18)) (w : World) : Calls Try.prog 86 #[.int .i64 k] w fun e w' => e = .returned (.tuple #[Shape.val noShape, .bool false]) ∧ Below w.heap.size w w' := by
  have h1 : (k == 1) = false := by simp; omega
  have h2 : (k == 2) = false := by simp; omega
  have h3 : (k == 3) = false := by simp; omega
  have h4 : (k == 4) = false := by simp; omega
  have h5 : (k == 5) = false := by simp; omega
  have h6 : (k == 6) = false := by simp; omega
  have h7 : (k == 7) = false := by simp; omega
  have h8 : (k == 8) = false := by simp; omega
  have h9 : (k == 9) = false := by simp; omega
  have h10 : (k == 10) = false := by simp; omega
  have h11 : (k == 11) = false := by simp; omega
  have h12 : (k == 12) = false := by simp; omega
  have h13 : (k == 13) = false := by simp; omega
  have h14 : (k == 14) = false := by simp; omega
  have h15 : (k == 15) = false := by simp; omega
  have h16 : (k == 16) = false := by simp; omega
  have h17 : (k == 17) = false := by simp; omega
  have h18 : (k == 18) = false := by simp; omega
  clear hk
  go_enter Try.func86, Try.ntmps86
  go_wp2
  go_returns
  exact ⟨rfl, by go_grown⟩
theorem of_any (k : Int) (w : World) : Calls Try.prog 86 #[.int .i64 k] w fun e w' => e = .returned (.tuple #[Shape.val (shapeOf k).1, .bool (shapeOf k).2]) ∧ Below w.heap.size w w' := by
  by_cases hk : 1 ≤ k ∧ k ≤ 18
  · have hcase : k = 1 ∨ k = 2 ∨ k = 3 ∨ k = 4 ∨ k = 5 ∨ k = 6 ∨ k = 7 ∨ k = 8 ∨ k = 9 ∨ k = 10 ∨ k = 11 ∨ k = 12 ∨ k = 13 ∨ k = 14 ∨ k = 15 ∨ k = 16 ∨ k = 17 ∨ k = 18 := by omega
    rcases hcase with rfl | rfl | rfl | rfl | rfl | rfl | rfl | rfl | rfl | rfl | rfl | rfl | rfl | rfl | rfl | rfl | rfl | rfl
    · exact of_1 w
    · exact of_2 w
    · exact of_3 w
    · exact of_4 w
    · exact of_5 w
    · exact of_6 w
    · exact of_7 w
    · exact of_8 w
    · exact of_9 w
    · exact of_10 w
    · exact of_11 w
    · exact of_12 w
    · exact of_13 w
    · exact of_14 w
    · exact of_15 w
    · exact of_16 w
    · exact of_17 w
    · exact of_18 w
  · have h : shapeOf k = (noShape, false) := by unfold shapeOf; rw [if_neg hk]
    rw [h]
    exact of_none k hk w
end Go.Proofs.Ythhpcjoaogmhbaa
end
section
namespace Go.Proofs.Ythhpcjoaogmhbaa
open Go.RowKit
def exprTop (x : Expr) : Bool :=
  (shapeOf x.kind).2 && decide ((shapeOf x.kind).1.least ≤ x.kids.length) && decide ((x.kids.length : Int) ≤ (shapeOf x.kind).1.most) && decide (0 ≤ x.num) && decide (x.num ≤ (shapeOf x.kind).1.num) &&
    (if (shapeOf x.kind).1.name then isNameB x.name else x.name.data.toList.isEmpty)
mutual
def exprB : Expr → Bool | ⟨k, n, nm, kids⟩ => exprTop ⟨k, n, nm, kids⟩ && exprsB kids
def exprsB : List Expr → Bool | [] => true | x :: r => exprB x && exprsB r
end
theorem exprsB_all : ∀ l : List Expr, exprsB l = l.all exprB
  | [] => rfl
  | x :: r => by simp [exprsB, exprsB_all r]
theorem exprB_eq (x : Expr) : exprB x = (exprTop x && x.kids.all exprB) := by
  cases x; simp [exprB, exprsB_all]
theorem exprTop_eq (x : Expr) : exprTop x = ((shapeOf x.kind).2 && decide ((shapeOf x.kind).1.least ≤ x.kids.length) && decide ((x.kids.length : Int) ≤ (shapeOf x.kind).1.most) && decide (0 ≤ x.num) && decide (x.num ≤ (shapeOf x.kind).1.num) &&
    (if (shapeOf x.kind).1.name then isNameB x.name else x.name.data.toList.isEmpty)) := rfl
theorem expr1_any (w : World) (k n : Int) (s : ByteArray) (a : Option Addr) (m cap : Nat) (p : Bool) (h : ∀ W, Below w.heap.size w W → Calls Try.prog 78 #[.agg #[.int .i64 k, .int .i64 n, .string s, .slice a m cap]] W fun e w' => e = .returned (.bool p) ∧ Below W.heap.size W w') :
    Calls Try.prog 87 #[.agg #[.int .i64 k, .int .i64 n, .string s, .slice a m cap]] w fun e w' => e = .returned (.bool (!p)) ∧ Below w.heap.size w w' := by
  have H := Lib.hid h
  clear h
  go_enter Try.func87, Try.ntmps87
  go_wp2_with fail
  refine (H.out _ (by go_grown)).mono ?_
  rintro e w' ⟨rfl, hb⟩
  have HB : Hid (Below w.heap.size w w') := afterCall (by go_grown) hb
  clear hb
  go_wp2
  go_ret
  exact ⟨rfl, HB.out⟩
theorem expr_any (d : Nat) : ∀ (w : World) (cs : List Value) (x : Expr), HasMax w → RExpr d w (· < w.heap.size) cs x →
    Calls Try.prog 78 #[.agg cs.toArray] w fun e w' => e = .returned (.bool (exprB x)) ∧ Below w.heap.size w w' := by
  induction d using Nat.strongRecOn with
  | ind d ih =>
    intro w cs x hM hx
    obtain ⟨d', a', n', cap', hd, rfl, wk, wn, ws, hk⟩ := hx.inv
    have HM := Lib.hid hM
    have HK := Lib.hid hk
    have IH := Lib.hid ih
    have HT := Lib.hid (exprB_eq x)
    have HTT := Lib.hid (exprTop_eq x)
    obtain ⟨_, _, _, heq, hlen, _, hmx, _⟩ := HK.out
    cases heq
    unfold maxC at hmx
    have hg : ∀ args W, (callFunc 87 args).run Try.prog W = .ok (.enter 87 args) W := fun _ _ => by kernel_rfl
    have HG := Lib.hid hg
    have HL := Lib.hid hlen
    clear hM hk ih hx hg hlen
    go_enter Try.func78, Try.ntmps78
    go_wp2_with fail
    refine (of_any _ _).mono ?_
    rintro e w1 ⟨rfl, hb1⟩
    have HB1 : Hid (Below w.heap.size w w1) := afterCall (by go_grown) hb1
    have k0 : w1.cell? ⟨w.heap.size, 0, none⟩ = some (.int .i64 x.kind) := (hb1.cell (by simp)).trans (by simp)
    have k1 : w1.cell? ⟨w.heap.size, 1, none⟩ = some (.int .i64 x.num) := (hb1.cell (by simp)).trans (by simp)
    have k2 : w1.cell? ⟨w.heap.size, 2, none⟩ = some (.string x.name) := (hb1.cell (by simp)).trans (by simp)
    have k3 : w1.cell? ⟨w.heap.size, 3, none⟩ = some (.slice a' n' cap') := (hb1.cell (by simp)).trans (by simp)
    have hsz : w.heap.size < w1.heap.size := cell_lt k0
    clear hb1
    generalize shapeOf x.kind = so at *
    obtain ⟨⟨s0, s1, s2, s3, s4, s5⟩, ok⟩ := so
    simp only [Shape.val]
    go_wp2_with (first
      | (go_at_call 31; refine (name_in (HM.out.keep (HB1.out.alloc HB1.out.size _)) _ ws).mono ?_; rintro e w' ⟨rfl, rfl⟩))
    all_goals first
      | (go_ret
         refine ⟨ret_bool ?_, HB1.out.alloc HB1.out.size _⟩
         rw [HT.out, HTT.out, HL.out]
         simp [*]
         done)
      | (go_ret
         refine ⟨ret_bool ?_, HB1.out.alloc HB1.out.size _⟩
         rw [HT.out, HTT.out, HL.out]
         try (have hz := ‹(!x.name.toList.isEmpty) = true›; simp at hz)
         simp [*, ← Lib.toList_data]
         done)
      | (go_ret
         refine ⟨ret_bool ?_, HB1.out.alloc HB1.out.size _⟩
         rw [HT.out, HTT.out, HL.out]
         try (have hz := ‹(!x.name.toList.isEmpty) = true›; simp at hz)
         simp [*, ← Lib.toList_data]
         omega)
      | (have HTOP : Hid (exprTop x = true) := by
           show exprTop x = true
           rw [HTT.out, HL.out]
           try (have hz := ‹(!x.name.toList.isEmpty) = false›; simp at hz)
           simp [*, ← Lib.toList_data]
           try omega
         clear HTT
         have HB2 : Hid (∀ X, Below w.heap.size w (w1.alloc X)) := fun X => HB1.out.alloc HB1.out.size X
         refine (containsExprs_any (RExpr d' (w1.alloc _) (· < (w1.alloc _).heap.size)) x.kids (fun x => !exprB x) 87 _ _ HG.out ?_ (HK.out.mono (fun k hk => ?_) (fun k hk => ?_)) ?_).mono ?_
         · intro cs y hy; obtain ⟨_, _, _, _, _, rfl, _⟩ := hy.inv; rfl
         · exact Nat.lt_of_lt_of_le hk (HB2.out _).size
         · exact (HB2.out _).block k hk
         · intro W cs y hb hy hr
           obtain ⟨_, _, _, _, _, rfl, _⟩ := hr.inv
           refine expr1_any W _ _ _ _ _ _ _ (fun W' hb' => ?_)
           have hb2 : Below (w1.alloc _).heap.size (w1.alloc _) W' := hb.trans (hb'.mono hb.size)
           exact IH.out d' hd W' _ y ((HM.out.keep (HB2.out _)).keep hb2) (hr.mono (fun k hk => Nat.lt_of_lt_of_le hk hb2.size) (fun k hk => hb2.block k hk))
         rintro e w2 ⟨rfl, hb2⟩
         have HB3 : Hid (Below w.heap.size w w2) := afterCall (HB2.out _) hb2
         clear hb2
         go_wp2
         go_ret
         refine ⟨ret_bool ?_, HB3.out⟩
         rw [HT.out, HTOP.out, List.all_eq_not_any_not]
         simp)
end Go.Proofs.Ythhpcjoaogmhbaa
end
section
namespace Go.Proofs.Ythhpcjoaogmhbaa
open Go.RowKit
def exprsOf (k : Int) : Int × Int := if k = 1 then (0, 1) else if k = 2 then (2, 2) else if 3 ≤ k ∧ k ≤ 7 then (1, 1) else (-1, -1)
def stmtTop (x : Stmt) : Bool :=
  decide (0 ≤ (exprsOf x.kind).1) && decide ((exprsOf x.kind).1 ≤ x.exprs.length) && decide ((x.exprs.length : Int) ≤ (exprsOf x.kind).2) &&
  (if x.kind = 1 then isTypeB x.type && isNameB x.name else x.type.toList.isEmpty && x.name.toList.isEmpty) &&
  (if x.kind = 5 then decide (0 ≤ x.num) && decide (x.num ≤ 99) else x.num == 0) &&
  (x.kind == 3 || x.kind == 4 || x.thn.isEmpty) && (x.kind == 3 || x.els.isEmpty)
def isPlace (k : Int) : Bool := k == 4 || k == 7 || k == 8
def firstB (x : Stmt) : Bool := match x.exprs with
  | [] => true
  | e :: _ => if x.kind = 2 then isPlace e.kind else if x.kind = 7 then e.kind == 10 else true
mutual
def stmtB : Stmt → Bool | ⟨k, n, t, nm, es, th, el⟩ => stmtTop ⟨k, n, t, nm, es, th, el⟩ && es.all exprB && firstB ⟨k, n, t, nm, es, th, el⟩ && stmtsB th && stmtsB el
def stmtsB : List Stmt → Bool | [] => true | x :: r => stmtB x && stmtsB r
end
theorem stmtsB_all : ∀ l : List Stmt, stmtsB l = l.all stmtB
  | [] => rfl
  | x :: r => by simp [stmtsB, stmtsB_all r]
theorem stmtB_eq (x : Stmt) : stmtB x = (stmtTop x && x.exprs.all exprB && firstB x && x.thn.all stmtB && x.els.all stmtB) := by
  cases x; simp [stmtB, stmtsB_all]
theorem stmt1_any (k : Int) (w : World) : Calls Try.prog 73 #[.int .i64 k] w fun e w' => e = .returned (.bool (true)) ∧ w = w' := by
  go_enter Try.func73, Try.ntmps73
  go_wp2
  all_goals go_ret
  all_goals refine ⟨ret_bool ?_, rfl⟩
  all_goals simp_all
theorem stmt2_any (k : Int) (w : World) : Calls Try.prog 74 #[.int .i64 k] w fun e w' => e = .returned (.bool (isPlace k)) ∧ w = w' := by
  go_enter Try.func74, Try.ntmps74
  go_wp2
  all_goals go_ret
  all_goals refine ⟨ret_bool ?_, rfl⟩
  all_goals simp_all [isPlace]
theorem stmt3_any (k : Int) (w : World) : Calls Try.prog 75 #[.int .i64 k] w fun e w' => e = .returned (.bool (k == 10)) ∧ w = w' := by
  go_enter Try.func75, Try.ntmps75
  go_wp2
  all_goals go_ret
  all_goals refine ⟨ret_bool ?_, rfl⟩
  all_goals simp_all
theorem stmt4_any (d : Nat) (w : World) (hM : HasMax w) (cs : List Value) (x : Expr) (hx : RExpr d w (· < w.heap.size) cs x) :
    Calls Try.prog 77 #[.agg cs.toArray] w fun e w' => e = .returned (.bool (!exprB x)) ∧ Below w.heap.size w w' := by
  have HR := Lib.hid hx
  have HM := Lib.hid hM
  obtain ⟨d', a', n', cap', hd, rfl, -⟩ := hx.inv
  clear hx hM
  go_enter Try.func77, Try.ntmps77
  go_wp2_with fail
  (with_reducible refine (expr_any d _ [_, _, _, _] x (HM.out.keep ?_) (HR.out.mono ?_ ?_)).mono ?_)
  · go_grown
  · exact fun k hk => by simp; omega
  · exact fun k hk => Below.heap_alloc _ _ _ hk
  rintro e w' ⟨rfl, hb⟩
  have HB : Hid (Below w.heap.size w w') := afterCall (by go_grown) hb
  clear hb
  go_wp2
  go_ret
  exact ⟨rfl, HB.out⟩
theorem stmts1_any (w : World) (k n : Int) (t s : ByteArray) (a a' a'' : Option Addr) (m m' m'' cap cap' cap'' : Nat) (p : Bool)
    (h : ∀ W, Below w.heap.size w W → Calls Try.prog 54 #[.agg #[.int .i64 k, .int .i64 n, .string t, .string s, .slice a m cap, .slice a' m' cap', .slice a'' m'' cap'']] W fun e w' => e = .returned (.bool p) ∧ Below W.heap.size W w') :
    Calls Try.prog 53 #[.agg #[.int .i64 k, .int .i64 n, .string t, .string s, .slice a m cap, .slice a' m' cap', .slice a'' m'' cap'']] w fun e w' => e = .returned (.bool (!p)) ∧ Below w.heap.size w w' := by
  have H := Lib.hid h
  clear h
  go_enter Try.func53, Try.ntmps53
  go_wp2_with fail
  refine (H.out _ (by go_grown)).mono ?_
  rintro e w' ⟨rfl, hb⟩
  have HB : Hid (Below w.heap.size w w') := afterCall (by go_grown) hb
  clear hb
  go_wp2
  go_ret
  exact ⟨rfl, HB.out⟩
theorem stmts_of (d : Nat) (hS : ∀ (w : World) (cs : List Value) (x : Stmt), HasMax w → RStmt d w (· < w.heap.size) cs x → Calls Try.prog 54 #[.agg cs.toArray] w fun e w' => e = .returned (.bool (stmtB x)) ∧ Below w.heap.size w w')
    (w : World) (v : Value) (l : List Stmt) (hM : HasMax w) (h : RStmts d w (· < w.heap.size) v l) :
    Calls Try.prog 30 #[v] w fun e w' => e = .returned (.bool (l.all stmtB)) ∧ Below w.heap.size w w' := by
  have HM := Lib.hid hM
  have H := Lib.hid h
  have HS := Lib.hid hS
  clear hM h hS
  have hg : ∀ args W, (callFunc 53 args).run Try.prog W = .ok (.enter 53 args) W := fun _ _ => by kernel_rfl
  go_enter Try.func30, Try.ntmps30
  go_wp2_with fail
  refine (containsStmts_any (RStmt d w (· < w.heap.size)) l (fun x => !stmtB x) 53 v w hg (fun cs x hx => by obtain ⟨_, _, _, _, _, _, _, _, _, _, _, rfl, _⟩ := hx.inv; rfl) H.out ?_).mono ?_
  · intro W cs x hb _ hx
    obtain ⟨_, _, _, _, _, _, _, _, _, _, _, rfl, _⟩ := hx.inv
    refine stmts1_any W _ _ _ _ _ _ _ _ _ _ _ _ _ _ (fun W' hb' => ?_)
    have hb2 : Below w.heap.size w W' := hb.trans (hb'.mono hb.size)
    exact HS.out W' _ x (HM.out.keep hb2) (hx.mono (fun k hk => Nat.lt_of_lt_of_le hk hb2.size) (fun k hk => hb2.block k hk))
  rintro e w' ⟨rfl, hb⟩
  have HB := Lib.hid hb
  clear hb
  go_wp2
  go_ret
  refine ⟨ret_bool ?_, HB.out⟩
  rw [List.all_eq_not_any_not]
theorem first_of {x : Stmt} {e : Expr} (h : x.exprs[0]? = some e) : firstB x = if x.kind = 2 then isPlace e.kind else if x.kind = 7 then e.kind == 10 else true := by
  cases hx : x.exprs with
  | nil => rw [hx] at h; simp at h
  | cons a r => rw [hx] at h; simp at h; subst h; unfold firstB; rw [hx]
set_option maxHeartbeats 2000000 in
theorem stmt_any (d : Nat) : ∀ (w : World) (cs : List Value) (x : Stmt), HasMax w → RStmt d w (· < w.heap.size) cs x →
    Calls Try.prog 54 #[.agg cs.toArray] w fun e w' => e = .returned (.bool (stmtB x)) ∧ Below w.heap.size w w' := by
  induction d using Nat.strongRecOn with
  | ind d ih =>
    intro w cs x hM hx
    obtain ⟨d', a1, n1, cap1, a2, n2, cap2, a3, n3, cap3, hd, rfl, wk, wn, wt, ws, h4, h5, h6⟩ := hx.inv
    have HM := Lib.hid hM
    have IH := Lib.hid (stmts_of d' (ih d' hd))
    have HT := Lib.hid (stmtB_eq x)
    have HE := Lib.hid h4
    have H5 := Lib.hid h5
    have H6 := Lib.hid h6
    obtain ⟨_, _, _, heq, hl1, _, hm1, hel⟩ := h4
    cases heq
    obtain ⟨_, _, _, heq, hl2, _, hm2, _⟩ := h5
    cases heq
    obtain ⟨_, _, _, heq, hl3, _, hm3, _⟩ := h6
    cases heq
    unfold maxC at hm1 hm2 hm3
    have HEL := Lib.hid hel
    have HL1 := Lib.hid hl1
    have HL2 := Lib.hid hl2
    have HL3 := Lib.hid hl3
    have hg : ∀ args W, (callFunc 77 args).run Try.prog W = .ok (.enter 77 args) W := fun _ _ => by kernel_rfl
    have HG := Lib.hid hg
    clear ih hx hl1 hl2 hl3 hel wk wn hM hg
    by_cases k1 : x.kind = 1
    · have t1 : (x.kind == 1) = true := by simp [k1]
      have t1' : (x.kind != 1) = false := by simp [k1]
      have HC : Hid (stmtTop x = (decide (n1 ≤ 1) && slotB ⟨x.type, x.name⟩ && (x.num == 0) && (n2 == 0) && (n3 == 0))) := by
        show stmtTop x = _
        have e2 : x.thn.isEmpty = (n2 == 0) := by rw [← HL2.out]; cases x.thn <;> simp
        have e3 : x.els.isEmpty = (n3 == 0) := by rw [← HL3.out]; cases x.els <;> simp
        simp [stmtTop, exprsOf, k1, HL1.out, e2, e3, slotB]
        rw [Bool.eq_iff_iff]; simp; omega
      have HK : Hid (x.kind = 1) := k1
      clear k1
      go_enter Try.func54, Try.ntmps54
      go_wp2_with (first
        | (go_at_call 33; refine (slot_any _ _ wt ws _ (HM.out.keep (by go_grown))).mono ?_; rintro e w1 ⟨rfl, hb1⟩
           have HB1 : Hid (Below w.heap.size w w1) := afterCall (by go_grown) hb1
           have q1 : w1.cell? ⟨w.heap.size, 1, none⟩ = some (.int .i64 x.num) := (hb1.cell (by simp)).trans (by simp)
           have q4 : w1.cell? ⟨w.heap.size, 4, none⟩ = some (.slice a1 n1 cap1) := (hb1.cell (by simp)).trans (by simp)
           have q0 : w1.cell? ⟨w.heap.size, 0, none⟩ = some (.int .i64 x.kind) := (hb1.cell (by simp)).trans (by simp)
           have q5 : w1.cell? ⟨w.heap.size, 5, none⟩ = some (.slice a2 n2 cap2) := (hb1.cell (by simp)).trans (by simp)
           have q6 : w1.cell? ⟨w.heap.size, 6, none⟩ = some (.slice a3 n3 cap3) := (hb1.cell (by simp)).trans (by simp)
           clear hb1))
      all_goals first
        | (go_ret
           refine ⟨ret_bool ?_, by first | exact HB1.out | go_grown⟩
           rw [HT.out, HC.out]
           clear HT HC HEL HE H5 H6 IH HG HL1 HL2 HL3
           simp_all
           first | done | (intros; omega) | (intros; simp_all; done))
        | (have HTOP : Hid (stmtTop x = true) := by
             show stmtTop x = true
             rw [HC.out]
             clear HT HC HEL HE H5 H6 IH HG HL1 HL2 HL3
             simp_all
             first | done | (intros; omega) | (intros; simp_all; done)
           have hn1 : n1 = 0 ∨ n1 = 1 := by
             have : (↑n1 != min (↑n1 : Int) 1) = false := by assumption
             simp at this
             omega
           obtain ⟨wc, hwc⟩ : ∃ wc, wc = w1 := ⟨_, rfl⟩
           subst hwc
           have HBC := HB1
           rcases hn1 with rfl | rfl
           ·
             have Q0 := Lib.hid q0
             clear q0
             refine (containsExprs_any (RExpr d' wc (· < wc.heap.size)) x.exprs (fun x => !exprB x) 77 _ wc HG.out ?_ (HE.out.mono (fun k hk => Nat.lt_of_lt_of_le hk HBC.out.size) (fun k hk => HBC.out.block k hk)) ?_).mono ?_
             · intro cs y hy; obtain ⟨_, _, _, _, _, rfl, _⟩ := hy.inv; rfl
             · intro W cs y hb hy hr
               exact stmt4_any d' W ((HM.out.keep HBC.out).keep hb) cs y (hr.mono (fun k hk => Nat.lt_of_lt_of_le hk hb.size) (fun k hk => hb.block k hk))
             rintro e w2 ⟨rfl, hb2⟩
             have HB2 : Hid (Below w.heap.size w w2) := afterCall HBC.out hb2
             have r4 := next (o := 4) hb2 q4
             have r5 := next (o := 5) hb2 q5
             have r6 := next (o := 6) hb2 q6
             clear hb2 q4 q5 q6
             have HX : Hid (x.exprs.all exprB = !(x.exprs.any fun x => !exprB x)) := by show _ = _; rw [List.all_eq_not_any_not]
             cases hany : x.exprs.any fun x => !exprB x with
             | true =>
               have HR : Hid (stmtB x = false) := by show stmtB x = false; rw [HT.out, HX.out, hany]; simp
               go_wp2
               go_ret
               exact ⟨ret_bool HR.out.symm, HB2.out⟩
             | false =>
               have HX2 : Hid (x.exprs.all exprB = true) := by show _ = _; rw [HX.out, hany]; rfl
               have HF : Hid (firstB x = true) := by
                 have : x.exprs = [] := List.length_eq_zero_iff.1 HL1.out
                 show firstB x = true
                 unfold firstB; rw [this]
               go_wp2_with fail
               all_goals first
                 | (go_ret
                    refine ⟨ret_bool ?_, HB2.out⟩
                    rw [HT.out, HF.out]
                    simp only [*]
                    simp
                    done)
                 | (go_ret
                    refine ⟨ret_bool ?_, HB2.out⟩
                    rw [HT.out, HF.out]
                    clear HT HX HX2 HEL HE H5 H6 IH HG HL1 HL2 HL3
                    simp_all
                    done)
                 | (have HF2 : Hid (firstB x = true) := by
                      show firstB x = true
                      rw [HF.out]
                      all_goals (clear HT HX HX2 HEL HE H5 H6 IH HG HL1 HL2 HL3; simp_all)
                    refine (IH.out w2 _ x.thn (HM.out.keep HB2.out) (H5.out.mono (fun k hk => Nat.lt_of_lt_of_le hk HB2.out.size) (fun k hk => HB2.out.block k hk))).mono ?_
                    rintro e w3 ⟨rfl, hb3⟩
                    have HB3 := nextB hb3 HB2
                    have s6 := next (o := 6) hb3 r6
                    clear hb3 r4 r5 r6
                    cases hth : x.thn.all stmtB with
                    | false =>
                      go_wp2
                      go_ret
                      exact ⟨ret_bool (by rw [HT.out, hth]; simp), HB3.out⟩
                    | true =>
                      go_wp2_with fail
                      refine (IH.out w3 _ x.els (HM.out.keep HB3.out) (H6.out.mono (fun k hk => Nat.lt_of_lt_of_le hk HB3.out.size) (fun k hk => HB3.out.block k hk))).mono ?_
                      rintro e w4 ⟨rfl, hb4⟩
                      have HB4 := nextB hb4 HB3
                      clear hb4
                      go_wp2
                      go_ret
                      exact ⟨ret_bool (by rw [HT.out, HTOP.out, HX2.out, HF2.out, hth]; simp), HB4.out⟩)
           ·
             have Q0 := Lib.hid q0
             clear q0
             refine (containsExprs_any (RExpr d' wc (· < wc.heap.size)) x.exprs (fun x => !exprB x) 77 _ wc HG.out ?_ (HE.out.mono (fun k hk => Nat.lt_of_lt_of_le hk HBC.out.size) (fun k hk => HBC.out.block k hk)) ?_).mono ?_
             · intro cs y hy; obtain ⟨_, _, _, _, _, rfl, _⟩ := hy.inv; rfl
             · intro W cs y hb hy hr
               exact stmt4_any d' W ((HM.out.keep HBC.out).keep hb) cs y (hr.mono (fun k hk => Nat.lt_of_lt_of_le hk hb.size) (fun k hk => hb.block k hk))
             rintro e w2 ⟨rfl, hb2⟩
             have HB2 : Hid (Below w.heap.size w w2) := afterCall HBC.out hb2
             have r4 := next (o := 4) hb2 q4
             have r5 := next (o := 5) hb2 q5
             have r6 := next (o := 6) hb2 q6
             clear hb2 q4 q5 q6
             have HX : Hid (x.exprs.all exprB = !(x.exprs.any fun x => !exprB x)) := by show _ = _; rw [List.all_eq_not_any_not]
             cases hany : x.exprs.any fun x => !exprB x with
             | true =>
               have HR : Hid (stmtB x = false) := by show stmtB x = false; rw [HT.out, HX.out, hany]; simp
               go_wp2
               go_ret
               exact ⟨ret_bool HR.out.symm, HB2.out⟩
             | false =>
               have HX2 : Hid (x.exprs.all exprB = true) := by show _ = _; rw [HX.out, hany]; rfl
               obtain ⟨y, hy⟩ : ∃ y, x.exprs[0]? = some y := ⟨_, List.getElem?_eq_getElem (by rw [HL1.out]; omega)⟩
               have HF : Hid (firstB x = true) := by show firstB x = _; rw [first_of hy]; simp [HK.out]
               obtain ⟨b, off, cs, rfl, hbl, hc, hr⟩ := HEL.out 0 _ hy
               obtain ⟨_, _, _, _, _, rfl, -⟩ := hr.inv
               obtain ⟨c0, -⟩ := cellsAt_of_block (HB2.out.block b hbl) hc
               have c0' : w2.cell? ⟨b, off, none⟩ = some (.int .i64 y.kind) := by simpa using c0
               clear c0 hc hr hy
               go_wp2_with (go_at_call 73; refine (stmt1_any _ _).mono ?_; rintro e w' ⟨rfl, rfl⟩)
               all_goals first
                 | (go_ret
                    refine ⟨ret_bool ?_, HB2.out⟩
                    rw [HT.out, HF.out]
                    simp only [*]
                    simp
                    done)
                 | (go_ret
                    refine ⟨ret_bool ?_, HB2.out⟩
                    rw [HT.out, HF.out]
                    clear HT HX HX2 HEL HE H5 H6 IH HG HL1 HL2 HL3
                    simp_all
                    done)
                 | (have HF2 : Hid (firstB x = true) := by
                      show firstB x = true
                      rw [HF.out]
                      all_goals (clear HT HX HX2 HEL HE H5 H6 IH HG HL1 HL2 HL3; simp_all)
                    refine (IH.out w2 _ x.thn (HM.out.keep HB2.out) (H5.out.mono (fun k hk => Nat.lt_of_lt_of_le hk HB2.out.size) (fun k hk => HB2.out.block k hk))).mono ?_
                    rintro e w3 ⟨rfl, hb3⟩
                    have HB3 := nextB hb3 HB2
                    have s6 := next (o := 6) hb3 r6
                    clear hb3 r4 r5 r6
                    cases hth : x.thn.all stmtB with
                    | false =>
                      go_wp2
                      go_ret
                      exact ⟨ret_bool (by rw [HT.out, hth]; simp), HB3.out⟩
                    | true =>
                      go_wp2_with fail
                      refine (IH.out w3 _ x.els (HM.out.keep HB3.out) (H6.out.mono (fun k hk => Nat.lt_of_lt_of_le hk HB3.out.size) (fun k hk => HB3.out.block k hk))).mono ?_
                      rintro e w4 ⟨rfl, hb4⟩
                      have HB4 := nextB hb4 HB3
                      clear hb4
                      go_wp2
                      go_ret
                      exact ⟨ret_bool (by rw [HT.out, HTOP.out, HX2.out, HF2.out, hth]; simp), HB4.out⟩))
    have t1 : (x.kind == 1) = false := by simp [k1]
    have hcat : x.type.size + x.name.size ≤ 9223372036854775807 := by unfold maxS at wt ws; omega
    have hcat2 : (x.type ++ x.name).toList.isEmpty = (x.type.toList.isEmpty && x.name.toList.isEmpty) := by
      simp only [Lib.toList_data]; rw [Bool.eq_iff_iff]; simp
    by_cases k2 : x.kind = 2
    · have HC : Hid (stmtTop x = (decide ((2 : Int) ≤ n1) && decide ((n1 : Int) ≤ 2) && (x.type.toList.isEmpty && x.name.toList.isEmpty) && x.num == 0 && n2 == 0 && n3 == 0)) := by
        show stmtTop x = _
        have e2 : x.thn.isEmpty = (n2 == 0) := by rw [← HL2.out]; cases x.thn <;> simp
        have e3 : x.els.isEmpty = (n3 == 0) := by rw [← HL3.out]; cases x.els <;> simp
        simp [stmtTop, exprsOf, k2, HL1.out, e2, e3]
      have HK : Hid (x.kind = 2) := k2
      have t2 : (x.kind == 2) = true := by simp [k2]
      have t1' : (x.kind != 1) = true := by simp [k2]
      clear k2 k1
      go_enter Try.func54, Try.ntmps54
      go_wp2_with fail
      all_goals first
        | (go_ret
           refine ⟨ret_bool ?_, by go_grown⟩
           rw [HT.out, HC.out]
           clear HT HC HEL HE H5 H6 IH HG HL1 HL2 HL3
           simp_all
           first | done | (intros; omega) | (intros; simp_all; done))
        | (have HTOP : Hid (stmtTop x = true) := by
             show stmtTop x = true
             rw [HC.out]
             clear HT HC HEL HE H5 H6 IH HG HL1 HL2 HL3
             simp_all
             first | done | (intros; omega) | (intros; simp_all; done)
           have hn1 : 1 ≤ n1 := by
             have h0 := HTOP.out
             rw [HC.out] at h0
             simp at h0
             omega
           generalize hwc : w.alloc _ = wc
           have HBC : Hid (Below w.heap.size w wc) := by rw [← hwc]; show Below w.heap.size w _; go_grown
           have q0 : wc.cell? ⟨w.heap.size, 0, none⟩ = some (.int .i64 x.kind) := by rw [← hwc]; simp
           have q4 : wc.cell? ⟨w.heap.size, 4, none⟩ = some (.slice a1 n1 cap1) := by rw [← hwc]; simp
           have q5 : wc.cell? ⟨w.heap.size, 5, none⟩ = some (.slice a2 n2 cap2) := by rw [← hwc]; simp
           have q6 : wc.cell? ⟨w.heap.size, 6, none⟩ = some (.slice a3 n3 cap3) := by rw [← hwc]; simp
           clear hwc
           have Q0 := Lib.hid q0
           clear q0
           refine (containsExprs_any (RExpr d' wc (· < wc.heap.size)) x.exprs (fun x => !exprB x) 77 _ wc HG.out ?_ (HE.out.mono (fun k hk => Nat.lt_of_lt_of_le hk HBC.out.size) (fun k hk => HBC.out.block k hk)) ?_).mono ?_
           · intro cs y hy; obtain ⟨_, _, _, _, _, rfl, _⟩ := hy.inv; rfl
           · intro W cs y hb hy hr
             exact stmt4_any d' W ((HM.out.keep HBC.out).keep hb) cs y (hr.mono (fun k hk => Nat.lt_of_lt_of_le hk hb.size) (fun k hk => hb.block k hk))
           rintro e w2 ⟨rfl, hb2⟩
           have HB2 : Hid (Below w.heap.size w w2) := afterCall HBC.out hb2
           have r4 := next (o := 4) hb2 q4
           have r5 := next (o := 5) hb2 q5
           have r6 := next (o := 6) hb2 q6
           clear hb2 q4 q5 q6
           have HX : Hid (x.exprs.all exprB = !(x.exprs.any fun x => !exprB x)) := by show _ = _; rw [List.all_eq_not_any_not]
           cases hany : x.exprs.any fun x => !exprB x with
           | true =>
             have HR : Hid (stmtB x = false) := by show stmtB x = false; rw [HT.out, HX.out, hany]; simp
             go_wp2
             go_ret
             exact ⟨ret_bool HR.out.symm, HB2.out⟩
           | false =>
             have HX2 : Hid (x.exprs.all exprB = true) := by show _ = _; rw [HX.out, hany]; rfl
             obtain ⟨y, hy⟩ : ∃ y, x.exprs[0]? = some y := ⟨_, List.getElem?_eq_getElem (by rw [HL1.out]; omega)⟩
             have HF : Hid (firstB x = isPlace y.kind) := by show firstB x = _; rw [first_of hy]; simp [HK.out]
             obtain ⟨b, off, cs, rfl, hbl, hc, hr⟩ := HEL.out 0 _ hy
             obtain ⟨_, _, _, _, _, rfl, -⟩ := hr.inv
             obtain ⟨c0, -⟩ := cellsAt_of_block (HB2.out.block b hbl) hc
             have c0' : w2.cell? ⟨b, off, none⟩ = some (.int .i64 y.kind) := by simpa using c0
             clear c0 hc hr hy
             go_wp2_with (go_at_call 74; refine (stmt2_any _ _).mono ?_; rintro e w' ⟨rfl, rfl⟩)
             all_goals first
               | (go_ret
                  refine ⟨ret_bool ?_, HB2.out⟩
                  rw [HT.out, HF.out]
                  simp only [*]
                  simp
                  done)
               | (go_ret
                  refine ⟨ret_bool ?_, HB2.out⟩
                  rw [HT.out, HF.out]
                  clear HT HX HX2 HEL HE H5 H6 IH HG HL1 HL2 HL3
                  simp_all
                  done)
               | (have HF2 : Hid (firstB x = true) := by
                    show firstB x = true
                    rw [HF.out]
                    all_goals (clear HT HX HX2 HEL HE H5 H6 IH HG HL1 HL2 HL3; simp_all)
                  refine (IH.out w2 _ x.thn (HM.out.keep HB2.out) (H5.out.mono (fun k hk => Nat.lt_of_lt_of_le hk HB2.out.size) (fun k hk => HB2.out.block k hk))).mono ?_
                  rintro e w3 ⟨rfl, hb3⟩
                  have HB3 := nextB hb3 HB2
                  have s6 := next (o := 6) hb3 r6
                  clear hb3 r4 r5 r6
                  cases hth : x.thn.all stmtB with
                  | false =>
                    go_wp2
                    go_ret
                    exact ⟨ret_bool (by rw [HT.out, hth]; simp), HB3.out⟩
                  | true =>
                    go_wp2_with fail
                    refine (IH.out w3 _ x.els (HM.out.keep HB3.out) (H6.out.mono (fun k hk => Nat.lt_of_lt_of_le hk HB3.out.size) (fun k hk => HB3.out.block k hk))).mono ?_
                    rintro e w4 ⟨rfl, hb4⟩
                    have HB4 := nextB hb4 HB3
                    clear hb4
                    go_wp2
                    go_ret
                    exact ⟨ret_bool (by rw [HT.out, HTOP.out, HX2.out, HF2.out, hth]; simp), HB4.out⟩))
    have t2 : (x.kind == 2) = false := by simp [k2]
    by_cases k3 : x.kind = 3
    · have HC : Hid (stmtTop x = (decide ((1 : Int) ≤ n1) && decide ((n1 : Int) ≤ 1) && (x.type.toList.isEmpty && x.name.toList.isEmpty) && x.num == 0)) := by
        show stmtTop x = _
        have e2 : x.thn.isEmpty = (n2 == 0) := by rw [← HL2.out]; cases x.thn <;> simp
        have e3 : x.els.isEmpty = (n3 == 0) := by rw [← HL3.out]; cases x.els <;> simp
        simp [stmtTop, exprsOf, k3, HL1.out, e2, e3]
      have HK : Hid (x.kind = 3) := k3
      have t3 : (x.kind == 3) = true := by simp [k3]
      have t1' : (x.kind != 1) = true := by simp [k3]
      clear k3 k1
      go_enter Try.func54, Try.ntmps54
      go_wp2_with fail
      all_goals first
        | (go_ret
           refine ⟨ret_bool ?_, by go_grown⟩
           rw [HT.out, HC.out]
           clear HT HC HEL HE H5 H6 IH HG HL1 HL2 HL3
           simp_all
           first | done | (intros; omega) | (intros; simp_all; done))
        | (have HTOP : Hid (stmtTop x = true) := by
             show stmtTop x = true
             rw [HC.out]
             clear HT HC HEL HE H5 H6 IH HG HL1 HL2 HL3
             simp_all
             first | done | (intros; omega) | (intros; simp_all; done)
           have hn1 : 1 ≤ n1 := by
             have h0 := HTOP.out
             rw [HC.out] at h0
             simp at h0
             omega
           generalize hwc : w.alloc _ = wc
           have HBC : Hid (Below w.heap.size w wc) := by rw [← hwc]; show Below w.heap.size w _; go_grown
           have q0 : wc.cell? ⟨w.heap.size, 0, none⟩ = some (.int .i64 x.kind) := by rw [← hwc]; simp
           have q4 : wc.cell? ⟨w.heap.size, 4, none⟩ = some (.slice a1 n1 cap1) := by rw [← hwc]; simp
           have q5 : wc.cell? ⟨w.heap.size, 5, none⟩ = some (.slice a2 n2 cap2) := by rw [← hwc]; simp
           have q6 : wc.cell? ⟨w.heap.size, 6, none⟩ = some (.slice a3 n3 cap3) := by rw [← hwc]; simp
           clear hwc
           have Q0 := Lib.hid q0
           clear q0
           refine (containsExprs_any (RExpr d' wc (· < wc.heap.size)) x.exprs (fun x => !exprB x) 77 _ wc HG.out ?_ (HE.out.mono (fun k hk => Nat.lt_of_lt_of_le hk HBC.out.size) (fun k hk => HBC.out.block k hk)) ?_).mono ?_
           · intro cs y hy; obtain ⟨_, _, _, _, _, rfl, _⟩ := hy.inv; rfl
           · intro W cs y hb hy hr
             exact stmt4_any d' W ((HM.out.keep HBC.out).keep hb) cs y (hr.mono (fun k hk => Nat.lt_of_lt_of_le hk hb.size) (fun k hk => hb.block k hk))
           rintro e w2 ⟨rfl, hb2⟩
           have HB2 : Hid (Below w.heap.size w w2) := afterCall HBC.out hb2
           have r4 := next (o := 4) hb2 q4
           have r5 := next (o := 5) hb2 q5
           have r6 := next (o := 6) hb2 q6
           clear hb2 q4 q5 q6
           have HX : Hid (x.exprs.all exprB = !(x.exprs.any fun x => !exprB x)) := by show _ = _; rw [List.all_eq_not_any_not]
           cases hany : x.exprs.any fun x => !exprB x with
           | true =>
             have HR : Hid (stmtB x = false) := by show stmtB x = false; rw [HT.out, HX.out, hany]; simp
             go_wp2
             go_ret
             exact ⟨ret_bool HR.out.symm, HB2.out⟩
           | false =>
             have HX2 : Hid (x.exprs.all exprB = true) := by show _ = _; rw [HX.out, hany]; rfl
             obtain ⟨y, hy⟩ : ∃ y, x.exprs[0]? = some y := ⟨_, List.getElem?_eq_getElem (by rw [HL1.out]; omega)⟩
             have HF : Hid (firstB x = true) := by show firstB x = _; rw [first_of hy]; simp [HK.out]
             obtain ⟨b, off, cs, rfl, hbl, hc, hr⟩ := HEL.out 0 _ hy
             obtain ⟨_, _, _, _, _, rfl, -⟩ := hr.inv
             obtain ⟨c0, -⟩ := cellsAt_of_block (HB2.out.block b hbl) hc
             have c0' : w2.cell? ⟨b, off, none⟩ = some (.int .i64 y.kind) := by simpa using c0
             clear c0 hc hr hy
             go_wp2_with (go_at_call 73; refine (stmt1_any _ _).mono ?_; rintro e w' ⟨rfl, rfl⟩)
             all_goals first
               | (go_ret
                  refine ⟨ret_bool ?_, HB2.out⟩
                  rw [HT.out, HF.out]
                  simp only [*]
                  simp
                  done)
               | (go_ret
                  refine ⟨ret_bool ?_, HB2.out⟩
                  rw [HT.out, HF.out]
                  clear HT HX HX2 HEL HE H5 H6 IH HG HL1 HL2 HL3
                  simp_all
                  done)
               | (have HF2 : Hid (firstB x = true) := by
                    show firstB x = true
                    rw [HF.out]
                    all_goals (clear HT HX HX2 HEL HE H5 H6 IH HG HL1 HL2 HL3; simp_all)
                  refine (IH.out w2 _ x.thn (HM.out.keep HB2.out) (H5.out.mono (fun k hk => Nat.lt_of_lt_of_le hk HB2.out.size) (fun k hk => HB2.out.block k hk))).mono ?_
                  rintro e w3 ⟨rfl, hb3⟩
                  have HB3 := nextB hb3 HB2
                  have s6 := next (o := 6) hb3 r6
                  clear hb3 r4 r5 r6
                  cases hth : x.thn.all stmtB with
                  | false =>
                    go_wp2
                    go_ret
                    exact ⟨ret_bool (by rw [HT.out, hth]; simp), HB3.out⟩
                  | true =>
                    go_wp2_with fail
                    refine (IH.out w3 _ x.els (HM.out.keep HB3.out) (H6.out.mono (fun k hk => Nat.lt_of_lt_of_le hk HB3.out.size) (fun k hk => HB3.out.block k hk))).mono ?_
                    rintro e w4 ⟨rfl, hb4⟩
                    have HB4 := nextB hb4 HB3
                    clear hb4
                    go_wp2
                    go_ret
                    exact ⟨ret_bool (by rw [HT.out, HTOP.out, HX2.out, HF2.out, hth]; simp), HB4.out⟩))
    have t3 : (x.kind == 3) = false := by simp [k3]
    by_cases k4 : x.kind = 4
    · have HC : Hid (stmtTop x = (decide ((1 : Int) ≤ n1) && decide ((n1 : Int) ≤ 1) && (x.type.toList.isEmpty && x.name.toList.isEmpty) && x.num == 0 && n3 == 0)) := by
        show stmtTop x = _
        have e2 : x.thn.isEmpty = (n2 == 0) := by rw [← HL2.out]; cases x.thn <;> simp
        have e3 : x.els.isEmpty = (n3 == 0) := by rw [← HL3.out]; cases x.els <;> simp
        simp [stmtTop, exprsOf, k4, HL1.out, e2, e3]
      have HK : Hid (x.kind = 4) := k4
      have t4 : (x.kind == 4) = true := by simp [k4]
      have t1' : (x.kind != 1) = true := by simp [k4]
      clear k4 k1
      go_enter Try.func54, Try.ntmps54
      go_wp2_with fail
      all_goals first
        | (go_ret
           refine ⟨ret_bool ?_, by go_grown⟩
           rw [HT.out, HC.out]
           clear HT HC HEL HE H5 H6 IH HG HL1 HL2 HL3
           simp_all
           first | done | (intros; omega) | (intros; simp_all; done))
        | (have HTOP : Hid (stmtTop x = true) := by
             show stmtTop x = true
             rw [HC.out]
             clear HT HC HEL HE H5 H6 IH HG HL1 HL2 HL3
             simp_all
             first | done | (intros; omega) | (intros; simp_all; done)
           have hn1 : 1 ≤ n1 := by
             have h0 := HTOP.out
             rw [HC.out] at h0
             simp at h0
             omega
           generalize hwc : w.alloc _ = wc
           have HBC : Hid (Below w.heap.size w wc) := by rw [← hwc]; show Below w.heap.size w _; go_grown
           have q0 : wc.cell? ⟨w.heap.size, 0, none⟩ = some (.int .i64 x.kind) := by rw [← hwc]; simp
           have q4 : wc.cell? ⟨w.heap.size, 4, none⟩ = some (.slice a1 n1 cap1) := by rw [← hwc]; simp
           have q5 : wc.cell? ⟨w.heap.size, 5, none⟩ = some (.slice a2 n2 cap2) := by rw [← hwc]; simp
           have q6 : wc.cell? ⟨w.heap.size, 6, none⟩ = some (.slice a3 n3 cap3) := by rw [← hwc]; simp
           clear hwc
           have Q0 := Lib.hid q0
           clear q0
           refine (containsExprs_any (RExpr d' wc (· < wc.heap.size)) x.exprs (fun x => !exprB x) 77 _ wc HG.out ?_ (HE.out.mono (fun k hk => Nat.lt_of_lt_of_le hk HBC.out.size) (fun k hk => HBC.out.block k hk)) ?_).mono ?_
           · intro cs y hy; obtain ⟨_, _, _, _, _, rfl, _⟩ := hy.inv; rfl
           · intro W cs y hb hy hr
             exact stmt4_any d' W ((HM.out.keep HBC.out).keep hb) cs y (hr.mono (fun k hk => Nat.lt_of_lt_of_le hk hb.size) (fun k hk => hb.block k hk))
           rintro e w2 ⟨rfl, hb2⟩
           have HB2 : Hid (Below w.heap.size w w2) := afterCall HBC.out hb2
           have r4 := next (o := 4) hb2 q4
           have r5 := next (o := 5) hb2 q5
           have r6 := next (o := 6) hb2 q6
           clear hb2 q4 q5 q6
           have HX : Hid (x.exprs.all exprB = !(x.exprs.any fun x => !exprB x)) := by show _ = _; rw [List.all_eq_not_any_not]
           cases hany : x.exprs.any fun x => !exprB x with
           | true =>
             have HR : Hid (stmtB x = false) := by show stmtB x = false; rw [HT.out, HX.out, hany]; simp
             go_wp2
             go_ret
             exact ⟨ret_bool HR.out.symm, HB2.out⟩
           | false =>
             have HX2 : Hid (x.exprs.all exprB = true) := by show _ = _; rw [HX.out, hany]; rfl
             obtain ⟨y, hy⟩ : ∃ y, x.exprs[0]? = some y := ⟨_, List.getElem?_eq_getElem (by rw [HL1.out]; omega)⟩
             have HF : Hid (firstB x = true) := by show firstB x = _; rw [first_of hy]; simp [HK.out]
             obtain ⟨b, off, cs, rfl, hbl, hc, hr⟩ := HEL.out 0 _ hy
             obtain ⟨_, _, _, _, _, rfl, -⟩ := hr.inv
             obtain ⟨c0, -⟩ := cellsAt_of_block (HB2.out.block b hbl) hc
             have c0' : w2.cell? ⟨b, off, none⟩ = some (.int .i64 y.kind) := by simpa using c0
             clear c0 hc hr hy
             go_wp2_with (go_at_call 73; refine (stmt1_any _ _).mono ?_; rintro e w' ⟨rfl, rfl⟩)
             all_goals first
               | (go_ret
                  refine ⟨ret_bool ?_, HB2.out⟩
                  rw [HT.out, HF.out]
                  simp only [*]
                  simp
                  done)
               | (go_ret
                  refine ⟨ret_bool ?_, HB2.out⟩
                  rw [HT.out, HF.out]
                  clear HT HX HX2 HEL HE H5 H6 IH HG HL1 HL2 HL3
                  simp_all
                  done)
               | (have HF2 : Hid (firstB x = true) := by
                    show firstB x = true
                    rw [HF.out]
                    all_goals (clear HT HX HX2 HEL HE H5 H6 IH HG HL1 HL2 HL3; simp_all)
                  refine (IH.out w2 _ x.thn (HM.out.keep HB2.out) (H5.out.mono (fun k hk => Nat.lt_of_lt_of_le hk HB2.out.size) (fun k hk => HB2.out.block k hk))).mono ?_
                  rintro e w3 ⟨rfl, hb3⟩
                  have HB3 := nextB hb3 HB2
                  have s6 := next (o := 6) hb3 r6
                  clear hb3 r4 r5 r6
                  cases hth : x.thn.all stmtB with
                  | false =>
                    go_wp2
                    go_ret
                    exact ⟨ret_bool (by rw [HT.out, hth]; simp), HB3.out⟩
                  | true =>
                    go_wp2_with fail
                    refine (IH.out w3 _ x.els (HM.out.keep HB3.out) (H6.out.mono (fun k hk => Nat.lt_of_lt_of_le hk HB3.out.size) (fun k hk => HB3.out.block k hk))).mono ?_
                    rintro e w4 ⟨rfl, hb4⟩
                    have HB4 := nextB hb4 HB3
                    clear hb4
                    go_wp2
                    go_ret
                    exact ⟨ret_bool (by rw [HT.out, HTOP.out, HX2.out, HF2.out, hth]; simp), HB4.out⟩))
    have t4 : (x.kind == 4) = false := by simp [k4]
    by_cases k5 : x.kind = 5
    · have HC : Hid (stmtTop x = (decide ((1 : Int) ≤ n1) && decide ((n1 : Int) ≤ 1) && (x.type.toList.isEmpty && x.name.toList.isEmpty) && (decide (0 ≤ x.num) && decide (x.num ≤ 99)) && n2 == 0 && n3 == 0)) := by
        show stmtTop x = _
        have e2 : x.thn.isEmpty = (n2 == 0) := by rw [← HL2.out]; cases x.thn <;> simp
        have e3 : x.els.isEmpty = (n3 == 0) := by rw [← HL3.out]; cases x.els <;> simp
        simp [stmtTop, exprsOf, k5, HL1.out, e2, e3]
      have HK : Hid (x.kind = 5) := k5
      have t5 : (x.kind == 5) = true := by simp [k5]
      have t1' : (x.kind != 1) = true := by simp [k5]
      clear k5 k1
      go_enter Try.func54, Try.ntmps54
      go_wp2_with fail
      all_goals first
        | (go_ret
           refine ⟨ret_bool ?_, by go_grown⟩
           rw [HT.out, HC.out]
           clear HT HC HEL HE H5 H6 IH HG HL1 HL2 HL3
           simp_all
           first | done | (intros; omega) | (intros; simp_all; done))
        | (have HTOP : Hid (stmtTop x = true) := by
             show stmtTop x = true
             rw [HC.out]
             clear HT HC HEL HE H5 H6 IH HG HL1 HL2 HL3
             simp_all
             first | done | (intros; omega) | (intros; simp_all; done)
           have hn1 : 1 ≤ n1 := by
             have h0 := HTOP.out
             rw [HC.out] at h0
             simp at h0
             omega
           generalize hwc : w.alloc _ = wc
           have HBC : Hid (Below w.heap.size w wc) := by rw [← hwc]; show Below w.heap.size w _; go_grown
           have q0 : wc.cell? ⟨w.heap.size, 0, none⟩ = some (.int .i64 x.kind) := by rw [← hwc]; simp
           have q4 : wc.cell? ⟨w.heap.size, 4, none⟩ = some (.slice a1 n1 cap1) := by rw [← hwc]; simp
           have q5 : wc.cell? ⟨w.heap.size, 5, none⟩ = some (.slice a2 n2 cap2) := by rw [← hwc]; simp
           have q6 : wc.cell? ⟨w.heap.size, 6, none⟩ = some (.slice a3 n3 cap3) := by rw [← hwc]; simp
           clear hwc
           have Q0 := Lib.hid q0
           clear q0
           refine (containsExprs_any (RExpr d' wc (· < wc.heap.size)) x.exprs (fun x => !exprB x) 77 _ wc HG.out ?_ (HE.out.mono (fun k hk => Nat.lt_of_lt_of_le hk HBC.out.size) (fun k hk => HBC.out.block k hk)) ?_).mono ?_
           · intro cs y hy; obtain ⟨_, _, _, _, _, rfl, _⟩ := hy.inv; rfl
           · intro W cs y hb hy hr
             exact stmt4_any d' W ((HM.out.keep HBC.out).keep hb) cs y (hr.mono (fun k hk => Nat.lt_of_lt_of_le hk hb.size) (fun k hk => hb.block k hk))
           rintro e w2 ⟨rfl, hb2⟩
           have HB2 : Hid (Below w.heap.size w w2) := afterCall HBC.out hb2
           have r4 := next (o := 4) hb2 q4
           have r5 := next (o := 5) hb2 q5
           have r6 := next (o := 6) hb2 q6
           clear hb2 q4 q5 q6
           have HX : Hid (x.exprs.all exprB = !(x.exprs.any fun x => !exprB x)) := by show _ = _; rw [List.all_eq_not_any_not]
           cases hany : x.exprs.any fun x => !exprB x with
           | true =>
             have HR : Hid (stmtB x = false) := by show stmtB x = false; rw [HT.out, HX.out, hany]; simp
             go_wp2
             go_ret
             exact ⟨ret_bool HR.out.symm, HB2.out⟩
           | false =>
             have HX2 : Hid (x.exprs.all exprB = true) := by show _ = _; rw [HX.out, hany]; rfl
             obtain ⟨y, hy⟩ : ∃ y, x.exprs[0]? = some y := ⟨_, List.getElem?_eq_getElem (by rw [HL1.out]; omega)⟩
             have HF : Hid (firstB x = true) := by show firstB x = _; rw [first_of hy]; simp [HK.out]
             obtain ⟨b, off, cs, rfl, hbl, hc, hr⟩ := HEL.out 0 _ hy
             obtain ⟨_, _, _, _, _, rfl, -⟩ := hr.inv
             obtain ⟨c0, -⟩ := cellsAt_of_block (HB2.out.block b hbl) hc
             have c0' : w2.cell? ⟨b, off, none⟩ = some (.int .i64 y.kind) := by simpa using c0
             clear c0 hc hr hy
             go_wp2_with (go_at_call 73; refine (stmt1_any _ _).mono ?_; rintro e w' ⟨rfl, rfl⟩)
             all_goals first
               | (go_ret
                  refine ⟨ret_bool ?_, HB2.out⟩
                  rw [HT.out, HF.out]
                  simp only [*]
                  simp
                  done)
               | (go_ret
                  refine ⟨ret_bool ?_, HB2.out⟩
                  rw [HT.out, HF.out]
                  clear HT HX HX2 HEL HE H5 H6 IH HG HL1 HL2 HL3
                  simp_all
                  done)
               | (have HF2 : Hid (firstB x = true) := by
                    show firstB x = true
                    rw [HF.out]
                    all_goals (clear HT HX HX2 HEL HE H5 H6 IH HG HL1 HL2 HL3; simp_all)
                  refine (IH.out w2 _ x.thn (HM.out.keep HB2.out) (H5.out.mono (fun k hk => Nat.lt_of_lt_of_le hk HB2.out.size) (fun k hk => HB2.out.block k hk))).mono ?_
                  rintro e w3 ⟨rfl, hb3⟩
                  have HB3 := nextB hb3 HB2
                  have s6 := next (o := 6) hb3 r6
                  clear hb3 r4 r5 r6
                  cases hth : x.thn.all stmtB with
                  | false =>
                    go_wp2
                    go_ret
                    exact ⟨ret_bool (by rw [HT.out, hth]; simp), HB3.out⟩
                  | true =>
                    go_wp2_with fail
                    refine (IH.out w3 _ x.els (HM.out.keep HB3.out) (H6.out.mono (fun k hk => Nat.lt_of_lt_of_le hk HB3.out.size) (fun k hk => HB3.out.block k hk))).mono ?_
                    rintro e w4 ⟨rfl, hb4⟩
                    have HB4 := nextB hb4 HB3
                    clear hb4
                    go_wp2
                    go_ret
                    exact ⟨ret_bool (by rw [HT.out, HTOP.out, HX2.out, HF2.out, hth]; simp), HB4.out⟩))
    have t5 : (x.kind == 5) = false := by simp [k5]
    by_cases k6 : x.kind = 6
    · have HC : Hid (stmtTop x = (decide ((1 : Int) ≤ n1) && decide ((n1 : Int) ≤ 1) && (x.type.toList.isEmpty && x.name.toList.isEmpty) && x.num == 0 && n2 == 0 && n3 == 0)) := by
        show stmtTop x = _
        have e2 : x.thn.isEmpty = (n2 == 0) := by rw [← HL2.out]; cases x.thn <;> simp
        have e3 : x.els.isEmpty = (n3 == 0) := by rw [← HL3.out]; cases x.els <;> simp
        simp [stmtTop, exprsOf, k6, HL1.out, e2, e3]
      have HK : Hid (x.kind = 6) := k6
      have t6 : (x.kind == 6) = true := by simp [k6]
      have t1' : (x.kind != 1) = true := by simp [k6]
      clear k6 k1
      go_enter Try.func54, Try.ntmps54
      go_wp2_with fail
      all_goals first
        | (go_ret
           refine ⟨ret_bool ?_, by go_grown⟩
           rw [HT.out, HC.out]
           clear HT HC HEL HE H5 H6 IH HG HL1 HL2 HL3
           simp_all
           first | done | (intros; omega) | (intros; simp_all; done))
        | (have HTOP : Hid (stmtTop x = true) := by
             show stmtTop x = true
             rw [HC.out]
             clear HT HC HEL HE H5 H6 IH HG HL1 HL2 HL3
             simp_all
             first | done | (intros; omega) | (intros; simp_all; done)
           have hn1 : 1 ≤ n1 := by
             have h0 := HTOP.out
             rw [HC.out] at h0
             simp at h0
             omega
           generalize hwc : w.alloc _ = wc
           have HBC : Hid (Below w.heap.size w wc) := by rw [← hwc]; show Below w.heap.size w _; go_grown
           have q0 : wc.cell? ⟨w.heap.size, 0, none⟩ = some (.int .i64 x.kind) := by rw [← hwc]; simp
           have q4 : wc.cell? ⟨w.heap.size, 4, none⟩ = some (.slice a1 n1 cap1) := by rw [← hwc]; simp
           have q5 : wc.cell? ⟨w.heap.size, 5, none⟩ = some (.slice a2 n2 cap2) := by rw [← hwc]; simp
           have q6 : wc.cell? ⟨w.heap.size, 6, none⟩ = some (.slice a3 n3 cap3) := by rw [← hwc]; simp
           clear hwc
           have Q0 := Lib.hid q0
           clear q0
           refine (containsExprs_any (RExpr d' wc (· < wc.heap.size)) x.exprs (fun x => !exprB x) 77 _ wc HG.out ?_ (HE.out.mono (fun k hk => Nat.lt_of_lt_of_le hk HBC.out.size) (fun k hk => HBC.out.block k hk)) ?_).mono ?_
           · intro cs y hy; obtain ⟨_, _, _, _, _, rfl, _⟩ := hy.inv; rfl
           · intro W cs y hb hy hr
             exact stmt4_any d' W ((HM.out.keep HBC.out).keep hb) cs y (hr.mono (fun k hk => Nat.lt_of_lt_of_le hk hb.size) (fun k hk => hb.block k hk))
           rintro e w2 ⟨rfl, hb2⟩
           have HB2 : Hid (Below w.heap.size w w2) := afterCall HBC.out hb2
           have r4 := next (o := 4) hb2 q4
           have r5 := next (o := 5) hb2 q5
           have r6 := next (o := 6) hb2 q6
           clear hb2 q4 q5 q6
           have HX : Hid (x.exprs.all exprB = !(x.exprs.any fun x => !exprB x)) := by show _ = _; rw [List.all_eq_not_any_not]
           cases hany : x.exprs.any fun x => !exprB x with
           | true =>
             have HR : Hid (stmtB x = false) := by show stmtB x = false; rw [HT.out, HX.out, hany]; simp
             go_wp2
             go_ret
             exact ⟨ret_bool HR.out.symm, HB2.out⟩
           | false =>
             have HX2 : Hid (x.exprs.all exprB = true) := by show _ = _; rw [HX.out, hany]; rfl
             obtain ⟨y, hy⟩ : ∃ y, x.exprs[0]? = some y := ⟨_, List.getElem?_eq_getElem (by rw [HL1.out]; omega)⟩
             have HF : Hid (firstB x = true) := by show firstB x = _; rw [first_of hy]; simp [HK.out]
             obtain ⟨b, off, cs, rfl, hbl, hc, hr⟩ := HEL.out 0 _ hy
             obtain ⟨_, _, _, _, _, rfl, -⟩ := hr.inv
             obtain ⟨c0, -⟩ := cellsAt_of_block (HB2.out.block b hbl) hc
             have c0' : w2.cell? ⟨b, off, none⟩ = some (.int .i64 y.kind) := by simpa using c0
             clear c0 hc hr hy
             go_wp2_with (go_at_call 73; refine (stmt1_any _ _).mono ?_; rintro e w' ⟨rfl, rfl⟩)
             all_goals first
               | (go_ret
                  refine ⟨ret_bool ?_, HB2.out⟩
                  rw [HT.out, HF.out]
                  simp only [*]
                  simp
                  done)
               | (go_ret
                  refine ⟨ret_bool ?_, HB2.out⟩
                  rw [HT.out, HF.out]
                  clear HT HX HX2 HEL HE H5 H6 IH HG HL1 HL2 HL3
                  simp_all
                  done)
               | (have HF2 : Hid (firstB x = true) := by
                    show firstB x = true
                    rw [HF.out]
                    all_goals (clear HT HX HX2 HEL HE H5 H6 IH HG HL1 HL2 HL3; simp_all)
                  refine (IH.out w2 _ x.thn (HM.out.keep HB2.out) (H5.out.mono (fun k hk => Nat.lt_of_lt_of_le hk HB2.out.size) (fun k hk => HB2.out.block k hk))).mono ?_
                  rintro e w3 ⟨rfl, hb3⟩
                  have HB3 := nextB hb3 HB2
                  have s6 := next (o := 6) hb3 r6
                  clear hb3 r4 r5 r6
                  cases hth : x.thn.all stmtB with
                  | false =>
                    go_wp2
                    go_ret
                    exact ⟨ret_bool (by rw [HT.out, hth]; simp), HB3.out⟩
                  | true =>
                    go_wp2_with fail
                    refine (IH.out w3 _ x.els (HM.out.keep HB3.out) (H6.out.mono (fun k hk => Nat.lt_of_lt_of_le hk HB3.out.size) (fun k hk => HB3.out.block k hk))).mono ?_
                    rintro e w4 ⟨rfl, hb4⟩
                    have HB4 := nextB hb4 HB3
                    clear hb4
                    go_wp2
                    go_ret
                    exact ⟨ret_bool (by rw [HT.out, HTOP.out, HX2.out, HF2.out, hth]; simp), HB4.out⟩))
    have t6 : (x.kind == 6) = false := by simp [k6]
    by_cases k7 : x.kind = 7
    · have HC : Hid (stmtTop x = (decide ((1 : Int) ≤ n1) && decide ((n1 : Int) ≤ 1) && (x.type.toList.isEmpty && x.name.toList.isEmpty) && x.num == 0 && n2 == 0 && n3 == 0)) := by
        show stmtTop x = _
        have e2 : x.thn.isEmpty = (n2 == 0) := by rw [← HL2.out]; cases x.thn <;> simp
        have e3 : x.els.isEmpty = (n3 == 0) := by rw [← HL3.out]; cases x.els <;> simp
        simp [stmtTop, exprsOf, k7, HL1.out, e2, e3]
      have HK : Hid (x.kind = 7) := k7
      have t7 : (x.kind == 7) = true := by simp [k7]
      have t1' : (x.kind != 1) = true := by simp [k7]
      clear k7 k1
      go_enter Try.func54, Try.ntmps54
      go_wp2_with fail
      all_goals first
        | (go_ret
           refine ⟨ret_bool ?_, by go_grown⟩
           rw [HT.out, HC.out]
           clear HT HC HEL HE H5 H6 IH HG HL1 HL2 HL3
           simp_all
           first | done | (intros; omega) | (intros; simp_all; done))
        | (have HTOP : Hid (stmtTop x = true) := by
             show stmtTop x = true
             rw [HC.out]
             clear HT HC HEL HE H5 H6 IH HG HL1 HL2 HL3
             simp_all
             first | done | (intros; omega) | (intros; simp_all; done)
           have hn1 : 1 ≤ n1 := by
             have h0 := HTOP.out
             rw [HC.out] at h0
             simp at h0
             omega
           generalize hwc : w.alloc _ = wc
           have HBC : Hid (Below w.heap.size w wc) := by rw [← hwc]; show Below w.heap.size w _; go_grown
           have q0 : wc.cell? ⟨w.heap.size, 0, none⟩ = some (.int .i64 x.kind) := by rw [← hwc]; simp
           have q4 : wc.cell? ⟨w.heap.size, 4, none⟩ = some (.slice a1 n1 cap1) := by rw [← hwc]; simp
           have q5 : wc.cell? ⟨w.heap.size, 5, none⟩ = some (.slice a2 n2 cap2) := by rw [← hwc]; simp
           have q6 : wc.cell? ⟨w.heap.size, 6, none⟩ = some (.slice a3 n3 cap3) := by rw [← hwc]; simp
           clear hwc
           have Q0 := Lib.hid q0
           clear q0
           refine (containsExprs_any (RExpr d' wc (· < wc.heap.size)) x.exprs (fun x => !exprB x) 77 _ wc HG.out ?_ (HE.out.mono (fun k hk => Nat.lt_of_lt_of_le hk HBC.out.size) (fun k hk => HBC.out.block k hk)) ?_).mono ?_
           · intro cs y hy; obtain ⟨_, _, _, _, _, rfl, _⟩ := hy.inv; rfl
           · intro W cs y hb hy hr
             exact stmt4_any d' W ((HM.out.keep HBC.out).keep hb) cs y (hr.mono (fun k hk => Nat.lt_of_lt_of_le hk hb.size) (fun k hk => hb.block k hk))
           rintro e w2 ⟨rfl, hb2⟩
           have HB2 : Hid (Below w.heap.size w w2) := afterCall HBC.out hb2
           have r4 := next (o := 4) hb2 q4
           have r5 := next (o := 5) hb2 q5
           have r6 := next (o := 6) hb2 q6
           clear hb2 q4 q5 q6
           have HX : Hid (x.exprs.all exprB = !(x.exprs.any fun x => !exprB x)) := by show _ = _; rw [List.all_eq_not_any_not]
           cases hany : x.exprs.any fun x => !exprB x with
           | true =>
             have HR : Hid (stmtB x = false) := by show stmtB x = false; rw [HT.out, HX.out, hany]; simp
             go_wp2
             go_ret
             exact ⟨ret_bool HR.out.symm, HB2.out⟩
           | false =>
             have HX2 : Hid (x.exprs.all exprB = true) := by show _ = _; rw [HX.out, hany]; rfl
             obtain ⟨y, hy⟩ : ∃ y, x.exprs[0]? = some y := ⟨_, List.getElem?_eq_getElem (by rw [HL1.out]; omega)⟩
             have HF : Hid (firstB x = (y.kind == 10)) := by show firstB x = _; rw [first_of hy]; simp [HK.out]
             obtain ⟨b, off, cs, rfl, hbl, hc, hr⟩ := HEL.out 0 _ hy
             obtain ⟨_, _, _, _, _, rfl, -⟩ := hr.inv
             obtain ⟨c0, -⟩ := cellsAt_of_block (HB2.out.block b hbl) hc
             have c0' : w2.cell? ⟨b, off, none⟩ = some (.int .i64 y.kind) := by simpa using c0
             clear c0 hc hr hy
             go_wp2_with (go_at_call 75; refine (stmt3_any _ _).mono ?_; rintro e w' ⟨rfl, rfl⟩)
             all_goals first
               | (go_ret
                  refine ⟨ret_bool ?_, HB2.out⟩
                  rw [HT.out, HF.out]
                  simp only [*]
                  simp
                  done)
               | (go_ret
                  refine ⟨ret_bool ?_, HB2.out⟩
                  rw [HT.out, HF.out]
                  clear HT HX HX2 HEL HE H5 H6 IH HG HL1 HL2 HL3
                  simp_all
                  done)
               | (have HF2 : Hid (firstB x = true) := by
                    show firstB x = true
                    rw [HF.out]
                    all_goals (clear HT HX HX2 HEL HE H5 H6 IH HG HL1 HL2 HL3; simp_all)
                  refine (IH.out w2 _ x.thn (HM.out.keep HB2.out) (H5.out.mono (fun k hk => Nat.lt_of_lt_of_le hk HB2.out.size) (fun k hk => HB2.out.block k hk))).mono ?_
                  rintro e w3 ⟨rfl, hb3⟩
                  have HB3 := nextB hb3 HB2
                  have s6 := next (o := 6) hb3 r6
                  clear hb3 r4 r5 r6
                  cases hth : x.thn.all stmtB with
                  | false =>
                    go_wp2
                    go_ret
                    exact ⟨ret_bool (by rw [HT.out, hth]; simp), HB3.out⟩
                  | true =>
                    go_wp2_with fail
                    refine (IH.out w3 _ x.els (HM.out.keep HB3.out) (H6.out.mono (fun k hk => Nat.lt_of_lt_of_le hk HB3.out.size) (fun k hk => HB3.out.block k hk))).mono ?_
                    rintro e w4 ⟨rfl, hb4⟩
                    have HB4 := nextB hb4 HB3
                    clear hb4
                    go_wp2
                    go_ret
                    exact ⟨ret_bool (by rw [HT.out, HTOP.out, HX2.out, HF2.out, hth]; simp), HB4.out⟩))
    have t7 : (x.kind == 7) = false := by simp [k7]
    have HC : Hid (stmtB x = false) := by
      have : stmtTop x = false := by
        unfold stmtTop exprsOf
        rw [if_neg k1, if_neg k2, if_neg (by omega)]; simp
      show stmtB x = false
      rw [HT.out, this]; simp
    clear k1 k2 k3 k4 k5 k6 k7
    go_enter Try.func54, Try.ntmps54
    go_wp2
    go_ret
    exact ⟨ret_bool HC.out.symm, by go_grown⟩
end Go.Proofs.Ythhpcjoaogmhbaa
end
section
namespace Go.Proofs.Ythhpcjoaogmhbaa
open Go.RowKit
def kidsOf (k : Int) : Int × Int := if (shapeOf k).2 then ((shapeOf k).1.least, (shapeOf k).1.most) else (-1, -1)
theorem kids_1 (w : World) : Calls Try.prog 84 #[.int .i64 1] w fun e w' => e = .returned (.tuple #[.int .i64 (kidsOf 1).1, .int .i64 (kidsOf 1).2]) ∧ w = w' := by
  go_enter Try.func84, Try.ntmps84
  go_wp2
  go_ret2
  exact ⟨rfl, rfl⟩
theorem kids_2 (w : World) : Calls Try.prog 84 #[.int .i64 2] w fun e w' => e = .returned (.tuple #[.int .i64 (kidsOf 2).1, .int .i64 (kidsOf 2).2]) ∧ w = w' := by
  go_enter Try.func84, Try.ntmps84
  go_wp2
  go_ret2
  exact ⟨rfl, rfl⟩
theorem kids_3 (w : World) : Calls Try.prog 84 #[.int .i64 3] w fun e w' => e = .returned (.tuple #[.int .i64 (kidsOf 3).1, .int .i64 (kidsOf 3).2]) ∧ w = w' := by
  go_enter Try.func84, Try.ntmps84
  go_wp2
  go_ret2
  exact ⟨rfl, rfl⟩
theorem kids_4 (w : World) : Calls Try.prog 84 #[.int .i64 4] w fun e w' => e = .returned (.tuple #[.int .i64 (kidsOf 4).1, .int .i64 (kidsOf 4).2]) ∧ w = w' := by
  go_enter Try.func84, Try.ntmps84
  go_wp2
  go_ret2
  exact ⟨rfl, rfl⟩
theorem kids_5 (w : World) : Calls Try.prog 84 #[.int .i64 5] w fun e w' => e = .returned (.tuple #[.int .i64 (kidsOf 5).1, .int .i64 (kidsOf 5).2]) ∧ w = w' := by
  go_enter Try.func84, Try.ntmps84
  go_wp2
  go_ret2
  exact ⟨rfl, rfl⟩
theorem kids_6 (w : World) : Calls Try.prog 84 #[.int .i64 6] w fun e w' => e = .returned (.tuple #[.int .i64 (kidsOf 6).1, .int .i64 (kidsOf 6).2]) ∧ w = w' := by
  go_enter Try.func84, Try.ntmps84
  go_wp2
  go_ret2
  exact ⟨rfl, rfl⟩
theorem kids_7 (w : World) : Calls Try.prog 84 #[.int .i64 7] w fun e w' => e = .returned (.tuple #[.int .i64 (kidsOf 7).1, .int .i64 (kidsOf 7).2]) ∧ w = w' := by
  go_enter Try.func84, Try.ntmps84
  go_wp2
  go_ret2
  exact ⟨rfl, rfl⟩
theorem kids_8 (w : World) : Calls Try.prog 84 #[.int .i64 8] w fun e w' => e = .returned (.tuple #[.int .i64 (kidsOf 8).1, .int .i64 (kidsOf 8).2]) ∧ w = w' := by
  go_enter Try.func84, Try.ntmps84
  go_wp2
  go_ret2
  exact ⟨rfl, rfl⟩
theorem kids_9 (w : World) : Calls Try.prog 84 #[.int .i64 9] w fun e w' => e = .returned (.tuple #[.int .i64 (kidsOf 9).1, .int .i64 (kidsOf 9).2]) ∧ w = w' := by
  go_enter Try.func84, Try.ntmps84
  go_wp2
  go_ret2
  exact ⟨rfl, rfl⟩
theorem kids_10 (w : World) : Calls Try.prog 84 #[.int .i64 10] w fun e w' => e = .returned (.tuple #[.int .i64 (kidsOf 10).1, .int .i64 (kidsOf 10).2]) ∧ w = w' := by
  go_enter Try.func84, Try.ntmps84
  go_wp2
  go_ret2
  exact ⟨rfl, rfl⟩
theorem kids_11 (w : World) : Calls Try.prog 84 #[.int .i64 11] w fun e w' => e = .returned (.tuple #[.int .i64 (kidsOf 11).1, .int .i64 (kidsOf 11).2]) ∧ w = w' := by
  go_enter Try.func84, Try.ntmps84
  go_wp2
  go_ret2
  exact ⟨rfl, rfl⟩
theorem kids_12 (w : World) : Calls Try.prog 84 #[.int .i64 12] w fun e w' => e = .returned (.tuple #[.int .i64 (kidsOf 12).1, .int .i64 (kidsOf 12).2]) ∧ w = w' := by
  go_enter Try.func84, Try.ntmps84
  go_wp2
  go_ret2
  exact ⟨rfl, rfl⟩
theorem kids_13 (w : World) : Calls Try.prog 84 #[.int .i64 13] w fun e w' => e = .returned (.tuple #[.int .i64 (kidsOf 13).1, .int .i64 (kidsOf 13).2]) ∧ w = w' := by
  go_enter Try.func84, Try.ntmps84
  go_wp2
  go_ret2
  exact ⟨rfl, rfl⟩
theorem kids_14 (w : World) : Calls Try.prog 84 #[.int .i64 14] w fun e w' => e = .returned (.tuple #[.int .i64 (kidsOf 14).1, .int .i64 (kidsOf 14).2]) ∧ w = w' := by
  go_enter Try.func84, Try.ntmps84
  go_wp2
  go_ret2
  exact ⟨rfl, rfl⟩
theorem kids_15 (w : World) : Calls Try.prog 84 #[.int .i64 15] w fun e w' => e = .returned (.tuple #[.int .i64 (kidsOf 15).1, .int .i64 (kidsOf 15).2]) ∧ w = w' := by
  go_enter Try.func84, Try.ntmps84
  go_wp2
  go_ret2
  exact ⟨rfl, rfl⟩
theorem kids_16 (w : World) : Calls Try.prog 84 #[.int .i64 16] w fun e w' => e = .returned (.tuple #[.int .i64 (kidsOf 16).1, .int .i64 (kidsOf 16).2]) ∧ w = w' := by
  go_enter Try.func84, Try.ntmps84
  go_wp2
  go_ret2
  exact ⟨rfl, rfl⟩
theorem kids_17 (w : World) : Calls Try.prog 84 #[.int .i64 17] w fun e w' => e = .returned (.tuple #[.int .i64 (kidsOf 17).1, .int .i64 (kidsOf 17).2]) ∧ w = w' := by
  go_enter Try.func84, Try.ntmps84
  go_wp2
  go_ret2
  exact ⟨rfl, rfl⟩
theorem kids_18 (w : World) : Calls Try.prog 84 #[.int .i64 18] w fun e w' => e = .returned (.tuple #[.int .i64 (kidsOf 18).1, .int .i64 (kidsOf 18).2]) ∧ w = w' := by
  go_enter Try.func84, Try.ntmps84
  go_wp2
  go_ret2
  exact ⟨rfl, rfl⟩
theorem kinds (k : Int) (hk : 1 ≤ k ∧ k ≤ 18) : k = 1 ∨ k = 2 ∨ k = 3 ∨ k = 4 ∨ k = 5 ∨ k = 6 ∨ k = 7 ∨ k = 8 ∨ k = 9 ∨ k = 10 ∨ k = 11 ∨ k = 12 ∨ k = 13 ∨ k = 14 ∨ k = 15 ∨ k = 16 ∨ k = 17 ∨ k = 18 := by omega
theorem kids_any (k : Int) (w : World) : Calls Try.prog 84 #[.int .i64 k] w fun e w' => e = .returned (.tuple #[.int .i64 (kidsOf k).1, .int .i64 (kidsOf k).2]) ∧ w = w' := by
  by_cases hk : 1 ≤ k ∧ k ≤ 18
  · rcases kinds k hk with rfl | rfl | rfl | rfl | rfl | rfl | rfl | rfl | rfl | rfl | rfl | rfl | rfl | rfl | rfl | rfl | rfl | rfl
    · exact kids_1 w
    · exact kids_2 w
    · exact kids_3 w
    · exact kids_4 w
    · exact kids_5 w
    · exact kids_6 w
    · exact kids_7 w
    · exact kids_8 w
    · exact kids_9 w
    · exact kids_10 w
    · exact kids_11 w
    · exact kids_12 w
    · exact kids_13 w
    · exact kids_14 w
    · exact kids_15 w
    · exact kids_16 w
    · exact kids_17 w
    · exact kids_18 w
  · have H : Hid (kidsOf k = (-1, -1)) := by
      have : shapeOf k = (noShape, false) := by unfold shapeOf; rw [if_neg hk]
      show kidsOf k = _
      unfold kidsOf; rw [this]; rfl
    have h1 : (k == 1) = false := by simp; omega
    have h2 : (k == 2) = false := by simp; omega
    have h3 : (k == 3) = false := by simp; omega
    have h4 : (k == 4) = false := by simp; omega
    have h5 : (k == 5) = false := by simp; omega
    have h6 : (k == 6) = false := by simp; omega
    have h7 : (k == 7) = false := by simp; omega
    have h8 : (k == 8) = false := by simp; omega
    have h9 : (k == 9) = false := by simp; omega
    have h10 : (k == 10) = false := by simp; omega
    have h11 : (k == 11) = false := by simp; omega
    have h12 : (k == 12) = false := by simp; omega
    have h13 : (k == 13) = false := by simp; omega
    have h14 : (k == 14) = false := by simp; omega
    have h15 : (k == 15) = false := by simp; omega
    have h16 : (k == 16) = false := by simp; omega
    have h17 : (k == 17) = false := by simp; omega
    have h18 : (k == 18) = false := by simp; omega
    clear hk
    go_enter Try.func84, Try.ntmps84
    go_wp2
    go_ret2
    rw [H.out]
    exact ⟨rfl, rfl⟩
theorem shape_num (k : Int) (h1 : ¬ k = 1) (h2 : ¬ k = 11) : (shapeOf k).1.num = 0 := by
  by_cases hk : 1 ≤ k ∧ k ≤ 18
  · rcases kinds k hk with rfl | rfl | rfl | rfl | rfl | rfl | rfl | rfl | rfl | rfl | rfl | rfl | rfl | rfl | rfl | rfl | rfl | rfl <;> first | rfl | contradiction
  · have : shapeOf k = (noShape, false) := by unfold shapeOf; rw [if_neg hk]
    rw [this]; rfl
theorem shape_name (k : Int) : (shapeOf k).1.name = (k == 4 || k == 5 || k == 7 || k == 10) := by
  by_cases hk : 1 ≤ k ∧ k ≤ 18
  · rcases kinds k hk with rfl | rfl | rfl | rfl | rfl | rfl | rfl | rfl | rfl | rfl | rfl | rfl | rfl | rfl | rfl | rfl | rfl | rfl <;> rfl
  · have : shapeOf k = (noShape, false) := by unfold shapeOf; rw [if_neg hk]
    rw [this, Bool.eq_iff_iff]; simp [noShape]; omega
theorem shape_least (k : Int) : 0 ≤ (shapeOf k).1.least := by
  by_cases hk : 1 ≤ k ∧ k ≤ 18
  · rcases kinds k hk with rfl | rfl | rfl | rfl | rfl | rfl | rfl | rfl | rfl | rfl | rfl | rfl | rfl | rfl | rfl | rfl | rfl | rfl <;> decide
  · have : shapeOf k = (noShape, false) := by unfold shapeOf; rw [if_neg hk]
    rw [this]; decide
theorem exprTop_ref (x : Expr) : exprTop x = (!decide ((kidsOf x.kind).1 < 0) && !decide ((x.kids.length : Int) < (kidsOf x.kind).1) && !decide ((kidsOf x.kind).2 < (x.kids.length : Int)) && decide (0 ≤ x.num) && decide (x.num ≤ (shapeOf x.kind).1.num) &&
    (if (shapeOf x.kind).1.name then isNameB x.name else x.name.data.toList.isEmpty)) := by
  rw [exprTop_eq]
  have h := shape_least x.kind
  unfold kidsOf
  cases hok : (shapeOf x.kind).2 with
  | false => simp
  | true =>
    simp only [if_true]
    have e1 : (!decide ((shapeOf x.kind).1.least < 0)) = true := by simp; exact h
    have e2 : (!decide ((x.kids.length : Int) < (shapeOf x.kind).1.least)) = decide ((shapeOf x.kind).1.least ≤ x.kids.length) := by rw [Bool.eq_iff_iff]; simp
    have e3 : (!decide ((shapeOf x.kind).1.most < (x.kids.length : Int))) = decide ((x.kids.length : Int) ≤ (shapeOf x.kind).1.most) := by rw [Bool.eq_iff_iff]; simp
    rw [e1, e2, e3]
set_option maxHeartbeats 2000000 in
theorem mayExpr_any (d : Nat) : ∀ (w : World) (cs : List Value) (x : Expr), RExpr d w (· < w.heap.size) cs x →
    Calls Try.prog 71 #[.agg cs.toArray] w fun e w' => e = .returned (.bool (exprB x)) ∧ Below w.heap.size w w' := by
  induction d using Nat.strongRecOn with
  | ind d ih =>
    intro w cs x hx
    obtain ⟨d', a', n', cap', hd, rfl, wk, wn, ws, hk⟩ := hx.inv
    have IH := Lib.hid ih
    have HT := Lib.hid (exprB_eq x)
    have HTT := Lib.hid (exprTop_ref x)
    have hnum : x.num ≤ 9223372036854775807 := by have := wn; simp [Lit.wf, IntKind.min, IntKind.max, IntKind.signed, IntKind.bits] at this; omega
    obtain ⟨_, _, _, heq, hlen, _, hmx, hel⟩ := hk
    cases heq
    unfold maxC at hmx
    have HEL := Lib.hid hel
    have HL := Lib.hid hlen
    clear ih hx hlen hel wk wn
    have hKC : ∀ w : World, Calls Try.prog 84 #[.int .i64 x.kind] w fun e w' => e = .returned (.tuple #[.int .i64 (kidsOf x.kind).1, .int .i64 (kidsOf x.kind).2]) ∧ w = w' := kids_any x.kind
    have hTT := HTT.out
    rw [← Lib.toList_data, HL.out] at hTT
    clear HTT
    generalize hKO : kidsOf x.kind = ko at *
    clear hKO
    obtain ⟨lo, hi⟩ := ko
    have HKC := Lib.hid hKC
    clear hKC
    simp only [] at hTT
    by_cases k1 : x.kind = 1
    · have t1 : (x.kind == 1) = true := by simp [k1]
      have HC : Hid (exprTop x = (!decide (lo < 0) && !decide ((n' : Int) < lo) && !decide (hi < (n' : Int)) && decide (0 ≤ x.num) && x.name.toList.isEmpty)) := by
        show exprTop x = _
        rw [hTT, k1]
        simp [shapeOf, shapes, hnum]
      clear hTT k1
      cases hem : x.name.toList.isEmpty with
      | true =>
        have hem2 : (!x.name.toList.isEmpty) = false := by rw [hem]; rfl
        go_enter Try.func71, Try.ntmps71
        go_wp2_with (first
          | (go_at_call 84; refine (HKC.out _).mono ?_; rintro e w' ⟨rfl, rfl⟩)
          | (go_at_call 44; refine (refIsName_any _ ws _).mono ?_; rintro e w' ⟨rfl, rfl⟩))
        all_goals first
          | (go_ret
             refine ⟨ret_bool ?_, by go_grown⟩
             rw [HT.out, HC.out]
             clear HT HC HEL HL IH HKC
             simp_all
             first | done | (intros; omega))
          | (have HTOP : Hid (exprTop x = true) := by
               show exprTop x = true
               rw [HC.out]
               clear HT HC HEL HL IH HKC
               simp_all
               first | done | (intros; omega)
             go_loopw [81] (fun v81 w' => ∃ j : Nat, j ≤ n' ∧ v81 = .int .i64 j ∧ Hid (x.kids.all exprB = (x.kids.drop j).all exprB) ∧ Hid (Below w.heap.size w w')) (fun v81 _ => n' - (intOf v81).toNat)
             case atStart => exact ⟨0, by omega, rfl, rfl, by show Below w.heap.size w _; go_grown⟩
             case round =>
               obtain ⟨j, hj, rfl, HP, HB⟩ := hrel
               by_cases hlt : j < n'
               · obtain ⟨y, hy⟩ : ∃ y, x.kids[j]? = some y := ⟨_, List.getElem?_eq_getElem (by rw [HL.out]; exact hlt)⟩
                 have HY := Lib.hid hy
                 clear hy
                 obtain ⟨b, off, cs, rfl, hbl, hc, hr⟩ := HEL.out j _ HY.out
                 obtain ⟨d2, a2, n2, cap2, hd2, rfl, -⟩ := hr.inv
                 have HR := Lib.hid hr
                 obtain ⟨c0, c1, c2, c3, -⟩ := cellsAt_of_block (HB.out.block b hbl) hc
                 have HD : Hid (x.kids.drop j = y :: x.kids.drop (j + 1)) := drop_of_getElem? HY.out
                 have HB1 : Hid (∀ X, Below w.heap.size w (wr.alloc X)) := fun X => HB.out.alloc HB.out.size X
                 clear hc hr
                 go_wp2_with fail
                 (with_reducible refine (IH.out d' hd _ [_, _, _, _] y (HR.out.mono ?_ ?_)).mono ?_)
                 · exact fun k hk => Nat.lt_of_lt_of_le hk (HB1.out _).size
                 · exact fun k hk => (HB1.out _).block k hk
                 rintro e w2 ⟨rfl, hb2⟩
                 have HB2 : Hid (Below w.heap.size w w2) := afterCall (HB1.out _) hb2
                 clear hb2
                 cases hq : exprB y with
                 | false =>
                   go_wp2
                   go_ret
                   exact ⟨ret_bool (by rw [HT.out, HTOP.out, HP.out, HD.out]; simp [hq]), HB2.out⟩
                 | true =>
                   go_wp2
                   have HP2 : Hid (x.kids.all exprB = (x.kids.drop (j + 1)).all exprB) := by
                     show x.kids.all exprB = (x.kids.drop (j + 1)).all exprB
                     rw [HP.out, HD.out]; simp [hq]
                   refine ⟨?_, by simp [intOf]; omega⟩
                   first
                     | exact ⟨j + 1, by omega, by go_num, HP2, HB2⟩
                     | ((repeat apply Exists.intro)
                        refine ⟨⟨j + 1, by omega, ?_, HP2, HB2⟩, rfl⟩
                        go_num)
               · obtain rfl : j = n' := by omega
                 have HE : Hid (x.kids.drop j = []) := List.drop_of_length_le (by rw [HL.out]; exact Nat.le_refl _)
                 go_wp2
                 go_ret
                 exact ⟨ret_bool (by rw [HT.out, HTOP.out, HP.out, HE.out]; rfl), HB.out⟩)
      | false =>
        have hem2 : (!x.name.toList.isEmpty) = true := by rw [hem]; rfl
        go_enter Try.func71, Try.ntmps71
        go_wp2_with (first
          | (go_at_call 84; refine (HKC.out _).mono ?_; rintro e w' ⟨rfl, rfl⟩)
          | (go_at_call 44; refine (refIsName_any _ ws _).mono ?_; rintro e w' ⟨rfl, rfl⟩))
        all_goals first
          | (go_ret
             refine ⟨ret_bool ?_, by go_grown⟩
             rw [HT.out, HC.out]
             clear HT HC HEL HL IH HKC
             simp_all
             first | done | (intros; omega))
          | (have HTOP : Hid (exprTop x = true) := by
               show exprTop x = true
               rw [HC.out]
               clear HT HC HEL HL IH HKC
               simp_all
               first | done | (intros; omega)
             go_loopw [81] (fun v81 w' => ∃ j : Nat, j ≤ n' ∧ v81 = .int .i64 j ∧ Hid (x.kids.all exprB = (x.kids.drop j).all exprB) ∧ Hid (Below w.heap.size w w')) (fun v81 _ => n' - (intOf v81).toNat)
             case atStart => exact ⟨0, by omega, rfl, rfl, by show Below w.heap.size w _; go_grown⟩
             case round =>
               obtain ⟨j, hj, rfl, HP, HB⟩ := hrel
               by_cases hlt : j < n'
               · obtain ⟨y, hy⟩ : ∃ y, x.kids[j]? = some y := ⟨_, List.getElem?_eq_getElem (by rw [HL.out]; exact hlt)⟩
                 have HY := Lib.hid hy
                 clear hy
                 obtain ⟨b, off, cs, rfl, hbl, hc, hr⟩ := HEL.out j _ HY.out
                 obtain ⟨d2, a2, n2, cap2, hd2, rfl, -⟩ := hr.inv
                 have HR := Lib.hid hr
                 obtain ⟨c0, c1, c2, c3, -⟩ := cellsAt_of_block (HB.out.block b hbl) hc
                 have HD : Hid (x.kids.drop j = y :: x.kids.drop (j + 1)) := drop_of_getElem? HY.out
                 have HB1 : Hid (∀ X, Below w.heap.size w (wr.alloc X)) := fun X => HB.out.alloc HB.out.size X
                 clear hc hr
                 go_wp2_with fail
                 (with_reducible refine (IH.out d' hd _ [_, _, _, _] y (HR.out.mono ?_ ?_)).mono ?_)
                 · exact fun k hk => Nat.lt_of_lt_of_le hk (HB1.out _).size
                 · exact fun k hk => (HB1.out _).block k hk
                 rintro e w2 ⟨rfl, hb2⟩
                 have HB2 : Hid (Below w.heap.size w w2) := afterCall (HB1.out _) hb2
                 clear hb2
                 cases hq : exprB y with
                 | false =>
                   go_wp2
                   go_ret
                   exact ⟨ret_bool (by rw [HT.out, HTOP.out, HP.out, HD.out]; simp [hq]), HB2.out⟩
                 | true =>
                   go_wp2
                   have HP2 : Hid (x.kids.all exprB = (x.kids.drop (j + 1)).all exprB) := by
                     show x.kids.all exprB = (x.kids.drop (j + 1)).all exprB
                     rw [HP.out, HD.out]; simp [hq]
                   refine ⟨?_, by simp [intOf]; omega⟩
                   first
                     | exact ⟨j + 1, by omega, by go_num, HP2, HB2⟩
                     | ((repeat apply Exists.intro)
                        refine ⟨⟨j + 1, by omega, ?_, HP2, HB2⟩, rfl⟩
                        go_num)
               · obtain rfl : j = n' := by omega
                 have HE : Hid (x.kids.drop j = []) := List.drop_of_length_le (by rw [HL.out]; exact Nat.le_refl _)
                 go_wp2
                 go_ret
                 exact ⟨ret_bool (by rw [HT.out, HTOP.out, HP.out, HE.out]; rfl), HB.out⟩)
    have t1 : (x.kind == 1) = false := by simp [k1]
    by_cases k2 : x.kind = 11
    · have t2 : (x.kind == 11) = true := by simp [k2]
      have HC : Hid (exprTop x = (!decide (lo < 0) && !decide ((n' : Int) < lo) && !decide (hi < (n' : Int)) && decide (0 ≤ x.num) && decide (x.num ≤ 99) && x.name.toList.isEmpty)) := by
        show exprTop x = _
        rw [hTT, k2]
        simp [shapeOf, shapes]
      clear hTT k1 k2
      cases hem : x.name.toList.isEmpty with
      | true =>
        have hem2 : (!x.name.toList.isEmpty) = false := by rw [hem]; rfl
        go_enter Try.func71, Try.ntmps71
        go_wp2_with (first
          | (go_at_call 84; refine (HKC.out _).mono ?_; rintro e w' ⟨rfl, rfl⟩)
          | (go_at_call 44; refine (refIsName_any _ ws _).mono ?_; rintro e w' ⟨rfl, rfl⟩))
        all_goals first
          | (go_ret
             refine ⟨ret_bool ?_, by go_grown⟩
             rw [HT.out, HC.out]
             clear HT HC HEL HL IH HKC
             simp_all
             first | done | (intros; omega))
          | (have HTOP : Hid (exprTop x = true) := by
               show exprTop x = true
               rw [HC.out]
               clear HT HC HEL HL IH HKC
               simp_all
               first | done | (intros; omega)
             go_loopw [81] (fun v81 w' => ∃ j : Nat, j ≤ n' ∧ v81 = .int .i64 j ∧ Hid (x.kids.all exprB = (x.kids.drop j).all exprB) ∧ Hid (Below w.heap.size w w')) (fun v81 _ => n' - (intOf v81).toNat)
             case atStart => exact ⟨0, by omega, rfl, rfl, by show Below w.heap.size w _; go_grown⟩
             case round =>
               obtain ⟨j, hj, rfl, HP, HB⟩ := hrel
               by_cases hlt : j < n'
               · obtain ⟨y, hy⟩ : ∃ y, x.kids[j]? = some y := ⟨_, List.getElem?_eq_getElem (by rw [HL.out]; exact hlt)⟩
                 have HY := Lib.hid hy
                 clear hy
                 obtain ⟨b, off, cs, rfl, hbl, hc, hr⟩ := HEL.out j _ HY.out
                 obtain ⟨d2, a2, n2, cap2, hd2, rfl, -⟩ := hr.inv
                 have HR := Lib.hid hr
                 obtain ⟨c0, c1, c2, c3, -⟩ := cellsAt_of_block (HB.out.block b hbl) hc
                 have HD : Hid (x.kids.drop j = y :: x.kids.drop (j + 1)) := drop_of_getElem? HY.out
                 have HB1 : Hid (∀ X, Below w.heap.size w (wr.alloc X)) := fun X => HB.out.alloc HB.out.size X
                 clear hc hr
                 go_wp2_with fail
                 (with_reducible refine (IH.out d' hd _ [_, _, _, _] y (HR.out.mono ?_ ?_)).mono ?_)
                 · exact fun k hk => Nat.lt_of_lt_of_le hk (HB1.out _).size
                 · exact fun k hk => (HB1.out _).block k hk
                 rintro e w2 ⟨rfl, hb2⟩
                 have HB2 : Hid (Below w.heap.size w w2) := afterCall (HB1.out _) hb2
                 clear hb2
                 cases hq : exprB y with
                 | false =>
                   go_wp2
                   go_ret
                   exact ⟨ret_bool (by rw [HT.out, HTOP.out, HP.out, HD.out]; simp [hq]), HB2.out⟩
                 | true =>
                   go_wp2
                   have HP2 : Hid (x.kids.all exprB = (x.kids.drop (j + 1)).all exprB) := by
                     show x.kids.all exprB = (x.kids.drop (j + 1)).all exprB
                     rw [HP.out, HD.out]; simp [hq]
                   refine ⟨?_, by simp [intOf]; omega⟩
                   first
                     | exact ⟨j + 1, by omega, by go_num, HP2, HB2⟩
                     | ((repeat apply Exists.intro)
                        refine ⟨⟨j + 1, by omega, ?_, HP2, HB2⟩, rfl⟩
                        go_num)
               · obtain rfl : j = n' := by omega
                 have HE : Hid (x.kids.drop j = []) := List.drop_of_length_le (by rw [HL.out]; exact Nat.le_refl _)
                 go_wp2
                 go_ret
                 exact ⟨ret_bool (by rw [HT.out, HTOP.out, HP.out, HE.out]; rfl), HB.out⟩)
      | false =>
        have hem2 : (!x.name.toList.isEmpty) = true := by rw [hem]; rfl
        go_enter Try.func71, Try.ntmps71
        go_wp2_with (first
          | (go_at_call 84; refine (HKC.out _).mono ?_; rintro e w' ⟨rfl, rfl⟩)
          | (go_at_call 44; refine (refIsName_any _ ws _).mono ?_; rintro e w' ⟨rfl, rfl⟩))
        all_goals first
          | (go_ret
             refine ⟨ret_bool ?_, by go_grown⟩
             rw [HT.out, HC.out]
             clear HT HC HEL HL IH HKC
             simp_all
             first | done | (intros; omega))
          | (have HTOP : Hid (exprTop x = true) := by
               show exprTop x = true
               rw [HC.out]
               clear HT HC HEL HL IH HKC
               simp_all
               first | done | (intros; omega)
             go_loopw [81] (fun v81 w' => ∃ j : Nat, j ≤ n' ∧ v81 = .int .i64 j ∧ Hid (x.kids.all exprB = (x.kids.drop j).all exprB) ∧ Hid (Below w.heap.size w w')) (fun v81 _ => n' - (intOf v81).toNat)
             case atStart => exact ⟨0, by omega, rfl, rfl, by show Below w.heap.size w _; go_grown⟩
             case round =>
               obtain ⟨j, hj, rfl, HP, HB⟩ := hrel
               by_cases hlt : j < n'
               · obtain ⟨y, hy⟩ : ∃ y, x.kids[j]? = some y := ⟨_, List.getElem?_eq_getElem (by rw [HL.out]; exact hlt)⟩
                 have HY := Lib.hid hy
                 clear hy
                 obtain ⟨b, off, cs, rfl, hbl, hc, hr⟩ := HEL.out j _ HY.out
                 obtain ⟨d2, a2, n2, cap2, hd2, rfl, -⟩ := hr.inv
                 have HR := Lib.hid hr
                 obtain ⟨c0, c1, c2, c3, -⟩ := cellsAt_of_block (HB.out.block b hbl) hc
                 have HD : Hid (x.kids.drop j = y :: x.kids.drop (j + 1)) := drop_of_getElem? HY.out
                 have HB1 : Hid (∀ X, Below w.heap.size w (wr.alloc X)) := fun X => HB.out.alloc HB.out.size X
                 clear hc hr
                 go_wp2_with fail
                 (with_reducible refine (IH.out d' hd _ [_, _, _, _] y (HR.out.mono ?_ ?_)).mono ?_)
                 · exact fun k hk => Nat.lt_of_lt_of_le hk (HB1.out _).size
                 · exact fun k hk => (HB1.out _).block k hk
                 rintro e w2 ⟨rfl, hb2⟩
                 have HB2 : Hid (Below w.heap.size w w2) := afterCall (HB1.out _) hb2
                 clear hb2
                 cases hq : exprB y with
                 | false =>
                   go_wp2
                   go_ret
                   exact ⟨ret_bool (by rw [HT.out, HTOP.out, HP.out, HD.out]; simp [hq]), HB2.out⟩
                 | true =>
                   go_wp2
                   have HP2 : Hid (x.kids.all exprB = (x.kids.drop (j + 1)).all exprB) := by
                     show x.kids.all exprB = (x.kids.drop (j + 1)).all exprB
                     rw [HP.out, HD.out]; simp [hq]
                   refine ⟨?_, by simp [intOf]; omega⟩
                   first
                     | exact ⟨j + 1, by omega, by go_num, HP2, HB2⟩
                     | ((repeat apply Exists.intro)
                        refine ⟨⟨j + 1, by omega, ?_, HP2, HB2⟩, rfl⟩
                        go_num)
               · obtain rfl : j = n' := by omega
                 have HE : Hid (x.kids.drop j = []) := List.drop_of_length_le (by rw [HL.out]; exact Nat.le_refl _)
                 go_wp2
                 go_ret
                 exact ⟨ret_bool (by rw [HT.out, HTOP.out, HP.out, HE.out]; rfl), HB.out⟩)
    have t2 : (x.kind == 11) = false := by simp [k2]
    have hsn := shape_num x.kind k1 k2
    have hsm := shape_name x.kind
    rw [hsn] at hTT
    have hzero : (decide (0 ≤ x.num) && decide (x.num ≤ 0)) = (x.num == 0) := by rw [Bool.eq_iff_iff]; simp; omega
    cases hnm : (shapeOf x.kind).1.name with
    | false =>
      have HC : Hid (exprTop x = (!decide (lo < 0) && !decide ((n' : Int) < lo) && !decide (hi < (n' : Int)) && (x.num == 0) && x.name.toList.isEmpty)) := by
        show exprTop x = _
        rw [hTT, hnm, ← hzero]
        simp [Bool.and_assoc]
      rw [hnm] at hsm
      have hsm' : ((x.kind == 4) = false ∧ (x.kind == 5) = false ∧ (x.kind == 7) = false ∧ (x.kind == 10) = false) := by simp at hsm ⊢; omega
      obtain ⟨t4, t5, t7, t10⟩ := hsm'
      clear hTT k1 k2 hsn hsm hnm hzero
      cases hz0 : x.num == 0 with
      | true =>
        have hz1 : (x.num != 0) = false := by simp at hz0 ⊢; exact hz0
        cases hem : x.name.toList.isEmpty with
        | true =>
          have hem2 : (!x.name.toList.isEmpty) = false := by rw [hem]; rfl
          go_enter Try.func71, Try.ntmps71
          go_wp2_with (first
            | (go_at_call 84; refine (HKC.out _).mono ?_; rintro e w' ⟨rfl, rfl⟩)
            | (go_at_call 44; refine (refIsName_any _ ws _).mono ?_; rintro e w' ⟨rfl, rfl⟩))
          all_goals first
            | (go_ret
               refine ⟨ret_bool ?_, by go_grown⟩
               rw [HT.out, HC.out]
               clear HT HC HEL HL IH HKC
               simp_all
               first | done | (intros; omega))
            | (have HTOP : Hid (exprTop x = true) := by
                 show exprTop x = true
                 rw [HC.out]
                 clear HT HC HEL HL IH HKC
                 simp_all
                 first | done | (intros; omega)
               go_loopw [81] (fun v81 w' => ∃ j : Nat, j ≤ n' ∧ v81 = .int .i64 j ∧ Hid (x.kids.all exprB = (x.kids.drop j).all exprB) ∧ Hid (Below w.heap.size w w')) (fun v81 _ => n' - (intOf v81).toNat)
               case atStart => exact ⟨0, by omega, rfl, rfl, by show Below w.heap.size w _; go_grown⟩
               case round =>
                 obtain ⟨j, hj, rfl, HP, HB⟩ := hrel
                 by_cases hlt : j < n'
                 · obtain ⟨y, hy⟩ : ∃ y, x.kids[j]? = some y := ⟨_, List.getElem?_eq_getElem (by rw [HL.out]; exact hlt)⟩
                   have HY := Lib.hid hy
                   clear hy
                   obtain ⟨b, off, cs, rfl, hbl, hc, hr⟩ := HEL.out j _ HY.out
                   obtain ⟨d2, a2, n2, cap2, hd2, rfl, -⟩ := hr.inv
                   have HR := Lib.hid hr
                   obtain ⟨c0, c1, c2, c3, -⟩ := cellsAt_of_block (HB.out.block b hbl) hc
                   have HD : Hid (x.kids.drop j = y :: x.kids.drop (j + 1)) := drop_of_getElem? HY.out
                   have HB1 : Hid (∀ X, Below w.heap.size w (wr.alloc X)) := fun X => HB.out.alloc HB.out.size X
                   clear hc hr
                   go_wp2_with fail
                   (with_reducible refine (IH.out d' hd _ [_, _, _, _] y (HR.out.mono ?_ ?_)).mono ?_)
                   · exact fun k hk => Nat.lt_of_lt_of_le hk (HB1.out _).size
                   · exact fun k hk => (HB1.out _).block k hk
                   rintro e w2 ⟨rfl, hb2⟩
                   have HB2 : Hid (Below w.heap.size w w2) := afterCall (HB1.out _) hb2
                   clear hb2
                   cases hq : exprB y with
                   | false =>
                     go_wp2
                     go_ret
                     exact ⟨ret_bool (by rw [HT.out, HTOP.out, HP.out, HD.out]; simp [hq]), HB2.out⟩
                   | true =>
                     go_wp2
                     have HP2 : Hid (x.kids.all exprB = (x.kids.drop (j + 1)).all exprB) := by
                       show x.kids.all exprB = (x.kids.drop (j + 1)).all exprB
                       rw [HP.out, HD.out]; simp [hq]
                     refine ⟨?_, by simp [intOf]; omega⟩
                     first
                       | exact ⟨j + 1, by omega, by go_num, HP2, HB2⟩
                       | ((repeat apply Exists.intro)
                          refine ⟨⟨j + 1, by omega, ?_, HP2, HB2⟩, rfl⟩
                          go_num)
                 · obtain rfl : j = n' := by omega
                   have HE : Hid (x.kids.drop j = []) := List.drop_of_length_le (by rw [HL.out]; exact Nat.le_refl _)
                   go_wp2
                   go_ret
                   exact ⟨ret_bool (by rw [HT.out, HTOP.out, HP.out, HE.out]; rfl), HB.out⟩)
        | false =>
          have hem2 : (!x.name.toList.isEmpty) = true := by rw [hem]; rfl
          go_enter Try.func71, Try.ntmps71
          go_wp2_with (first
            | (go_at_call 84; refine (HKC.out _).mono ?_; rintro e w' ⟨rfl, rfl⟩)
            | (go_at_call 44; refine (refIsName_any _ ws _).mono ?_; rintro e w' ⟨rfl, rfl⟩))
          all_goals first
            | (go_ret
               refine ⟨ret_bool ?_, by go_grown⟩
               rw [HT.out, HC.out]
               clear HT HC HEL HL IH HKC
               simp_all
               first | done | (intros; omega))
            | (have HTOP : Hid (exprTop x = true) := by
                 show exprTop x = true
                 rw [HC.out]
                 clear HT HC HEL HL IH HKC
                 simp_all
                 first | done | (intros; omega)
               go_loopw [81] (fun v81 w' => ∃ j : Nat, j ≤ n' ∧ v81 = .int .i64 j ∧ Hid (x.kids.all exprB = (x.kids.drop j).all exprB) ∧ Hid (Below w.heap.size w w')) (fun v81 _ => n' - (intOf v81).toNat)
               case atStart => exact ⟨0, by omega, rfl, rfl, by show Below w.heap.size w _; go_grown⟩
               case round =>
                 obtain ⟨j, hj, rfl, HP, HB⟩ := hrel
                 by_cases hlt : j < n'
                 · obtain ⟨y, hy⟩ : ∃ y, x.kids[j]? = some y := ⟨_, List.getElem?_eq_getElem (by rw [HL.out]; exact hlt)⟩
                   have HY := Lib.hid hy
                   clear hy
                   obtain ⟨b, off, cs, rfl, hbl, hc, hr⟩ := HEL.out j _ HY.out
                   obtain ⟨d2, a2, n2, cap2, hd2, rfl, -⟩ := hr.inv
                   have HR := Lib.hid hr
                   obtain ⟨c0, c1, c2, c3, -⟩ := cellsAt_of_block (HB.out.block b hbl) hc
                   have HD : Hid (x.kids.drop j = y :: x.kids.drop (j + 1)) := drop_of_getElem? HY.out
                   have HB1 : Hid (∀ X, Below w.heap.size w (wr.alloc X)) := fun X => HB.out.alloc HB.out.size X
                   clear hc hr
                   go_wp2_with fail
                   (with_reducible refine (IH.out d' hd _ [_, _, _, _] y (HR.out.mono ?_ ?_)).mono ?_)
                   · exact fun k hk => Nat.lt_of_lt_of_le hk (HB1.out _).size
                   · exact fun k hk => (HB1.out _).block k hk
                   rintro e w2 ⟨rfl, hb2⟩
                   have HB2 : Hid (Below w.heap.size w w2) := afterCall (HB1.out _) hb2
                   clear hb2
                   cases hq : exprB y with
                   | false =>
                     go_wp2
                     go_ret
                     exact ⟨ret_bool (by rw [HT.out, HTOP.out, HP.out, HD.out]; simp [hq]), HB2.out⟩
                   | true =>
                     go_wp2
                     have HP2 : Hid (x.kids.all exprB = (x.kids.drop (j + 1)).all exprB) := by
                       show x.kids.all exprB = (x.kids.drop (j + 1)).all exprB
                       rw [HP.out, HD.out]; simp [hq]
                     refine ⟨?_, by simp [intOf]; omega⟩
                     first
                       | exact ⟨j + 1, by omega, by go_num, HP2, HB2⟩
                       | ((repeat apply Exists.intro)
                          refine ⟨⟨j + 1, by omega, ?_, HP2, HB2⟩, rfl⟩
                          go_num)
                 · obtain rfl : j = n' := by omega
                   have HE : Hid (x.kids.drop j = []) := List.drop_of_length_le (by rw [HL.out]; exact Nat.le_refl _)
                   go_wp2
                   go_ret
                   exact ⟨ret_bool (by rw [HT.out, HTOP.out, HP.out, HE.out]; rfl), HB.out⟩)
      | false =>
        have hz1 : (x.num != 0) = true := by simp at hz0 ⊢; exact hz0
        cases hem : x.name.toList.isEmpty with
        | true =>
          have hem2 : (!x.name.toList.isEmpty) = false := by rw [hem]; rfl
          go_enter Try.func71, Try.ntmps71
          go_wp2_with (first
            | (go_at_call 84; refine (HKC.out _).mono ?_; rintro e w' ⟨rfl, rfl⟩)
            | (go_at_call 44; refine (refIsName_any _ ws _).mono ?_; rintro e w' ⟨rfl, rfl⟩))
          all_goals first
            | (go_ret
               refine ⟨ret_bool ?_, by go_grown⟩
               rw [HT.out, HC.out]
               clear HT HC HEL HL IH HKC
               simp_all
               first | done | (intros; omega))
            | (have HTOP : Hid (exprTop x = true) := by
                 show exprTop x = true
                 rw [HC.out]
                 clear HT HC HEL HL IH HKC
                 simp_all
                 first | done | (intros; omega)
               go_loopw [81] (fun v81 w' => ∃ j : Nat, j ≤ n' ∧ v81 = .int .i64 j ∧ Hid (x.kids.all exprB = (x.kids.drop j).all exprB) ∧ Hid (Below w.heap.size w w')) (fun v81 _ => n' - (intOf v81).toNat)
               case atStart => exact ⟨0, by omega, rfl, rfl, by show Below w.heap.size w _; go_grown⟩
               case round =>
                 obtain ⟨j, hj, rfl, HP, HB⟩ := hrel
                 by_cases hlt : j < n'
                 · obtain ⟨y, hy⟩ : ∃ y, x.kids[j]? = some y := ⟨_, List.getElem?_eq_getElem (by rw [HL.out]; exact hlt)⟩
                   have HY := Lib.hid hy
                   clear hy
                   obtain ⟨b, off, cs, rfl, hbl, hc, hr⟩ := HEL.out j _ HY.out
                   obtain ⟨d2, a2, n2, cap2, hd2, rfl, -⟩ := hr.inv
                   have HR := Lib.hid hr
                   obtain ⟨c0, c1, c2, c3, -⟩ := cellsAt_of_block (HB.out.block b hbl) hc
                   have HD : Hid (x.kids.drop j = y :: x.kids.drop (j + 1)) := drop_of_getElem? HY.out
                   have HB1 : Hid (∀ X, Below w.heap.size w (wr.alloc X)) := fun X => HB.out.alloc HB.out.size X
                   clear hc hr
                   go_wp2_with fail
                   (with_reducible refine (IH.out d' hd _ [_, _, _, _] y (HR.out.mono ?_ ?_)).mono ?_)
                   · exact fun k hk => Nat.lt_of_lt_of_le hk (HB1.out _).size
                   · exact fun k hk => (HB1.out _).block k hk
                   rintro e w2 ⟨rfl, hb2⟩
                   have HB2 : Hid (Below w.heap.size w w2) := afterCall (HB1.out _) hb2
                   clear hb2
                   cases hq : exprB y with
                   | false =>
                     go_wp2
                     go_ret
                     exact ⟨ret_bool (by rw [HT.out, HTOP.out, HP.out, HD.out]; simp [hq]), HB2.out⟩
                   | true =>
                     go_wp2
                     have HP2 : Hid (x.kids.all exprB = (x.kids.drop (j + 1)).all exprB) := by
                       show x.kids.all exprB = (x.kids.drop (j + 1)).all exprB
                       rw [HP.out, HD.out]; simp [hq]
                     refine ⟨?_, by simp [intOf]; omega⟩
                     first
                       | exact ⟨j + 1, by omega, by go_num, HP2, HB2⟩
                       | ((repeat apply Exists.intro)
                          refine ⟨⟨j + 1, by omega, ?_, HP2, HB2⟩, rfl⟩
                          go_num)
                 · obtain rfl : j = n' := by omega
                   have HE : Hid (x.kids.drop j = []) := List.drop_of_length_le (by rw [HL.out]; exact Nat.le_refl _)
                   go_wp2
                   go_ret
                   exact ⟨ret_bool (by rw [HT.out, HTOP.out, HP.out, HE.out]; rfl), HB.out⟩)
        | false =>
          have hem2 : (!x.name.toList.isEmpty) = true := by rw [hem]; rfl
          go_enter Try.func71, Try.ntmps71
          go_wp2_with (first
            | (go_at_call 84; refine (HKC.out _).mono ?_; rintro e w' ⟨rfl, rfl⟩)
            | (go_at_call 44; refine (refIsName_any _ ws _).mono ?_; rintro e w' ⟨rfl, rfl⟩))
          all_goals first
            | (go_ret
               refine ⟨ret_bool ?_, by go_grown⟩
               rw [HT.out, HC.out]
               clear HT HC HEL HL IH HKC
               simp_all
               first | done | (intros; omega))
            | (have HTOP : Hid (exprTop x = true) := by
                 show exprTop x = true
                 rw [HC.out]
                 clear HT HC HEL HL IH HKC
                 simp_all
                 first | done | (intros; omega)
               go_loopw [81] (fun v81 w' => ∃ j : Nat, j ≤ n' ∧ v81 = .int .i64 j ∧ Hid (x.kids.all exprB = (x.kids.drop j).all exprB) ∧ Hid (Below w.heap.size w w')) (fun v81 _ => n' - (intOf v81).toNat)
               case atStart => exact ⟨0, by omega, rfl, rfl, by show Below w.heap.size w _; go_grown⟩
               case round =>
                 obtain ⟨j, hj, rfl, HP, HB⟩ := hrel
                 by_cases hlt : j < n'
                 · obtain ⟨y, hy⟩ : ∃ y, x.kids[j]? = some y := ⟨_, List.getElem?_eq_getElem (by rw [HL.out]; exact hlt)⟩
                   have HY := Lib.hid hy
                   clear hy
                   obtain ⟨b, off, cs, rfl, hbl, hc, hr⟩ := HEL.out j _ HY.out
                   obtain ⟨d2, a2, n2, cap2, hd2, rfl, -⟩ := hr.inv
                   have HR := Lib.hid hr
                   obtain ⟨c0, c1, c2, c3, -⟩ := cellsAt_of_block (HB.out.block b hbl) hc
                   have HD : Hid (x.kids.drop j = y :: x.kids.drop (j + 1)) := drop_of_getElem? HY.out
                   have HB1 : Hid (∀ X, Below w.heap.size w (wr.alloc X)) := fun X => HB.out.alloc HB.out.size X
                   clear hc hr
                   go_wp2_with fail
                   (with_reducible refine (IH.out d' hd _ [_, _, _, _] y (HR.out.mono ?_ ?_)).mono ?_)
                   · exact fun k hk => Nat.lt_of_lt_of_le hk (HB1.out _).size
                   · exact fun k hk => (HB1.out _).block k hk
                   rintro e w2 ⟨rfl, hb2⟩
                   have HB2 : Hid (Below w.heap.size w w2) := afterCall (HB1.out _) hb2
                   clear hb2
                   cases hq : exprB y with
                   | false =>
                     go_wp2
                     go_ret
                     exact ⟨ret_bool (by rw [HT.out, HTOP.out, HP.out, HD.out]; simp [hq]), HB2.out⟩
                   | true =>
                     go_wp2
                     have HP2 : Hid (x.kids.all exprB = (x.kids.drop (j + 1)).all exprB) := by
                       show x.kids.all exprB = (x.kids.drop (j + 1)).all exprB
                       rw [HP.out, HD.out]; simp [hq]
                     refine ⟨?_, by simp [intOf]; omega⟩
                     first
                       | exact ⟨j + 1, by omega, by go_num, HP2, HB2⟩
                       | ((repeat apply Exists.intro)
                          refine ⟨⟨j + 1, by omega, ?_, HP2, HB2⟩, rfl⟩
                          go_num)
                 · obtain rfl : j = n' := by omega
                   have HE : Hid (x.kids.drop j = []) := List.drop_of_length_le (by rw [HL.out]; exact Nat.le_refl _)
                   go_wp2
                   go_ret
                   exact ⟨ret_bool (by rw [HT.out, HTOP.out, HP.out, HE.out]; rfl), HB.out⟩)
    | true =>
      have HC : Hid (exprTop x = (!decide (lo < 0) && !decide ((n' : Int) < lo) && !decide (hi < (n' : Int)) && (x.num == 0) && isNameB x.name)) := by
        show exprTop x = _
        rw [hTT, hnm, ← hzero]
        simp [Bool.and_assoc]
      rw [hnm] at hsm
      have hsm' : x.kind = 4 ∨ x.kind = 5 ∨ x.kind = 7 ∨ x.kind = 10 := by simp at hsm; omega
      clear hTT k1 k2 hsn hsm hnm hzero
      rcases hsm' with h4 | h4 | h4 | h4
      · have t4 : (x.kind == 4) = true := by simp [h4]
        clear h4
        cases hz0 : x.num == 0 with
        | true =>
          have hz1 : (x.num != 0) = false := by simp at hz0 ⊢; exact hz0
          cases hnm : isNameB x.name with
          | true =>
            go_enter Try.func71, Try.ntmps71
            go_wp2_with (first
              | (go_at_call 84; refine (HKC.out _).mono ?_; rintro e w' ⟨rfl, rfl⟩)
              | (go_at_call 44; refine (refIsName_any _ ws _).mono ?_; rintro e w' ⟨rfl, rfl⟩))
            all_goals first
              | (go_ret
                 refine ⟨ret_bool ?_, by go_grown⟩
                 rw [HT.out, HC.out]
                 clear HT HC HEL HL IH HKC
                 simp_all
                 first | done | (intros; omega))
              | (have HTOP : Hid (exprTop x = true) := by
                   show exprTop x = true
                   rw [HC.out]
                   clear HT HC HEL HL IH HKC
                   simp_all
                   first | done | (intros; omega)
                 go_loopw [81] (fun v81 w' => ∃ j : Nat, j ≤ n' ∧ v81 = .int .i64 j ∧ Hid (x.kids.all exprB = (x.kids.drop j).all exprB) ∧ Hid (Below w.heap.size w w')) (fun v81 _ => n' - (intOf v81).toNat)
                 case atStart => exact ⟨0, by omega, rfl, rfl, by show Below w.heap.size w _; go_grown⟩
                 case round =>
                   obtain ⟨j, hj, rfl, HP, HB⟩ := hrel
                   by_cases hlt : j < n'
                   · obtain ⟨y, hy⟩ : ∃ y, x.kids[j]? = some y := ⟨_, List.getElem?_eq_getElem (by rw [HL.out]; exact hlt)⟩
                     have HY := Lib.hid hy
                     clear hy
                     obtain ⟨b, off, cs, rfl, hbl, hc, hr⟩ := HEL.out j _ HY.out
                     obtain ⟨d2, a2, n2, cap2, hd2, rfl, -⟩ := hr.inv
                     have HR := Lib.hid hr
                     obtain ⟨c0, c1, c2, c3, -⟩ := cellsAt_of_block (HB.out.block b hbl) hc
                     have HD : Hid (x.kids.drop j = y :: x.kids.drop (j + 1)) := drop_of_getElem? HY.out
                     have HB1 : Hid (∀ X, Below w.heap.size w (wr.alloc X)) := fun X => HB.out.alloc HB.out.size X
                     clear hc hr
                     go_wp2_with fail
                     (with_reducible refine (IH.out d' hd _ [_, _, _, _] y (HR.out.mono ?_ ?_)).mono ?_)
                     · exact fun k hk => Nat.lt_of_lt_of_le hk (HB1.out _).size
                     · exact fun k hk => (HB1.out _).block k hk
                     rintro e w2 ⟨rfl, hb2⟩
                     have HB2 : Hid (Below w.heap.size w w2) := afterCall (HB1.out _) hb2
                     clear hb2
                     cases hq : exprB y with
                     | false =>
                       go_wp2
                       go_ret
                       exact ⟨ret_bool (by rw [HT.out, HTOP.out, HP.out, HD.out]; simp [hq]), HB2.out⟩
                     | true =>
                       go_wp2
                       have HP2 : Hid (x.kids.all exprB = (x.kids.drop (j + 1)).all exprB) := by
                         show x.kids.all exprB = (x.kids.drop (j + 1)).all exprB
                         rw [HP.out, HD.out]; simp [hq]
                       refine ⟨?_, by simp [intOf]; omega⟩
                       first
                         | exact ⟨j + 1, by omega, by go_num, HP2, HB2⟩
                         | ((repeat apply Exists.intro)
                            refine ⟨⟨j + 1, by omega, ?_, HP2, HB2⟩, rfl⟩
                            go_num)
                   · obtain rfl : j = n' := by omega
                     have HE : Hid (x.kids.drop j = []) := List.drop_of_length_le (by rw [HL.out]; exact Nat.le_refl _)
                     go_wp2
                     go_ret
                     exact ⟨ret_bool (by rw [HT.out, HTOP.out, HP.out, HE.out]; rfl), HB.out⟩)
          | false =>
            go_enter Try.func71, Try.ntmps71
            go_wp2_with (first
              | (go_at_call 84; refine (HKC.out _).mono ?_; rintro e w' ⟨rfl, rfl⟩)
              | (go_at_call 44; refine (refIsName_any _ ws _).mono ?_; rintro e w' ⟨rfl, rfl⟩))
            all_goals first
              | (go_ret
                 refine ⟨ret_bool ?_, by go_grown⟩
                 rw [HT.out, HC.out]
                 clear HT HC HEL HL IH HKC
                 simp_all
                 first | done | (intros; omega))
              | (have HTOP : Hid (exprTop x = true) := by
                   show exprTop x = true
                   rw [HC.out]
                   clear HT HC HEL HL IH HKC
                   simp_all
                   first | done | (intros; omega)
                 go_loopw [81] (fun v81 w' => ∃ j : Nat, j ≤ n' ∧ v81 = .int .i64 j ∧ Hid (x.kids.all exprB = (x.kids.drop j).all exprB) ∧ Hid (Below w.heap.size w w')) (fun v81 _ => n' - (intOf v81).toNat)
                 case atStart => exact ⟨0, by omega, rfl, rfl, by show Below w.heap.size w _; go_grown⟩
                 case round =>
                   obtain ⟨j, hj, rfl, HP, HB⟩ := hrel
                   by_cases hlt : j < n'
                   · obtain ⟨y, hy⟩ : ∃ y, x.kids[j]? = some y := ⟨_, List.getElem?_eq_getElem (by rw [HL.out]; exact hlt)⟩
                     have HY := Lib.hid hy
                     clear hy
                     obtain ⟨b, off, cs, rfl, hbl, hc, hr⟩ := HEL.out j _ HY.out
                     obtain ⟨d2, a2, n2, cap2, hd2, rfl, -⟩ := hr.inv
                     have HR := Lib.hid hr
                     obtain ⟨c0, c1, c2, c3, -⟩ := cellsAt_of_block (HB.out.block b hbl) hc
                     have HD : Hid (x.kids.drop j = y :: x.kids.drop (j + 1)) := drop_of_getElem? HY.out
                     have HB1 : Hid (∀ X, Below w.heap.size w (wr.alloc X)) := fun X => HB.out.alloc HB.out.size X
                     clear hc hr
                     go_wp2_with fail
                     (with_reducible refine (IH.out d' hd _ [_, _, _, _] y (HR.out.mono ?_ ?_)).mono ?_)
                     · exact fun k hk => Nat.lt_of_lt_of_le hk (HB1.out _).size
                     · exact fun k hk => (HB1.out _).block k hk
                     rintro e w2 ⟨rfl, hb2⟩
                     have HB2 : Hid (Below w.heap.size w w2) := afterCall (HB1.out _) hb2
                     clear hb2
                     cases hq : exprB y with
                     | false =>
                       go_wp2
                       go_ret
                       exact ⟨ret_bool (by rw [HT.out, HTOP.out, HP.out, HD.out]; simp [hq]), HB2.out⟩
                     | true =>
                       go_wp2
                       have HP2 : Hid (x.kids.all exprB = (x.kids.drop (j + 1)).all exprB) := by
                         show x.kids.all exprB = (x.kids.drop (j + 1)).all exprB
                         rw [HP.out, HD.out]; simp [hq]
                       refine ⟨?_, by simp [intOf]; omega⟩
                       first
                         | exact ⟨j + 1, by omega, by go_num, HP2, HB2⟩
                         | ((repeat apply Exists.intro)
                            refine ⟨⟨j + 1, by omega, ?_, HP2, HB2⟩, rfl⟩
                            go_num)
                   · obtain rfl : j = n' := by omega
                     have HE : Hid (x.kids.drop j = []) := List.drop_of_length_le (by rw [HL.out]; exact Nat.le_refl _)
                     go_wp2
                     go_ret
                     exact ⟨ret_bool (by rw [HT.out, HTOP.out, HP.out, HE.out]; rfl), HB.out⟩)
        | false =>
          have hz1 : (x.num != 0) = true := by simp at hz0 ⊢; exact hz0
          go_enter Try.func71, Try.ntmps71
          go_wp2_with (first
            | (go_at_call 84; refine (HKC.out _).mono ?_; rintro e w' ⟨rfl, rfl⟩)
            | (go_at_call 44; refine (refIsName_any _ ws _).mono ?_; rintro e w' ⟨rfl, rfl⟩))
          all_goals first
            | (go_ret
               refine ⟨ret_bool ?_, by go_grown⟩
               rw [HT.out, HC.out]
               clear HT HC HEL HL IH HKC
               simp_all
               first | done | (intros; omega))
            | (have HTOP : Hid (exprTop x = true) := by
                 show exprTop x = true
                 rw [HC.out]
                 clear HT HC HEL HL IH HKC
                 simp_all
                 first | done | (intros; omega)
               go_loopw [81] (fun v81 w' => ∃ j : Nat, j ≤ n' ∧ v81 = .int .i64 j ∧ Hid (x.kids.all exprB = (x.kids.drop j).all exprB) ∧ Hid (Below w.heap.size w w')) (fun v81 _ => n' - (intOf v81).toNat)
               case atStart => exact ⟨0, by omega, rfl, rfl, by show Below w.heap.size w _; go_grown⟩
               case round =>
                 obtain ⟨j, hj, rfl, HP, HB⟩ := hrel
                 by_cases hlt : j < n'
                 · obtain ⟨y, hy⟩ : ∃ y, x.kids[j]? = some y := ⟨_, List.getElem?_eq_getElem (by rw [HL.out]; exact hlt)⟩
                   have HY := Lib.hid hy
                   clear hy
                   obtain ⟨b, off, cs, rfl, hbl, hc, hr⟩ := HEL.out j _ HY.out
                   obtain ⟨d2, a2, n2, cap2, hd2, rfl, -⟩ := hr.inv
                   have HR := Lib.hid hr
                   obtain ⟨c0, c1, c2, c3, -⟩ := cellsAt_of_block (HB.out.block b hbl) hc
                   have HD : Hid (x.kids.drop j = y :: x.kids.drop (j + 1)) := drop_of_getElem? HY.out
                   have HB1 : Hid (∀ X, Below w.heap.size w (wr.alloc X)) := fun X => HB.out.alloc HB.out.size X
                   clear hc hr
                   go_wp2_with fail
                   (with_reducible refine (IH.out d' hd _ [_, _, _, _] y (HR.out.mono ?_ ?_)).mono ?_)
                   · exact fun k hk => Nat.lt_of_lt_of_le hk (HB1.out _).size
                   · exact fun k hk => (HB1.out _).block k hk
                   rintro e w2 ⟨rfl, hb2⟩
                   have HB2 : Hid (Below w.heap.size w w2) := afterCall (HB1.out _) hb2
                   clear hb2
                   cases hq : exprB y with
                   | false =>
                     go_wp2
                     go_ret
                     exact ⟨ret_bool (by rw [HT.out, HTOP.out, HP.out, HD.out]; simp [hq]), HB2.out⟩
                   | true =>
                     go_wp2
                     have HP2 : Hid (x.kids.all exprB = (x.kids.drop (j + 1)).all exprB) := by
                       show x.kids.all exprB = (x.kids.drop (j + 1)).all exprB
                       rw [HP.out, HD.out]; simp [hq]
                     refine ⟨?_, by simp [intOf]; omega⟩
                     first
                       | exact ⟨j + 1, by omega, by go_num, HP2, HB2⟩
                       | ((repeat apply Exists.intro)
                          refine ⟨⟨j + 1, by omega, ?_, HP2, HB2⟩, rfl⟩
                          go_num)
                 · obtain rfl : j = n' := by omega
                   have HE : Hid (x.kids.drop j = []) := List.drop_of_length_le (by rw [HL.out]; exact Nat.le_refl _)
                   go_wp2
                   go_ret
                   exact ⟨ret_bool (by rw [HT.out, HTOP.out, HP.out, HE.out]; rfl), HB.out⟩)
      · have t4 : (x.kind == 4) = false := by simp [h4]
        have t5 : (x.kind == 5) = true := by simp [h4]
        clear h4
        cases hz0 : x.num == 0 with
        | true =>
          have hz1 : (x.num != 0) = false := by simp at hz0 ⊢; exact hz0
          cases hnm : isNameB x.name with
          | true =>
            go_enter Try.func71, Try.ntmps71
            go_wp2_with (first
              | (go_at_call 84; refine (HKC.out _).mono ?_; rintro e w' ⟨rfl, rfl⟩)
              | (go_at_call 44; refine (refIsName_any _ ws _).mono ?_; rintro e w' ⟨rfl, rfl⟩))
            all_goals first
              | (go_ret
                 refine ⟨ret_bool ?_, by go_grown⟩
                 rw [HT.out, HC.out]
                 clear HT HC HEL HL IH HKC
                 simp_all
                 first | done | (intros; omega))
              | (have HTOP : Hid (exprTop x = true) := by
                   show exprTop x = true
                   rw [HC.out]
                   clear HT HC HEL HL IH HKC
                   simp_all
                   first | done | (intros; omega)
                 go_loopw [81] (fun v81 w' => ∃ j : Nat, j ≤ n' ∧ v81 = .int .i64 j ∧ Hid (x.kids.all exprB = (x.kids.drop j).all exprB) ∧ Hid (Below w.heap.size w w')) (fun v81 _ => n' - (intOf v81).toNat)
                 case atStart => exact ⟨0, by omega, rfl, rfl, by show Below w.heap.size w _; go_grown⟩
                 case round =>
                   obtain ⟨j, hj, rfl, HP, HB⟩ := hrel
                   by_cases hlt : j < n'
                   · obtain ⟨y, hy⟩ : ∃ y, x.kids[j]? = some y := ⟨_, List.getElem?_eq_getElem (by rw [HL.out]; exact hlt)⟩
                     have HY := Lib.hid hy
                     clear hy
                     obtain ⟨b, off, cs, rfl, hbl, hc, hr⟩ := HEL.out j _ HY.out
                     obtain ⟨d2, a2, n2, cap2, hd2, rfl, -⟩ := hr.inv
                     have HR := Lib.hid hr
                     obtain ⟨c0, c1, c2, c3, -⟩ := cellsAt_of_block (HB.out.block b hbl) hc
                     have HD : Hid (x.kids.drop j = y :: x.kids.drop (j + 1)) := drop_of_getElem? HY.out
                     have HB1 : Hid (∀ X, Below w.heap.size w (wr.alloc X)) := fun X => HB.out.alloc HB.out.size X
                     clear hc hr
                     go_wp2_with fail
                     (with_reducible refine (IH.out d' hd _ [_, _, _, _] y (HR.out.mono ?_ ?_)).mono ?_)
                     · exact fun k hk => Nat.lt_of_lt_of_le hk (HB1.out _).size
                     · exact fun k hk => (HB1.out _).block k hk
                     rintro e w2 ⟨rfl, hb2⟩
                     have HB2 : Hid (Below w.heap.size w w2) := afterCall (HB1.out _) hb2
                     clear hb2
                     cases hq : exprB y with
                     | false =>
                       go_wp2
                       go_ret
                       exact ⟨ret_bool (by rw [HT.out, HTOP.out, HP.out, HD.out]; simp [hq]), HB2.out⟩
                     | true =>
                       go_wp2
                       have HP2 : Hid (x.kids.all exprB = (x.kids.drop (j + 1)).all exprB) := by
                         show x.kids.all exprB = (x.kids.drop (j + 1)).all exprB
                         rw [HP.out, HD.out]; simp [hq]
                       refine ⟨?_, by simp [intOf]; omega⟩
                       first
                         | exact ⟨j + 1, by omega, by go_num, HP2, HB2⟩
                         | ((repeat apply Exists.intro)
                            refine ⟨⟨j + 1, by omega, ?_, HP2, HB2⟩, rfl⟩
                            go_num)
                   · obtain rfl : j = n' := by omega
                     have HE : Hid (x.kids.drop j = []) := List.drop_of_length_le (by rw [HL.out]; exact Nat.le_refl _)
                     go_wp2
                     go_ret
                     exact ⟨ret_bool (by rw [HT.out, HTOP.out, HP.out, HE.out]; rfl), HB.out⟩)
          | false =>
            go_enter Try.func71, Try.ntmps71
            go_wp2_with (first
              | (go_at_call 84; refine (HKC.out _).mono ?_; rintro e w' ⟨rfl, rfl⟩)
              | (go_at_call 44; refine (refIsName_any _ ws _).mono ?_; rintro e w' ⟨rfl, rfl⟩))
            all_goals first
              | (go_ret
                 refine ⟨ret_bool ?_, by go_grown⟩
                 rw [HT.out, HC.out]
                 clear HT HC HEL HL IH HKC
                 simp_all
                 first | done | (intros; omega))
              | (have HTOP : Hid (exprTop x = true) := by
                   show exprTop x = true
                   rw [HC.out]
                   clear HT HC HEL HL IH HKC
                   simp_all
                   first | done | (intros; omega)
                 go_loopw [81] (fun v81 w' => ∃ j : Nat, j ≤ n' ∧ v81 = .int .i64 j ∧ Hid (x.kids.all exprB = (x.kids.drop j).all exprB) ∧ Hid (Below w.heap.size w w')) (fun v81 _ => n' - (intOf v81).toNat)
                 case atStart => exact ⟨0, by omega, rfl, rfl, by show Below w.heap.size w _; go_grown⟩
                 case round =>
                   obtain ⟨j, hj, rfl, HP, HB⟩ := hrel
                   by_cases hlt : j < n'
                   · obtain ⟨y, hy⟩ : ∃ y, x.kids[j]? = some y := ⟨_, List.getElem?_eq_getElem (by rw [HL.out]; exact hlt)⟩
                     have HY := Lib.hid hy
                     clear hy
                     obtain ⟨b, off, cs, rfl, hbl, hc, hr⟩ := HEL.out j _ HY.out
                     obtain ⟨d2, a2, n2, cap2, hd2, rfl, -⟩ := hr.inv
                     have HR := Lib.hid hr
                     obtain ⟨c0, c1, c2, c3, -⟩ := cellsAt_of_block (HB.out.block b hbl) hc
                     have HD : Hid (x.kids.drop j = y :: x.kids.drop (j + 1)) := drop_of_getElem? HY.out
                     have HB1 : Hid (∀ X, Below w.heap.size w (wr.alloc X)) := fun X => HB.out.alloc HB.out.size X
                     clear hc hr
                     go_wp2_with fail
                     (with_reducible refine (IH.out d' hd _ [_, _, _, _] y (HR.out.mono ?_ ?_)).mono ?_)
                     · exact fun k hk => Nat.lt_of_lt_of_le hk (HB1.out _).size
                     · exact fun k hk => (HB1.out _).block k hk
                     rintro e w2 ⟨rfl, hb2⟩
                     have HB2 : Hid (Below w.heap.size w w2) := afterCall (HB1.out _) hb2
                     clear hb2
                     cases hq : exprB y with
                     | false =>
                       go_wp2
                       go_ret
                       exact ⟨ret_bool (by rw [HT.out, HTOP.out, HP.out, HD.out]; simp [hq]), HB2.out⟩
                     | true =>
                       go_wp2
                       have HP2 : Hid (x.kids.all exprB = (x.kids.drop (j + 1)).all exprB) := by
                         show x.kids.all exprB = (x.kids.drop (j + 1)).all exprB
                         rw [HP.out, HD.out]; simp [hq]
                       refine ⟨?_, by simp [intOf]; omega⟩
                       first
                         | exact ⟨j + 1, by omega, by go_num, HP2, HB2⟩
                         | ((repeat apply Exists.intro)
                            refine ⟨⟨j + 1, by omega, ?_, HP2, HB2⟩, rfl⟩
                            go_num)
                   · obtain rfl : j = n' := by omega
                     have HE : Hid (x.kids.drop j = []) := List.drop_of_length_le (by rw [HL.out]; exact Nat.le_refl _)
                     go_wp2
                     go_ret
                     exact ⟨ret_bool (by rw [HT.out, HTOP.out, HP.out, HE.out]; rfl), HB.out⟩)
        | false =>
          have hz1 : (x.num != 0) = true := by simp at hz0 ⊢; exact hz0
          go_enter Try.func71, Try.ntmps71
          go_wp2_with (first
            | (go_at_call 84; refine (HKC.out _).mono ?_; rintro e w' ⟨rfl, rfl⟩)
            | (go_at_call 44; refine (refIsName_any _ ws _).mono ?_; rintro e w' ⟨rfl, rfl⟩))
          all_goals first
            | (go_ret
               refine ⟨ret_bool ?_, by go_grown⟩
               rw [HT.out, HC.out]
               clear HT HC HEL HL IH HKC
               simp_all
               first | done | (intros; omega))
            | (have HTOP : Hid (exprTop x = true) := by
                 show exprTop x = true
                 rw [HC.out]
                 clear HT HC HEL HL IH HKC
                 simp_all
                 first | done | (intros; omega)
               go_loopw [81] (fun v81 w' => ∃ j : Nat, j ≤ n' ∧ v81 = .int .i64 j ∧ Hid (x.kids.all exprB = (x.kids.drop j).all exprB) ∧ Hid (Below w.heap.size w w')) (fun v81 _ => n' - (intOf v81).toNat)
               case atStart => exact ⟨0, by omega, rfl, rfl, by show Below w.heap.size w _; go_grown⟩
               case round =>
                 obtain ⟨j, hj, rfl, HP, HB⟩ := hrel
                 by_cases hlt : j < n'
                 · obtain ⟨y, hy⟩ : ∃ y, x.kids[j]? = some y := ⟨_, List.getElem?_eq_getElem (by rw [HL.out]; exact hlt)⟩
                   have HY := Lib.hid hy
                   clear hy
                   obtain ⟨b, off, cs, rfl, hbl, hc, hr⟩ := HEL.out j _ HY.out
                   obtain ⟨d2, a2, n2, cap2, hd2, rfl, -⟩ := hr.inv
                   have HR := Lib.hid hr
                   obtain ⟨c0, c1, c2, c3, -⟩ := cellsAt_of_block (HB.out.block b hbl) hc
                   have HD : Hid (x.kids.drop j = y :: x.kids.drop (j + 1)) := drop_of_getElem? HY.out
                   have HB1 : Hid (∀ X, Below w.heap.size w (wr.alloc X)) := fun X => HB.out.alloc HB.out.size X
                   clear hc hr
                   go_wp2_with fail
                   (with_reducible refine (IH.out d' hd _ [_, _, _, _] y (HR.out.mono ?_ ?_)).mono ?_)
                   · exact fun k hk => Nat.lt_of_lt_of_le hk (HB1.out _).size
                   · exact fun k hk => (HB1.out _).block k hk
                   rintro e w2 ⟨rfl, hb2⟩
                   have HB2 : Hid (Below w.heap.size w w2) := afterCall (HB1.out _) hb2
                   clear hb2
                   cases hq : exprB y with
                   | false =>
                     go_wp2
                     go_ret
                     exact ⟨ret_bool (by rw [HT.out, HTOP.out, HP.out, HD.out]; simp [hq]), HB2.out⟩
                   | true =>
                     go_wp2
                     have HP2 : Hid (x.kids.all exprB = (x.kids.drop (j + 1)).all exprB) := by
                       show x.kids.all exprB = (x.kids.drop (j + 1)).all exprB
                       rw [HP.out, HD.out]; simp [hq]
                     refine ⟨?_, by simp [intOf]; omega⟩
                     first
                       | exact ⟨j + 1, by omega, by go_num, HP2, HB2⟩
                       | ((repeat apply Exists.intro)
                          refine ⟨⟨j + 1, by omega, ?_, HP2, HB2⟩, rfl⟩
                          go_num)
                 · obtain rfl : j = n' := by omega
                   have HE : Hid (x.kids.drop j = []) := List.drop_of_length_le (by rw [HL.out]; exact Nat.le_refl _)
                   go_wp2
                   go_ret
                   exact ⟨ret_bool (by rw [HT.out, HTOP.out, HP.out, HE.out]; rfl), HB.out⟩)
      · have t4 : (x.kind == 4) = false := by simp [h4]
        have t5 : (x.kind == 5) = false := by simp [h4]
        have t7 : (x.kind == 7) = true := by simp [h4]
        clear h4
        cases hz0 : x.num == 0 with
        | true =>
          have hz1 : (x.num != 0) = false := by simp at hz0 ⊢; exact hz0
          cases hnm : isNameB x.name with
          | true =>
            go_enter Try.func71, Try.ntmps71
            go_wp2_with (first
              | (go_at_call 84; refine (HKC.out _).mono ?_; rintro e w' ⟨rfl, rfl⟩)
              | (go_at_call 44; refine (refIsName_any _ ws _).mono ?_; rintro e w' ⟨rfl, rfl⟩))
            all_goals first
              | (go_ret
                 refine ⟨ret_bool ?_, by go_grown⟩
                 rw [HT.out, HC.out]
                 clear HT HC HEL HL IH HKC
                 simp_all
                 first | done | (intros; omega))
              | (have HTOP : Hid (exprTop x = true) := by
                   show exprTop x = true
                   rw [HC.out]
                   clear HT HC HEL HL IH HKC
                   simp_all
                   first | done | (intros; omega)
                 go_loopw [81] (fun v81 w' => ∃ j : Nat, j ≤ n' ∧ v81 = .int .i64 j ∧ Hid (x.kids.all exprB = (x.kids.drop j).all exprB) ∧ Hid (Below w.heap.size w w')) (fun v81 _ => n' - (intOf v81).toNat)
                 case atStart => exact ⟨0, by omega, rfl, rfl, by show Below w.heap.size w _; go_grown⟩
                 case round =>
                   obtain ⟨j, hj, rfl, HP, HB⟩ := hrel
                   by_cases hlt : j < n'
                   · obtain ⟨y, hy⟩ : ∃ y, x.kids[j]? = some y := ⟨_, List.getElem?_eq_getElem (by rw [HL.out]; exact hlt)⟩
                     have HY := Lib.hid hy
                     clear hy
                     obtain ⟨b, off, cs, rfl, hbl, hc, hr⟩ := HEL.out j _ HY.out
                     obtain ⟨d2, a2, n2, cap2, hd2, rfl, -⟩ := hr.inv
                     have HR := Lib.hid hr
                     obtain ⟨c0, c1, c2, c3, -⟩ := cellsAt_of_block (HB.out.block b hbl) hc
                     have HD : Hid (x.kids.drop j = y :: x.kids.drop (j + 1)) := drop_of_getElem? HY.out
                     have HB1 : Hid (∀ X, Below w.heap.size w (wr.alloc X)) := fun X => HB.out.alloc HB.out.size X
                     clear hc hr
                     go_wp2_with fail
                     (with_reducible refine (IH.out d' hd _ [_, _, _, _] y (HR.out.mono ?_ ?_)).mono ?_)
                     · exact fun k hk => Nat.lt_of_lt_of_le hk (HB1.out _).size
                     · exact fun k hk => (HB1.out _).block k hk
                     rintro e w2 ⟨rfl, hb2⟩
                     have HB2 : Hid (Below w.heap.size w w2) := afterCall (HB1.out _) hb2
                     clear hb2
                     cases hq : exprB y with
                     | false =>
                       go_wp2
                       go_ret
                       exact ⟨ret_bool (by rw [HT.out, HTOP.out, HP.out, HD.out]; simp [hq]), HB2.out⟩
                     | true =>
                       go_wp2
                       have HP2 : Hid (x.kids.all exprB = (x.kids.drop (j + 1)).all exprB) := by
                         show x.kids.all exprB = (x.kids.drop (j + 1)).all exprB
                         rw [HP.out, HD.out]; simp [hq]
                       refine ⟨?_, by simp [intOf]; omega⟩
                       first
                         | exact ⟨j + 1, by omega, by go_num, HP2, HB2⟩
                         | ((repeat apply Exists.intro)
                            refine ⟨⟨j + 1, by omega, ?_, HP2, HB2⟩, rfl⟩
                            go_num)
                   · obtain rfl : j = n' := by omega
                     have HE : Hid (x.kids.drop j = []) := List.drop_of_length_le (by rw [HL.out]; exact Nat.le_refl _)
                     go_wp2
                     go_ret
                     exact ⟨ret_bool (by rw [HT.out, HTOP.out, HP.out, HE.out]; rfl), HB.out⟩)
          | false =>
            go_enter Try.func71, Try.ntmps71
            go_wp2_with (first
              | (go_at_call 84; refine (HKC.out _).mono ?_; rintro e w' ⟨rfl, rfl⟩)
              | (go_at_call 44; refine (refIsName_any _ ws _).mono ?_; rintro e w' ⟨rfl, rfl⟩))
            all_goals first
              | (go_ret
                 refine ⟨ret_bool ?_, by go_grown⟩
                 rw [HT.out, HC.out]
                 clear HT HC HEL HL IH HKC
                 simp_all
                 first | done | (intros; omega))
              | (have HTOP : Hid (exprTop x = true) := by
                   show exprTop x = true
                   rw [HC.out]
                   clear HT HC HEL HL IH HKC
                   simp_all
                   first | done | (intros; omega)
                 go_loopw [81] (fun v81 w' => ∃ j : Nat, j ≤ n' ∧ v81 = .int .i64 j ∧ Hid (x.kids.all exprB = (x.kids.drop j).all exprB) ∧ Hid (Below w.heap.size w w')) (fun v81 _ => n' - (intOf v81).toNat)
                 case atStart => exact ⟨0, by omega, rfl, rfl, by show Below w.heap.size w _; go_grown⟩
                 case round =>
                   obtain ⟨j, hj, rfl, HP, HB⟩ := hrel
                   by_cases hlt : j < n'
                   · obtain ⟨y, hy⟩ : ∃ y, x.kids[j]? = some y := ⟨_, List.getElem?_eq_getElem (by rw [HL.out]; exact hlt)⟩
                     have HY := Lib.hid hy
                     clear hy
                     obtain ⟨b, off, cs, rfl, hbl, hc, hr⟩ := HEL.out j _ HY.out
                     obtain ⟨d2, a2, n2, cap2, hd2, rfl, -⟩ := hr.inv
                     have HR := Lib.hid hr
                     obtain ⟨c0, c1, c2, c3, -⟩ := cellsAt_of_block (HB.out.block b hbl) hc
                     have HD : Hid (x.kids.drop j = y :: x.kids.drop (j + 1)) := drop_of_getElem? HY.out
                     have HB1 : Hid (∀ X, Below w.heap.size w (wr.alloc X)) := fun X => HB.out.alloc HB.out.size X
                     clear hc hr
                     go_wp2_with fail
                     (with_reducible refine (IH.out d' hd _ [_, _, _, _] y (HR.out.mono ?_ ?_)).mono ?_)
                     · exact fun k hk => Nat.lt_of_lt_of_le hk (HB1.out _).size
                     · exact fun k hk => (HB1.out _).block k hk
                     rintro e w2 ⟨rfl, hb2⟩
                     have HB2 : Hid (Below w.heap.size w w2) := afterCall (HB1.out _) hb2
                     clear hb2
                     cases hq : exprB y with
                     | false =>
                       go_wp2
                       go_ret
                       exact ⟨ret_bool (by rw [HT.out, HTOP.out, HP.out, HD.out]; simp [hq]), HB2.out⟩
                     | true =>
                       go_wp2
                       have HP2 : Hid (x.kids.all exprB = (x.kids.drop (j + 1)).all exprB) := by
                         show x.kids.all exprB = (x.kids.drop (j + 1)).all exprB
                         rw [HP.out, HD.out]; simp [hq]
                       refine ⟨?_, by simp [intOf]; omega⟩
                       first
                         | exact ⟨j + 1, by omega, by go_num, HP2, HB2⟩
                         | ((repeat apply Exists.intro)
                            refine ⟨⟨j + 1, by omega, ?_, HP2, HB2⟩, rfl⟩
                            go_num)
                   · obtain rfl : j = n' := by omega
                     have HE : Hid (x.kids.drop j = []) := List.drop_of_length_le (by rw [HL.out]; exact Nat.le_refl _)
                     go_wp2
                     go_ret
                     exact ⟨ret_bool (by rw [HT.out, HTOP.out, HP.out, HE.out]; rfl), HB.out⟩)
        | false =>
          have hz1 : (x.num != 0) = true := by simp at hz0 ⊢; exact hz0
          go_enter Try.func71, Try.ntmps71
          go_wp2_with (first
            | (go_at_call 84; refine (HKC.out _).mono ?_; rintro e w' ⟨rfl, rfl⟩)
            | (go_at_call 44; refine (refIsName_any _ ws _).mono ?_; rintro e w' ⟨rfl, rfl⟩))
          all_goals first
            | (go_ret
               refine ⟨ret_bool ?_, by go_grown⟩
               rw [HT.out, HC.out]
               clear HT HC HEL HL IH HKC
               simp_all
               first | done | (intros; omega))
            | (have HTOP : Hid (exprTop x = true) := by
                 show exprTop x = true
                 rw [HC.out]
                 clear HT HC HEL HL IH HKC
                 simp_all
                 first | done | (intros; omega)
               go_loopw [81] (fun v81 w' => ∃ j : Nat, j ≤ n' ∧ v81 = .int .i64 j ∧ Hid (x.kids.all exprB = (x.kids.drop j).all exprB) ∧ Hid (Below w.heap.size w w')) (fun v81 _ => n' - (intOf v81).toNat)
               case atStart => exact ⟨0, by omega, rfl, rfl, by show Below w.heap.size w _; go_grown⟩
               case round =>
                 obtain ⟨j, hj, rfl, HP, HB⟩ := hrel
                 by_cases hlt : j < n'
                 · obtain ⟨y, hy⟩ : ∃ y, x.kids[j]? = some y := ⟨_, List.getElem?_eq_getElem (by rw [HL.out]; exact hlt)⟩
                   have HY := Lib.hid hy
                   clear hy
                   obtain ⟨b, off, cs, rfl, hbl, hc, hr⟩ := HEL.out j _ HY.out
                   obtain ⟨d2, a2, n2, cap2, hd2, rfl, -⟩ := hr.inv
                   have HR := Lib.hid hr
                   obtain ⟨c0, c1, c2, c3, -⟩ := cellsAt_of_block (HB.out.block b hbl) hc
                   have HD : Hid (x.kids.drop j = y :: x.kids.drop (j + 1)) := drop_of_getElem? HY.out
                   have HB1 : Hid (∀ X, Below w.heap.size w (wr.alloc X)) := fun X => HB.out.alloc HB.out.size X
                   clear hc hr
                   go_wp2_with fail
                   (with_reducible refine (IH.out d' hd _ [_, _, _, _] y (HR.out.mono ?_ ?_)).mono ?_)
                   · exact fun k hk => Nat.lt_of_lt_of_le hk (HB1.out _).size
                   · exact fun k hk => (HB1.out _).block k hk
                   rintro e w2 ⟨rfl, hb2⟩
                   have HB2 : Hid (Below w.heap.size w w2) := afterCall (HB1.out _) hb2
                   clear hb2
                   cases hq : exprB y with
                   | false =>
                     go_wp2
                     go_ret
                     exact ⟨ret_bool (by rw [HT.out, HTOP.out, HP.out, HD.out]; simp [hq]), HB2.out⟩
                   | true =>
                     go_wp2
                     have HP2 : Hid (x.kids.all exprB = (x.kids.drop (j + 1)).all exprB) := by
                       show x.kids.all exprB = (x.kids.drop (j + 1)).all exprB
                       rw [HP.out, HD.out]; simp [hq]
                     refine ⟨?_, by simp [intOf]; omega⟩
                     first
                       | exact ⟨j + 1, by omega, by go_num, HP2, HB2⟩
                       | ((repeat apply Exists.intro)
                          refine ⟨⟨j + 1, by omega, ?_, HP2, HB2⟩, rfl⟩
                          go_num)
                 · obtain rfl : j = n' := by omega
                   have HE : Hid (x.kids.drop j = []) := List.drop_of_length_le (by rw [HL.out]; exact Nat.le_refl _)
                   go_wp2
                   go_ret
                   exact ⟨ret_bool (by rw [HT.out, HTOP.out, HP.out, HE.out]; rfl), HB.out⟩)
      · have t4 : (x.kind == 4) = false := by simp [h4]
        have t5 : (x.kind == 5) = false := by simp [h4]
        have t7 : (x.kind == 7) = false := by simp [h4]
        have t10 : (x.kind == 10) = true := by simp [h4]
        clear h4
        cases hz0 : x.num == 0 with
        | true =>
          have hz1 : (x.num != 0) = false := by simp at hz0 ⊢; exact hz0
          cases hnm : isNameB x.name with
          | true =>
            go_enter Try.func71, Try.ntmps71
            go_wp2_with (first
              | (go_at_call 84; refine (HKC.out _).mono ?_; rintro e w' ⟨rfl, rfl⟩)
              | (go_at_call 44; refine (refIsName_any _ ws _).mono ?_; rintro e w' ⟨rfl, rfl⟩))
            all_goals first
              | (go_ret
                 refine ⟨ret_bool ?_, by go_grown⟩
                 rw [HT.out, HC.out]
                 clear HT HC HEL HL IH HKC
                 simp_all
                 first | done | (intros; omega))
              | (have HTOP : Hid (exprTop x = true) := by
                   show exprTop x = true
                   rw [HC.out]
                   clear HT HC HEL HL IH HKC
                   simp_all
                   first | done | (intros; omega)
                 go_loopw [81] (fun v81 w' => ∃ j : Nat, j ≤ n' ∧ v81 = .int .i64 j ∧ Hid (x.kids.all exprB = (x.kids.drop j).all exprB) ∧ Hid (Below w.heap.size w w')) (fun v81 _ => n' - (intOf v81).toNat)
                 case atStart => exact ⟨0, by omega, rfl, rfl, by show Below w.heap.size w _; go_grown⟩
                 case round =>
                   obtain ⟨j, hj, rfl, HP, HB⟩ := hrel
                   by_cases hlt : j < n'
                   · obtain ⟨y, hy⟩ : ∃ y, x.kids[j]? = some y := ⟨_, List.getElem?_eq_getElem (by rw [HL.out]; exact hlt)⟩
                     have HY := Lib.hid hy
                     clear hy
                     obtain ⟨b, off, cs, rfl, hbl, hc, hr⟩ := HEL.out j _ HY.out
                     obtain ⟨d2, a2, n2, cap2, hd2, rfl, -⟩ := hr.inv
                     have HR := Lib.hid hr
                     obtain ⟨c0, c1, c2, c3, -⟩ := cellsAt_of_block (HB.out.block b hbl) hc
                     have HD : Hid (x.kids.drop j = y :: x.kids.drop (j + 1)) := drop_of_getElem? HY.out
                     have HB1 : Hid (∀ X, Below w.heap.size w (wr.alloc X)) := fun X => HB.out.alloc HB.out.size X
                     clear hc hr
                     go_wp2_with fail
                     (with_reducible refine (IH.out d' hd _ [_, _, _, _] y (HR.out.mono ?_ ?_)).mono ?_)
                     · exact fun k hk => Nat.lt_of_lt_of_le hk (HB1.out _).size
                     · exact fun k hk => (HB1.out _).block k hk
                     rintro e w2 ⟨rfl, hb2⟩
                     have HB2 : Hid (Below w.heap.size w w2) := afterCall (HB1.out _) hb2
                     clear hb2
                     cases hq : exprB y with
                     | false =>
                       go_wp2
                       go_ret
                       exact ⟨ret_bool (by rw [HT.out, HTOP.out, HP.out, HD.out]; simp [hq]), HB2.out⟩
                     | true =>
                       go_wp2
                       have HP2 : Hid (x.kids.all exprB = (x.kids.drop (j + 1)).all exprB) := by
                         show x.kids.all exprB = (x.kids.drop (j + 1)).all exprB
                         rw [HP.out, HD.out]; simp [hq]
                       refine ⟨?_, by simp [intOf]; omega⟩
                       first
                         | exact ⟨j + 1, by omega, by go_num, HP2, HB2⟩
                         | ((repeat apply Exists.intro)
                            refine ⟨⟨j + 1, by omega, ?_, HP2, HB2⟩, rfl⟩
                            go_num)
                   · obtain rfl : j = n' := by omega
                     have HE : Hid (x.kids.drop j = []) := List.drop_of_length_le (by rw [HL.out]; exact Nat.le_refl _)
                     go_wp2
                     go_ret
                     exact ⟨ret_bool (by rw [HT.out, HTOP.out, HP.out, HE.out]; rfl), HB.out⟩)
          | false =>
            go_enter Try.func71, Try.ntmps71
            go_wp2_with (first
              | (go_at_call 84; refine (HKC.out _).mono ?_; rintro e w' ⟨rfl, rfl⟩)
              | (go_at_call 44; refine (refIsName_any _ ws _).mono ?_; rintro e w' ⟨rfl, rfl⟩))
            all_goals first
              | (go_ret
                 refine ⟨ret_bool ?_, by go_grown⟩
                 rw [HT.out, HC.out]
                 clear HT HC HEL HL IH HKC
                 simp_all
                 first | done | (intros; omega))
              | (have HTOP : Hid (exprTop x = true) := by
                   show exprTop x = true
                   rw [HC.out]
                   clear HT HC HEL HL IH HKC
                   simp_all
                   first | done | (intros; omega)
                 go_loopw [81] (fun v81 w' => ∃ j : Nat, j ≤ n' ∧ v81 = .int .i64 j ∧ Hid (x.kids.all exprB = (x.kids.drop j).all exprB) ∧ Hid (Below w.heap.size w w')) (fun v81 _ => n' - (intOf v81).toNat)
                 case atStart => exact ⟨0, by omega, rfl, rfl, by show Below w.heap.size w _; go_grown⟩
                 case round =>
                   obtain ⟨j, hj, rfl, HP, HB⟩ := hrel
                   by_cases hlt : j < n'
                   · obtain ⟨y, hy⟩ : ∃ y, x.kids[j]? = some y := ⟨_, List.getElem?_eq_getElem (by rw [HL.out]; exact hlt)⟩
                     have HY := Lib.hid hy
                     clear hy
                     obtain ⟨b, off, cs, rfl, hbl, hc, hr⟩ := HEL.out j _ HY.out
                     obtain ⟨d2, a2, n2, cap2, hd2, rfl, -⟩ := hr.inv
                     have HR := Lib.hid hr
                     obtain ⟨c0, c1, c2, c3, -⟩ := cellsAt_of_block (HB.out.block b hbl) hc
                     have HD : Hid (x.kids.drop j = y :: x.kids.drop (j + 1)) := drop_of_getElem? HY.out
                     have HB1 : Hid (∀ X, Below w.heap.size w (wr.alloc X)) := fun X => HB.out.alloc HB.out.size X
                     clear hc hr
                     go_wp2_with fail
                     (with_reducible refine (IH.out d' hd _ [_, _, _, _] y (HR.out.mono ?_ ?_)).mono ?_)
                     · exact fun k hk => Nat.lt_of_lt_of_le hk (HB1.out _).size
                     · exact fun k hk => (HB1.out _).block k hk
                     rintro e w2 ⟨rfl, hb2⟩
                     have HB2 : Hid (Below w.heap.size w w2) := afterCall (HB1.out _) hb2
                     clear hb2
                     cases hq : exprB y with
                     | false =>
                       go_wp2
                       go_ret
                       exact ⟨ret_bool (by rw [HT.out, HTOP.out, HP.out, HD.out]; simp [hq]), HB2.out⟩
                     | true =>
                       go_wp2
                       have HP2 : Hid (x.kids.all exprB = (x.kids.drop (j + 1)).all exprB) := by
                         show x.kids.all exprB = (x.kids.drop (j + 1)).all exprB
                         rw [HP.out, HD.out]; simp [hq]
                       refine ⟨?_, by simp [intOf]; omega⟩
                       first
                         | exact ⟨j + 1, by omega, by go_num, HP2, HB2⟩
                         | ((repeat apply Exists.intro)
                            refine ⟨⟨j + 1, by omega, ?_, HP2, HB2⟩, rfl⟩
                            go_num)
                   · obtain rfl : j = n' := by omega
                     have HE : Hid (x.kids.drop j = []) := List.drop_of_length_le (by rw [HL.out]; exact Nat.le_refl _)
                     go_wp2
                     go_ret
                     exact ⟨ret_bool (by rw [HT.out, HTOP.out, HP.out, HE.out]; rfl), HB.out⟩)
        | false =>
          have hz1 : (x.num != 0) = true := by simp at hz0 ⊢; exact hz0
          go_enter Try.func71, Try.ntmps71
          go_wp2_with (first
            | (go_at_call 84; refine (HKC.out _).mono ?_; rintro e w' ⟨rfl, rfl⟩)
            | (go_at_call 44; refine (refIsName_any _ ws _).mono ?_; rintro e w' ⟨rfl, rfl⟩))
          all_goals first
            | (go_ret
               refine ⟨ret_bool ?_, by go_grown⟩
               rw [HT.out, HC.out]
               clear HT HC HEL HL IH HKC
               simp_all
               first | done | (intros; omega))
            | (have HTOP : Hid (exprTop x = true) := by
                 show exprTop x = true
                 rw [HC.out]
                 clear HT HC HEL HL IH HKC
                 simp_all
                 first | done | (intros; omega)
               go_loopw [81] (fun v81 w' => ∃ j : Nat, j ≤ n' ∧ v81 = .int .i64 j ∧ Hid (x.kids.all exprB = (x.kids.drop j).all exprB) ∧ Hid (Below w.heap.size w w')) (fun v81 _ => n' - (intOf v81).toNat)
               case atStart => exact ⟨0, by omega, rfl, rfl, by show Below w.heap.size w _; go_grown⟩
               case round =>
                 obtain ⟨j, hj, rfl, HP, HB⟩ := hrel
                 by_cases hlt : j < n'
                 · obtain ⟨y, hy⟩ : ∃ y, x.kids[j]? = some y := ⟨_, List.getElem?_eq_getElem (by rw [HL.out]; exact hlt)⟩
                   have HY := Lib.hid hy
                   clear hy
                   obtain ⟨b, off, cs, rfl, hbl, hc, hr⟩ := HEL.out j _ HY.out
                   obtain ⟨d2, a2, n2, cap2, hd2, rfl, -⟩ := hr.inv
                   have HR := Lib.hid hr
                   obtain ⟨c0, c1, c2, c3, -⟩ := cellsAt_of_block (HB.out.block b hbl) hc
                   have HD : Hid (x.kids.drop j = y :: x.kids.drop (j + 1)) := drop_of_getElem? HY.out
                   have HB1 : Hid (∀ X, Below w.heap.size w (wr.alloc X)) := fun X => HB.out.alloc HB.out.size X
                   clear hc hr
                   go_wp2_with fail
                   (with_reducible refine (IH.out d' hd _ [_, _, _, _] y (HR.out.mono ?_ ?_)).mono ?_)
                   · exact fun k hk => Nat.lt_of_lt_of_le hk (HB1.out _).size
                   · exact fun k hk => (HB1.out _).block k hk
                   rintro e w2 ⟨rfl, hb2⟩
                   have HB2 : Hid (Below w.heap.size w w2) := afterCall (HB1.out _) hb2
                   clear hb2
                   cases hq : exprB y with
                   | false =>
                     go_wp2
                     go_ret
                     exact ⟨ret_bool (by rw [HT.out, HTOP.out, HP.out, HD.out]; simp [hq]), HB2.out⟩
                   | true =>
                     go_wp2
                     have HP2 : Hid (x.kids.all exprB = (x.kids.drop (j + 1)).all exprB) := by
                       show x.kids.all exprB = (x.kids.drop (j + 1)).all exprB
                       rw [HP.out, HD.out]; simp [hq]
                     refine ⟨?_, by simp [intOf]; omega⟩
                     first
                       | exact ⟨j + 1, by omega, by go_num, HP2, HB2⟩
                       | ((repeat apply Exists.intro)
                          refine ⟨⟨j + 1, by omega, ?_, HP2, HB2⟩, rfl⟩
                          go_num)
                 · obtain rfl : j = n' := by omega
                   have HE : Hid (x.kids.drop j = []) := List.drop_of_length_le (by rw [HL.out]; exact Nat.le_refl _)
                   go_wp2
                   go_ret
                   exact ⟨ret_bool (by rw [HT.out, HTOP.out, HP.out, HE.out]; rfl), HB.out⟩)
end Go.Proofs.Ythhpcjoaogmhbaa
end
