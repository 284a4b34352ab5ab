/- Joined by my own program, in build order: Base. -/
import Derived.Test.YtbmbmcdaabhgnaaDoorChecked
import Derived.WalkKit
import Derived.ProofKit
import Derived.Lib.Hide
import Derived.Deep.QuietTactic
set_option linter.unusedVariables false
set_option linter.unusedSimpArgs false
section
namespace Go.Proofs.YtbmbmcdaabhgnaaDoor
open Go.RowKit
def cellsAt (w : World) (b : Nat) : Nat → List Value → Prop
  | _, [] => True
  | o, v :: r => w.cell? ⟨b, o, none⟩ = some v ∧ cellsAt w b (o + 1) r
theorem cellsAt_of_block {w w' : World} {b : Nat} (h : w'.heap[b]? = w.heap[b]?) : ∀ {cs : List Value} {o : Nat}, cellsAt w b o cs → cellsAt w' b o cs
  | [], _, _ => trivial
  | _ :: _, _, ⟨h1, h2⟩ => ⟨(World.cell?_of_block (w := w) h).trans h1, cellsAt_of_block h h2⟩
def maxS : Nat := 140737488351232
def maxC : Nat := 9223372036854775807
def RSl {α : Type} (sz : Nat) (R : List Value → α → Prop) (w : World) (I : Nat → Prop) (v : Value) (l : List α) : Prop :=
  ∃ a n cap, v = .slice a n cap ∧ l.length = n ∧ n ≤ cap ∧ cap ≤ maxC ∧
    ∀ i x, l[i]? = some x → ∃ b off cs, a = some ⟨b, off, none⟩ ∧ I b ∧ cellsAt w b (off + i * sz) cs ∧ R cs x
theorem RSl.mono {α : Type} {sz : Nat} {R R' : List Value → α → Prop} {w w' : World} {I I' : Nat → Prop} {v : Value} {l : List α}
    (h : RSl sz R w I v l) (hI : ∀ b, I b → I' b) (hw : ∀ b, I b → w'.heap[b]? = w.heap[b]?) (hR : ∀ cs x, x ∈ l → R cs x → R' cs x) : RSl sz R' w' I' v l := by
  obtain ⟨a, n, cap, hv, hn, h1, h2, h3⟩ := h
  refine ⟨a, n, cap, hv, hn, h1, h2, fun i x hi => ?_⟩
  obtain ⟨b, off, cs, ha, hb, hc, hr⟩ := h3 i x hi
  exact ⟨b, off, cs, ha, hI b hb, cellsAt_of_block (hw b hb) hc, hR _ _ (List.mem_of_getElem? hi) hr⟩
theorem RSl.shape {α : Type} {sz : Nat} {R : List Value → α → Prop} {w : World} {I : Nat → Prop} {v : Value} {l : List α} (h : RSl sz R w I v l) :
    ∃ a n cap, v = .slice a n cap := let ⟨a, n, cap, hv, _⟩ := h; ⟨a, n, cap, hv⟩
theorem cell_lt {w : World} {a : Addr} {v : Value} (h : w.cell? a = some v) : a.block < w.heap.size := by
  unfold World.cell? at h
  split at h
  · rename_i h'; exact (Array.getElem?_eq_some_iff.1 h').1
  · cases h
theorem next {w1 w2 : World} {b o : Nat} {v : Value} (hb : Below w1.heap.size w1 w2) (h : w1.cell? ⟨b, o, none⟩ = some v) : w2.cell? ⟨b, o, none⟩ = some v :=
  (hb.cell (p := ⟨b, o, none⟩) (cell_lt h)).trans h
theorem nextB {W w1 w2 : World} (hb : Below w1.heap.size w1 w2) (h : Hid (Below W.heap.size W w1)) : Hid (Below W.heap.size W w2) :=
  h.out.trans (hb.mono h.out.size)
theorem afterCall {W W1 w1 : World} (h : Below W.heap.size W W1) (hb : Below W1.heap.size W1 w1) : Hid (Below W.heap.size W w1) := h.trans (hb.mono h.size)
theorem len2 {α : Type} {l : List α} (h : l.length = 2) : ∃ a b, l = [a, b] := by
  match l, h with | [a, b], _ => exact ⟨a, b, rfl⟩
theorem len4 {α : Type} {l : List α} (h : l.length = 4) : ∃ a b c d, l = [a, b, c, d] := by
  match l, h with | [a, b, c, d], _ => exact ⟨a, b, c, d, rfl⟩
theorem len7 {α : Type} {l : List α} (h : l.length = 7) : ∃ a b c d e f g, l = [a, b, c, d, e, f, g] := by
  match l, h with | [a, b, c, d, e, f, g], _ => exact ⟨a, b, c, d, e, f, g, rfl⟩
structure WB (B : Nat) (w : World) where
  val : World
  prop : Below B w val
instance {B : Nat} {w : World} : Nonempty (WB B w) := ⟨⟨w, Below.refl _ _⟩⟩
structure Slot where
  type : ByteArray
  name : ByteArray
structure Expr where
  kind : Int
  num : Int
  name : ByteArray
  kids : List Expr
structure Stmt where
  kind : Int
  num : Int
  type : ByteArray
  name : ByteArray
  exprs : List Expr
  thn : List Stmt
  els : List Stmt
structure Method where
  type : ByteArray
  name : ByteArray
  params : List Slot
  body : List Stmt
structure Class where
  name : ByteArray
  super : ByteArray
  fields : List Slot
  methods : List Method
structure Program where
  classes : List Class
  main : List Stmt
def RSlot (cs : List Value) (x : Slot) : Prop := cs = [.string x.type, .string x.name] ∧ x.type.size ≤ maxS ∧ x.name.size ≤ maxS
def RSlots (w : World) (I : Nat → Prop) : Value → List Slot → Prop := RSl 2 RSlot w I
def RExpr : Nat → World → (Nat → Prop) → List Value → Expr → Prop
  | 0, _, _, _, _ => False
  | d + 1, w, I, cs, x => ∃ kv, cs = [.int .i64 x.kind, .int .i64 x.num, .string x.name, kv] ∧ (Lit.int .i64 x.kind).wf = true ∧ (Lit.int .i64 x.num).wf = true ∧ x.name.size ≤ maxS ∧ RSl 4 (RExpr d w I) w I kv x.kids
def RExprs (d : Nat) (w : World) (I : Nat → Prop) : Value → List Expr → Prop := RSl 4 (RExpr d w I) w I
def RStmt : Nat → World → (Nat → Prop) → List Value → Stmt → Prop
  | 0, _, _, _, _ => False
  | d + 1, w, I, cs, x => ∃ ev tv fv, cs = [.int .i64 x.kind, .int .i64 x.num, .string x.type, .string x.name, ev, tv, fv] ∧ (Lit.int .i64 x.kind).wf = true ∧ (Lit.int .i64 x.num).wf = true ∧ x.type.size ≤ maxS ∧ x.name.size ≤ maxS ∧
      RExprs d w I ev x.exprs ∧ RSl 7 (RStmt d w I) w I tv x.thn ∧ RSl 7 (RStmt d w I) w I fv x.els
def RStmts (d : Nat) (w : World) (I : Nat → Prop) : Value → List Stmt → Prop := RSl 7 (RStmt d w I) w I
def RMethod (d : Nat) (w : World) (I : Nat → Prop) (cs : List Value) (x : Method) : Prop :=
  ∃ pv bv, cs = [.string x.type, .string x.name, pv, bv] ∧ x.type.size ≤ maxS ∧ x.name.size ≤ maxS ∧ RSlots w I pv x.params ∧ RStmts d w I bv x.body
def RMethods (d : Nat) (w : World) (I : Nat → Prop) : Value → List Method → Prop := RSl 4 (RMethod d w I) w I
def RClass (d : Nat) (w : World) (I : Nat → Prop) (cs : List Value) (x : Class) : Prop :=
  ∃ fv mv, cs = [.string x.name, .string x.super, fv, mv] ∧ x.name.size ≤ maxS ∧ x.super.size ≤ maxS ∧ RSlots w I fv x.fields ∧ RMethods d w I mv x.methods
def RClasses (d : Nat) (w : World) (I : Nat → Prop) : Value → List Class → Prop := RSl 4 (RClass d w I) w I
def RProgram (d : Nat) (w : World) (I : Nat → Prop) (v : Value) (p : Program) : Prop :=
  ∃ cv mv, v = .agg #[cv, mv] ∧ RClasses d w I cv p.classes ∧ RStmts d w I mv p.main
section
variable {w w' : World} {I I' : Nat → Prop} (hI : ∀ b, I b → I' b) (hw : ∀ b, I b → w'.heap[b]? = w.heap[b]?)
include hI hw
theorem RSlots.mono {v : Value} {l : List Slot} (h : RSlots w I v l) : RSlots w' I' v l := RSl.mono h hI hw fun _ _ _ h => h
theorem RExpr.mono : ∀ {d : Nat} {cs : List Value} {x : Expr}, RExpr d w I cs x → RExpr d w' I' cs x
  | 0, _, _, h => h
  | _ + 1, _, _, ⟨kv, h1, h2, h3, h4, h5⟩ => ⟨kv, h1, h2, h3, h4, RSl.mono h5 hI hw fun _ _ _ h => RExpr.mono h⟩
theorem RExprs.mono {d : Nat} {v : Value} {l : List Expr} (h : RExprs d w I v l) : RExprs d w' I' v l := RSl.mono h hI hw fun _ _ _ h => RExpr.mono hI hw h
theorem RStmt.mono : ∀ {d : Nat} {cs : List Value} {x : Stmt}, RStmt d w I cs x → RStmt d w' I' cs x
  | 0, _, _, h => h
  | _ + 1, _, _, ⟨ev, tv, fv, h1, h2, h3, h4, h5, h6, h7, h8⟩ => ⟨ev, tv, fv, h1, h2, h3, h4, h5, RExprs.mono hI hw h6, RSl.mono h7 hI hw fun _ _ _ h => RStmt.mono h, RSl.mono h8 hI hw fun _ _ _ h => RStmt.mono h⟩
theorem RStmts.mono {d : Nat} {v : Value} {l : List Stmt} (h : RStmts d w I v l) : RStmts d w' I' v l := RSl.mono h hI hw fun _ _ _ h => RStmt.mono hI hw h
theorem RMethod.mono {d : Nat} {cs : List Value} {x : Method} (h : RMethod d w I cs x) : RMethod d w' I' cs x :=
  let ⟨pv, bv, h1, h2, h3, h4, h5⟩ := h
  ⟨pv, bv, h1, h2, h3, h4.mono hI hw, h5.mono hI hw⟩
theorem RMethods.mono {d : Nat} {v : Value} {l : List Method} (h : RMethods d w I v l) : RMethods d w' I' v l := RSl.mono h hI hw fun _ _ _ h => RMethod.mono hI hw h
theorem RClass.mono {d : Nat} {cs : List Value} {x : Class} (h : RClass d w I cs x) : RClass d w' I' cs x :=
  let ⟨fv, mv, h1, h2, h3, h4, h5⟩ := h
  ⟨fv, mv, h1, h2, h3, h4.mono hI hw, h5.mono hI hw⟩
theorem RClasses.mono {d : Nat} {v : Value} {l : List Class} (h : RClasses d w I v l) : RClasses d w' I' v l := RSl.mono h hI hw fun _ _ _ h => RClass.mono hI hw h
theorem RProgram.mono {d : Nat} {v : Value} {p : Program} (h : RProgram d w I v p) : RProgram d w' I' v p :=
  let ⟨cv, mv, h1, h2, h3⟩ := h
  ⟨cv, mv, h1, h2.mono hI hw, h3.mono hI hw⟩
end
theorem RExpr.inv {d : Nat} {w : World} {I : Nat → Prop} {cs : List Value} {x : Expr} (h : RExpr d w I cs x) : ∃ d' a n cap, d' < d ∧ cs = [.int .i64 x.kind, .int .i64 x.num, .string x.name, .slice a n cap] ∧ (Lit.int .i64 x.kind).wf = true ∧ (Lit.int .i64 x.num).wf = true ∧ x.name.size ≤ maxS ∧ RExprs d' w I (.slice a n cap) x.kids := by
  cases d with
  | zero => exact h.elim
  | succ d =>
    obtain ⟨kv, h1, h2, h3, h4, h5⟩ := h
    obtain ⟨a, n, cap, rfl⟩ := h5.shape
    exact ⟨d, a, n, cap, Nat.lt_succ_self _, h1, h2, h3, h4, h5⟩
theorem RStmt.inv {d : Nat} {w : World} {I : Nat → Prop} {cs : List Value} {x : Stmt} (h : RStmt d w I cs x) : ∃ d' a n cap a' n' cap' a'' n'' cap'', d' < d ∧
    cs = [.int .i64 x.kind, .int .i64 x.num, .string x.type, .string x.name, .slice a n cap, .slice a' n' cap', .slice a'' n'' cap''] ∧ (Lit.int .i64 x.kind).wf = true ∧ (Lit.int .i64 x.num).wf = true ∧ x.type.size ≤ maxS ∧ x.name.size ≤ maxS ∧
    RExprs d' w I (.slice a n cap) x.exprs ∧ RStmts d' w I (.slice a' n' cap') x.thn ∧ RStmts d' w I (.slice a'' n'' cap'') x.els := by
  cases d with
  | zero => exact h.elim
  | succ d =>
    obtain ⟨ev, tv, fv, h1, h2, h3, h4, h5, h6, h7, h8⟩ := h
    obtain ⟨a, n, cap, rfl⟩ := h6.shape
    obtain ⟨a', n', cap', rfl⟩ := h7.shape
    obtain ⟨a'', n'', cap'', rfl⟩ := h8.shape
    exact ⟨d, _, _, _, _, _, _, _, _, _, Nat.lt_succ_self _, h1, h2, h3, h4, h5, h6, h7, h8⟩
end Go.Proofs.YtbmbmcdaabhgnaaDoor
end
