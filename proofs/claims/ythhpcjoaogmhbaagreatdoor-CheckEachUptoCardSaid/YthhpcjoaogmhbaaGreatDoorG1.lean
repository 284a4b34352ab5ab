/- Joined by my own program, in build order: Base. -/
import Derived.Test.YthhpcjoaogmhbaaGreatDoorChecked
import Derived.WalkKit
import Derived.ProofKit
import Derived.Lib.Hide
import Derived.Deep.QuietTactic
set_option linter.unusedVariables false
set_option linter.unusedSimpArgs false
section
namespace Go.Proofs.YthhpcjoaogmhbaaGreatDoor
open Go.RowKit
def gL (w : World) (b : Nat) : Nat → List Value → Prop
 | _, [] => True
 | o, v :: r => w.cell? ⟨b, o, none⟩ = some v ∧ gL w b (o + 1) r
theorem aW {w w' : World} {b : Nat} (h : w'.heap[b]? = w.heap[b]?) : ∀ {cs : List Value} {o : Nat}, gL w b o cs → gL w' b o cs
 | [], _, _ => trivial
 | _ :: _, _, ⟨h1, h2⟩ => ⟨(World.cell?_of_block (w := w) h).trans h1, aW h h2⟩
def maxS : Nat := 140737488351232
def l8 : Nat := 9223372036854775807
def RSl {α : Type} (sz : Nat) (R : List Value → α → Prop) (w : World) (I : Nat → Prop) (v : Value) (l : List α) : Prop :=
 ∃ a n cap, v = .slice a n cap ∧ l.length = n ∧ n ≤ cap ∧ cap ≤ l8 ∧
   ∀ i x, l[i]? = some x → ∃ b off cs, a = some ⟨b, off, none⟩ ∧ I b ∧ gL w b (off + i * sz) cs ∧ R cs x
theorem RSl.mono {α : Type} {sz : Nat} {R R' : List Value → α → Prop} {w w' : World} {I I' : Nat → Prop} {v : Value} {l : List α}
 (h : RSl sz R w I v l) (hI : ∀ b, I b → I' b) (hw : ∀ b, I b → w'.heap[b]? = w.heap[b]?) (hR : ∀ cs x, x ∈ l → R cs x → R' cs x) : RSl sz R' w' I' v l := by
 obtain ⟨a, n, cap, hv, hn, h1, h2, h3⟩ := h
 refine ⟨a, n, cap, hv, hn, h1, h2, fun i x hi => ?_⟩
 obtain ⟨b, off, cs, ha, hb, hc, hr⟩ := h3 i x hi
 exact ⟨b, off, cs, ha, hI b hb, aW (hw b hb) hc, hR _ _ (List.mem_of_getElem? hi) hr⟩
theorem RSl.shape {α : Type} {sz : Nat} {R : List Value → α → Prop} {w : World} {I : Nat → Prop} {v : Value} {l : List α} (h : RSl sz R w I v l) :
 ∃ a n cap, v = .slice a n cap := let ⟨a, n, cap, hv, _⟩ := h; ⟨a, n, cap, hv⟩
theorem vZ {w : World} {a : Addr} {v : Value} (h : w.cell? a = some v) : a.block < w.heap.size := by
 unfold World.cell? at h
 split at h
 ·rename_i h'; exact (Array.getElem?_eq_some_iff.1 h').1
 ·cases h
theorem drop_of_getElem? {α : Type} {l : List α} {j : Nat} {x : α} (h : l[j]? = some x) : l.drop j = x :: l.drop (j + 1) := by
 obtain ⟨hj, rfl⟩ := List.getElem?_eq_some_iff.1 h
 exact List.drop_eq_getElem_cons hj
theorem next {w1 w2 : World} {b o : Nat} {v : Value} (hb : Below w1.heap.size w1 w2) (h : w1.cell? ⟨b, o, none⟩ = some v) : w2.cell? ⟨b, o, none⟩ = some v :=
 (hb.cell (p := ⟨b, o, none⟩) (vZ h)).trans h
theorem jK {W w1 w2 : World} (hb : Below w1.heap.size w1 w2) (h : Hid (Below W.heap.size W w1)) : Hid (Below W.heap.size W w2) :=
 h.out.trans (hb.mono h.out.size)
theorem dF {W W1 w1 : World} (h : Below W.heap.size W W1) (hb : Below W1.heap.size W1 w1) : Hid (Below W.heap.size W w1) := h.trans (hb.mono h.size)
theorem len2 {α : Type} {l : List α} (h : l.length = 2) : ∃ a b, l = [a, b] := by
 match l, h with | [a, b], _ => exact ⟨a, b, rfl⟩
theorem Nc {α : Type} {l : List α} (h : l.length = 4) : ∃ a b c d, l = [a, b, c, d] := by
 match l, h with | [a, b, c, d], _ => exact ⟨a, b, c, d, rfl⟩
theorem R6 {α : Type} {l : List α} (h : l.length = 7) : ∃ a b c d e f g, l = [a, b, c, d, e, f, g] := by
 match l, h with | [a, b, c, d, e, f, g], _ => exact ⟨a, b, c, d, e, f, g, rfl⟩
structure WB (B : Nat) (w : World) where
 val : World
 prop : Below B w val
instance {B : Nat} {w : World} : Nonempty (WB B w) := ⟨⟨w, Below.refl _ _⟩⟩
structure Slot where
 type : ByteArray
 name : ByteArray
structure Expr where
 kind : Int
 num : Int
 name : ByteArray
 kids : List Expr
structure Stmt where
 kind : Int
 num : Int
 type : ByteArray
 name : ByteArray
 exprs : List Expr
 thn : List Stmt
 els : List Stmt
structure Method where
 type : ByteArray
 name : ByteArray
 params : List Slot
 body : List Stmt
structure Class where
 name : ByteArray
 super : ByteArray
 fields : List Slot
 methods : List Method
structure Program where
 classes : List Class
 main : List Stmt
def DW (cs : List Value) (x : Slot) : Prop := cs = [.string x.type, .string x.name] ∧ x.type.size ≤ maxS ∧ x.name.size ≤ maxS
def lT (w : World) (I : Nat → Prop) : Value → List Slot → Prop := RSl 2 DW w I
def iG : Nat → World → (Nat → Prop) → List Value → Expr → Prop
 | 0, _, _, _, _ => False
 | d + 1, w, I, cs, x => ∃ kv, cs = [.int .i64 x.kind, .int .i64 x.num, .string x.name, kv] ∧ (Lit.int .i64 x.kind).wf = true ∧ (Lit.int .i64 x.num).wf = true ∧ x.name.size ≤ maxS ∧ RSl 4 (iG d w I) w I kv x.kids
def lU (d : Nat) (w : World) (I : Nat → Prop) : Value → List Expr → Prop := RSl 4 (iG d w I) w I
def gZ : Nat → World → (Nat → Prop) → List Value → Stmt → Prop
 | 0, _, _, _, _ => False
 | d + 1, w, I, cs, x => ∃ ev tv fv, cs = [.int .i64 x.kind, .int .i64 x.num, .string x.type, .string x.name, ev, tv, fv] ∧ (Lit.int .i64 x.kind).wf = true ∧ (Lit.int .i64 x.num).wf = true ∧ x.type.size ≤ maxS ∧ x.name.size ≤ maxS ∧
     lU d w I ev x.exprs ∧ RSl 7 (gZ d w I) w I tv x.thn ∧ RSl 7 (gZ d w I) w I fv x.els
def jH (d : Nat) (w : World) (I : Nat → Prop) : Value → List Stmt → Prop := RSl 7 (gZ d w I) w I
def jk (d : Nat) (w : World) (I : Nat → Prop) (cs : List Value) (x : Method) : Prop :=
 ∃ pv bv, cs = [.string x.type, .string x.name, pv, bv] ∧ x.type.size ≤ maxS ∧ x.name.size ≤ maxS ∧ lT w I pv x.params ∧ jH d w I bv x.body
def qK (d : Nat) (w : World) (I : Nat → Prop) : Value → List Method → Prop := RSl 4 (jk d w I) w I
def kG (d : Nat) (w : World) (I : Nat → Prop) (cs : List Value) (x : Class) : Prop :=
 ∃ fv mv, cs = [.string x.name, .string x.super, fv, mv] ∧ x.name.size ≤ maxS ∧ x.super.size ≤ maxS ∧ lT w I fv x.fields ∧ qK d w I mv x.methods
def mK (d : Nat) (w : World) (I : Nat → Prop) : Value → List Class → Prop := RSl 4 (kG d w I) w I
def iV (d : Nat) (w : World) (I : Nat → Prop) (v : Value) (p : Program) : Prop :=
 ∃ cv mv, v = .agg #[cv, mv] ∧ mK d w I cv p.classes ∧ jH d w I mv p.main
section
variable {w w' : World} {I I' : Nat → Prop} (hI : ∀ b, I b → I' b) (hw : ∀ b, I b → w'.heap[b]? = w.heap[b]?)
include hI hw
theorem lT.mono {v : Value} {l : List Slot} (h : lT w I v l) : lT w' I' v l := RSl.mono h hI hw fun _ _ _ h => h
theorem iG.mono : ∀ {d : Nat} {cs : List Value} {x : Expr}, iG d w I cs x → iG d w' I' cs x
 | 0, _, _, h => h
 | _ + 1, _, _, ⟨kv, h1, h2, h3, h4, h5⟩ => ⟨kv, h1, h2, h3, h4, RSl.mono h5 hI hw fun _ _ _ h => iG.mono h⟩
theorem lU.mono {d : Nat} {v : Value} {l : List Expr} (h : lU d w I v l) : lU d w' I' v l := RSl.mono h hI hw fun _ _ _ h => iG.mono hI hw h
theorem gZ.mono : ∀ {d : Nat} {cs : List Value} {x : Stmt}, gZ d w I cs x → gZ d w' I' cs x
 | 0, _, _, h => h
 | _ + 1, _, _, ⟨ev, tv, fv, h1, h2, h3, h4, h5, h6, h7, h8⟩ => ⟨ev, tv, fv, h1, h2, h3, h4, h5, lU.mono hI hw h6, RSl.mono h7 hI hw fun _ _ _ h => gZ.mono h, RSl.mono h8 hI hw fun _ _ _ h => gZ.mono h⟩
theorem jH.mono {d : Nat} {v : Value} {l : List Stmt} (h : jH d w I v l) : jH d w' I' v l := RSl.mono h hI hw fun _ _ _ h => gZ.mono hI hw h
theorem jk.mono {d : Nat} {cs : List Value} {x : Method} (h : jk d w I cs x) : jk d w' I' cs x :=
 let ⟨pv, bv, h1, h2, h3, h4, h5⟩ := h
 ⟨pv, bv, h1, h2, h3, h4.mono hI hw, h5.mono hI hw⟩
theorem qK.mono {d : Nat} {v : Value} {l : List Method} (h : qK d w I v l) : qK d w' I' v l := RSl.mono h hI hw fun _ _ _ h => jk.mono hI hw h
theorem kG.mono {d : Nat} {cs : List Value} {x : Class} (h : kG d w I cs x) : kG d w' I' cs x :=
 let ⟨fv, mv, h1, h2, h3, h4, h5⟩ := h
 ⟨fv, mv, h1, h2, h3, h4.mono hI hw, h5.mono hI hw⟩
theorem mK.mono {d : Nat} {v : Value} {l : List Class} (h : mK d w I v l) : mK d w' I' v l := RSl.mono h hI hw fun _ _ _ h => kG.mono hI hw h
theorem iV.mono {d : Nat} {v : Value} {p : Program} (h : iV d w I v p) : iV d w' I' v p :=
 let ⟨cv, mv, h1, h2, h3⟩ := h
 ⟨cv, mv, h1, h2.mono hI hw, h3.mono hI hw⟩
end
theorem iG.inv {d : Nat} {w : World} {I : Nat → Prop} {cs : List Value} {x : Expr} (h : iG d w I cs x) : ∃ d' a n cap, d' < d ∧ cs = [.int .i64 x.kind, .int .i64 x.num, .string x.name, .slice a n cap] ∧ (Lit.int .i64 x.kind).wf = true ∧ (Lit.int .i64 x.num).wf = true ∧ x.name.size ≤ maxS ∧ lU d' w I (.slice a n cap) x.kids := by
 cases d with
 | zero => exact h.elim
 | succ d =>
   obtain ⟨kv, h1, h2, h3, h4, h5⟩ := h
   obtain ⟨a, n, cap, rfl⟩ := h5.shape
   exact ⟨d, a, n, cap, Nat.lt_succ_self _, h1, h2, h3, h4, h5⟩
theorem gZ.inv {d : Nat} {w : World} {I : Nat → Prop} {cs : List Value} {x : Stmt} (h : gZ d w I cs x) : ∃ d' a n cap a' n' cap' a'' n'' cap'', d' < d ∧
 cs = [.int .i64 x.kind, .int .i64 x.num, .string x.type, .string x.name, .slice a n cap, .slice a' n' cap', .slice a'' n'' cap''] ∧ (Lit.int .i64 x.kind).wf = true ∧ (Lit.int .i64 x.num).wf = true ∧ x.type.size ≤ maxS ∧ x.name.size ≤ maxS ∧
 lU d' w I (.slice a n cap) x.exprs ∧ jH d' w I (.slice a' n' cap') x.thn ∧ jH d' w I (.slice a'' n'' cap'') x.els := by
 cases d with
 | zero => exact h.elim
 | succ d =>
   obtain ⟨ev, tv, fv, h1, h2, h3, h4, h5, h6, h7, h8⟩ := h
   obtain ⟨a, n, cap, rfl⟩ := h6.shape
   obtain ⟨a', n', cap', rfl⟩ := h7.shape
   obtain ⟨a'', n'', cap'', rfl⟩ := h8.shape
   exact ⟨d, _, _, _, _, _, _, _, _, _, Nat.lt_succ_self _, h1, h2, h3, h4, h5, h6, h7, h8⟩
end Go.Proofs.YthhpcjoaogmhbaaGreatDoor
end
