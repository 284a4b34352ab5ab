/- What a slice reads as in memory, as plain Lean data. -/
import Derived.Test.YtgceaicokacgjaaDoorChecked
import Derived.WalkKit
import Derived.ProofKit
import Derived.Lib.Hide
import Derived.Deep.QuietTactic
namespace Go.Proofs.YtgceaicokacgjaaDoor
open Go.RowKit

/-- The cells of a row from 'off' on. -/
def cellsAt (w : World) (b : Nat) : Nat → List Value → Prop
  | _, [] => True
  | o, v :: r => w.cell? ⟨b, o, none⟩ = some v ∧ cellsAt w b (o + 1) r

theorem cellsAt_of_block {w w' : World} {b : Nat} (h : w'.heap[b]? = w.heap[b]?) : ∀ {cs : List Value} {o : Nat}, cellsAt w b o cs → cellsAt w' b o cs
  | [], _, _ => trivial
  | _ :: _, _, ⟨h1, h2⟩ => ⟨(World.cell?_of_block (w := w) h).trans h1, cellsAt_of_block h h2⟩

/-- No string, slice or map that is read takes more bytes. -/
def maxS : Nat := 140737488351232

/-- A slice value reads as a list. -/
def RSl {α : Type} (sz : Nat) (R : List Value → α → Prop) (w : World) (I : Nat → Prop) (v : Value) (l : List α) : Prop :=
  ∃ a n cap, v = .slice a n cap ∧ l.length = n ∧ n ≤ cap ∧ cap ≤ maxS ∧
    ∀ i x, l[i]? = some x → ∃ b off cs, a = some ⟨b, off, none⟩ ∧ I b ∧ cellsAt w b (off + i * sz) cs ∧ R cs x

theorem RSl.mono {α : Type} {sz : Nat} {R R' : List Value → α → Prop} {w w' : World} {I I' : Nat → Prop} {v : Value} {l : List α}
    (h : RSl sz R w I v l) (hI : ∀ b, I b → I' b) (hw : ∀ b, I b → w'.heap[b]? = w.heap[b]?) (hR : ∀ cs x, x ∈ l → R cs x → R' cs x) : RSl sz R' w' I' v l := by
  obtain ⟨a, n, cap, hv, hn, h1, h2, h3⟩ := h
  refine ⟨a, n, cap, hv, hn, h1, h2, fun i x hi => ?_⟩
  obtain ⟨b, off, cs, ha, hb, hc, hr⟩ := h3 i x hi
  exact ⟨b, off, cs, ha, hI b hb, cellsAt_of_block (hw b hb) hc, hR _ _ (List.mem_of_getElem? hi) hr⟩

theorem RSl.shape {α : Type} {sz : Nat} {R : List Value → α → Prop} {w : World} {I : Nat → Prop} {v : Value} {l : List α} (h : RSl sz R w I v l) :
    ∃ a n cap, v = .slice a n cap := let ⟨a, n, cap, hv, _⟩ := h; ⟨a, n, cap, hv⟩

theorem cell_lt {w : World} {a : Addr} {v : Value} (h : w.cell? a = some v) : a.block < w.heap.size := by
  unfold World.cell? at h
  split at h
  · rename_i h'; exact (Array.getElem?_eq_some_iff.1 h').1
  · cases h

theorem drop_of_getElem? {α : Type} {l : List α} {j : Nat} {x : α} (h : l[j]? = some x) : l.drop j = x :: l.drop (j + 1) := by
  obtain ⟨hj, rfl⟩ := List.getElem?_eq_some_iff.1 h
  exact List.drop_eq_getElem_cons hj
theorem next {w1 w2 : World} {b o : Nat} {v : Value} (hb : Below w1.heap.size w1 w2) (h : w1.cell? ⟨b, o, none⟩ = some v) : w2.cell? ⟨b, o, none⟩ = some v :=
  (hb.cell (p := ⟨b, o, none⟩) (cell_lt h)).trans h
theorem nextB {W w1 w2 : World} (hb : Below w1.heap.size w1 w2) (h : Hid (Below W.heap.size W w1)) : Hid (Below W.heap.size W w2) :=
  h.out.trans (hb.mono h.out.size)
theorem afterCall {W W1 w1 : World} (h : Below W.heap.size W W1) (hb : Below W1.heap.size W1 w1) : Hid (Below W.heap.size W w1) := h.trans (hb.mono h.size)
theorem len2 {α : Type} {l : List α} (h : l.length = 2) : ∃ a b, l = [a, b] := by
  match l, h with | [a, b], _ => exact ⟨a, b, rfl⟩
theorem len4 {α : Type} {l : List α} (h : l.length = 4) : ∃ a b c d, l = [a, b, c, d] := by
  match l, h with | [a, b, c, d], _ => exact ⟨a, b, c, d, rfl⟩
theorem len7 {α : Type} {l : List α} (h : l.length = 7) : ∃ a b c d e f g, l = [a, b, c, d, e, f, g] := by
  match l, h with | [a, b, c, d, e, f, g], _ => exact ⟨a, b, c, d, e, f, g, rfl⟩
theorem rsl_nil {α : Type} (sz : Nat) (R : List Value → α → Prop) (w : World) (I : Nat → Prop) : RSl sz R w I (.slice none 0 0) ([] : List α) :=
  ⟨none, 0, 0, rfl, rfl, Nat.le_refl _, by unfold maxS; omega, fun i x h => by simp at h⟩
theorem below_keeps {w w' : World} (hb : Below w.heap.size w w') : ∀ b, b < w.heap.size → w'.heap[b]? = w.heap[b]? := fun b h => hb.block b h

/-! ### A region that draws its order, whose calls may make memory but change none of what is there -/
structure WB (B : Nat) (w : World) where
  val : World
  prop : Below B w val
instance {B : Nat} {w : World} : Nonempty (WB B w) := ⟨⟨w, Below.refl _ _⟩⟩

theorem wp_region_below {P : Go.Program} {id : Nat} {Q : Exit → Act → World → Prop} {a : Act} {w : World} {l : List Oper} (B : Nat) (hm : P.follows .mixedOrders = true) (hB : Region.lexB .any l.toArray = true)
    (h : wpQuiet P l.toArray (fun w' => ∃ x : WB B w, w' = x.val) (fun a' => ∀ w', (∃ x : WB B w, w' = x.val) → Q .normal a' w') l a) : (Code.region id l.toArray true).wp P Q a w :=
  wp_region_quiet (C := fun w' => ∃ x : WB B w, w' = x.val) hm hB ⟨⟨_, (Below.refl _ _).drew⟩, rfl⟩ (by simpa using h)

theorem Calls.quiet_below {P : Go.Program} {f : FuncId} {args : Array Value} {B : Nat} {w : World} {x : WB B w} {v : Value} (hB : B ≤ w.heap.size)
    (h : Calls P f args x.val fun e w' => e = .returned v ∧ Below x.val.heap.size x.val w') : Calls P f args x.val fun e w'' => e = .returned v ∧ ∃ y : WB B w, w'' = y.val :=
  h.mono fun _ w' ⟨he, hb⟩ => ⟨he, ⟨w', x.prop.trans (hb.mono (Nat.le_trans hB x.prop.size))⟩, rfl⟩

def RInt (cs : List Value) (x : Int) : Prop := cs = [.int .i64 x] ∧ (Lit.int .i64 x).wf = true
end Go.Proofs.YtgceaicokacgjaaDoor
