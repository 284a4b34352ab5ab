/- Joined by my own program, in build order: Basic. -/
import Derived.Test.YtcldeoolglhdoaaDoorChecked
import Derived.WalkKit
import Derived.ProofKit
import Derived.Lib.Hide
import Derived.Deep.QuietTactic
set_option linter.unusedVariables false
set_option linter.unusedSimpArgs false
section
namespace Go.Proofs.YtcldeoolglhdoaaDoor
open Go.RowKit
def cellsAt (w : World) (b : Nat) : Nat → List Value → Prop
  | _, [] => True
  | o, v :: r => w.cell? ⟨b, o, none⟩ = some v ∧ cellsAt w b (o + 1) r
theorem cellsAt_of_block {w w' : World} {b : Nat} (h : w'.heap[b]? = w.heap[b]?) : ∀ {cs : List Value} {o : Nat}, cellsAt w b o cs → cellsAt w' b o cs
  | [], _, _ => trivial
  | _ :: _, _, ⟨h1, h2⟩ => ⟨(World.cell?_of_block (w := w) h).trans h1, cellsAt_of_block h h2⟩
def maxS : Nat := 140737488351232
def RSl {α : Type} (sz : Nat) (R : List Value → α → Prop) (w : World) (I : Nat → Prop) (v : Value) (l : List α) : Prop :=
  ∃ a n cap, v = .slice a n cap ∧ l.length = n ∧ n ≤ cap ∧ cap ≤ maxS ∧
    ∀ i x, l[i]? = some x → ∃ b off cs, a = some ⟨b, off, none⟩ ∧ I b ∧ cellsAt w b (off + i * sz) cs ∧ R cs x
theorem RSl.mono {α : Type} {sz : Nat} {R R' : List Value → α → Prop} {w w' : World} {I I' : Nat → Prop} {v : Value} {l : List α}
    (h : RSl sz R w I v l) (hI : ∀ b, I b → I' b) (hw : ∀ b, I b → w'.heap[b]? = w.heap[b]?) (hR : ∀ cs x, x ∈ l → R cs x → R' cs x) : RSl sz R' w' I' v l := by
  obtain ⟨a, n, cap, hv, hn, h1, h2, h3⟩ := h
  refine ⟨a, n, cap, hv, hn, h1, h2, fun i x hi => ?_⟩
  obtain ⟨b, off, cs, ha, hb, hc, hr⟩ := h3 i x hi
  exact ⟨b, off, cs, ha, hI b hb, cellsAt_of_block (hw b hb) hc, hR _ _ (List.mem_of_getElem? hi) hr⟩
theorem RSl.shape {α : Type} {sz : Nat} {R : List Value → α → Prop} {w : World} {I : Nat → Prop} {v : Value} {l : List α} (h : RSl sz R w I v l) :
    ∃ a n cap, v = .slice a n cap := let ⟨a, n, cap, hv, _⟩ := h; ⟨a, n, cap, hv⟩
theorem cell_lt {w : World} {a : Addr} {v : Value} (h : w.cell? a = some v) : a.block < w.heap.size := by
  unfold World.cell? at h
  split at h
  · rename_i h'; exact (Array.getElem?_eq_some_iff.1 h').1
  · cases h
theorem next {w1 w2 : World} {b o : Nat} {v : Value} (hb : Below w1.heap.size w1 w2) (h : w1.cell? ⟨b, o, none⟩ = some v) : w2.cell? ⟨b, o, none⟩ = some v :=
  (hb.cell (p := ⟨b, o, none⟩) (cell_lt h)).trans h
structure WB (B : Nat) (w : World) where
  val : World
  prop : Below B w val
instance {B : Nat} {w : World} : Nonempty (WB B w) := ⟨⟨w, Below.refl _ _⟩⟩
def RInt (cs : List Value) (x : Int) : Prop := cs = [.int .i64 x] ∧ (Lit.int .i64 x).wf = true
end Go.Proofs.YtcldeoolglhdoaaDoor
end
