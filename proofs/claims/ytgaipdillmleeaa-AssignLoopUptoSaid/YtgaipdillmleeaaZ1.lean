/- Joined by my own program, in build order: Glob, Base, Read8, Maps, Round. -/
import Derived.Test.YtgaipdillmleeaaChecked
import Derived.WalkKit
import Derived.ProofKit
import Derived.Lib.Hide
import Derived.Deep.QuietTactic
import Derived.SizedLaws
import Derived.Shelf.SlIter.Nil
import Derived.Shelf.SlIter.Sorted
import Derived.Shelf.SortM.Plain
import Derived.Shelf.SortM.SortNone
import Derived.Shelf.SlMaps.Clone
import Derived.Shelf.SlMaps.DeleteFunc
import Derived.Test.YtgaipdillmleeaaProg
import Derived.OrdersIn
import Derived.OrdersHeld
import Derived.TacticsIn
import Derived.Deep.Quiet
import Derived.RangeFuncCalls
set_option linter.unusedVariables false
set_option linter.unusedSimpArgs false
section
/- Nothing is known of the library's variables. -/
namespace Go.Proofs.Ytgaipdillmleeaa
namespace V
open Go.RowKit
def GlobOk (_ : World) : Prop := True
theorem GlobOk.keep {w w' : World} (h : GlobOk w) (_ : Below w.heap.size w w') : GlobOk w' := h
end V
end Go.Proofs.Ytgaipdillmleeaa
end
section
/- What a slice, an expression, a statement, a class and a program read as in memory, as plain Lean data. -/
namespace Go.Proofs.Ytgaipdillmleeaa
open Go.RowKit

/-- The cells of a row from 'off' on. -/
def cellsAt (w : World) (b : Nat) : Nat → List Value → Prop
  | _, [] => True
  | o, v :: r => w.cell? ⟨b, o, none⟩ = some v ∧ cellsAt w b (o + 1) r

theorem cellsAt_of_block {w w' : World} {b : Nat} (h : w'.heap[b]? = w.heap[b]?) : ∀ {cs : List Value} {o : Nat}, cellsAt w b o cs → cellsAt w' b o cs
  | [], _, _ => trivial
  | _ :: _, _, ⟨h1, h2⟩ => ⟨(World.cell?_of_block (w := w) h).trans h1, cellsAt_of_block h h2⟩

/-- No string, slice or map that is read takes more bytes. -/
def maxS : Nat := 140737488351232

/-- No slice is longer. -/
def maxC : Nat := 9223372036854775807
/-- A slice value reads as a list. -/
def RSl {α : Type} (sz : Nat) (R : List Value → α → Prop) (w : World) (I : Nat → Prop) (v : Value) (l : List α) : Prop :=
  ∃ a n cap, v = .slice a n cap ∧ l.length = n ∧ n ≤ cap ∧ cap ≤ maxC ∧
    ∀ i x, l[i]? = some x → ∃ b off cs, a = some ⟨b, off, none⟩ ∧ I b ∧ cellsAt w b (off + i * sz) cs ∧ R cs x

theorem RSl.mono {α : Type} {sz : Nat} {R R' : List Value → α → Prop} {w w' : World} {I I' : Nat → Prop} {v : Value} {l : List α}
    (h : RSl sz R w I v l) (hI : ∀ b, I b → I' b) (hw : ∀ b, I b → w'.heap[b]? = w.heap[b]?) (hR : ∀ cs x, x ∈ l → R cs x → R' cs x) : RSl sz R' w' I' v l := by
  obtain ⟨a, n, cap, hv, hn, h1, h2, h3⟩ := h
  refine ⟨a, n, cap, hv, hn, h1, h2, fun i x hi => ?_⟩
  obtain ⟨b, off, cs, ha, hb, hc, hr⟩ := h3 i x hi
  exact ⟨b, off, cs, ha, hI b hb, cellsAt_of_block (hw b hb) hc, hR _ _ (List.mem_of_getElem? hi) hr⟩

theorem RSl.shape {α : Type} {sz : Nat} {R : List Value → α → Prop} {w : World} {I : Nat → Prop} {v : Value} {l : List α} (h : RSl sz R w I v l) :
    ∃ a n cap, v = .slice a n cap := let ⟨a, n, cap, hv, _⟩ := h; ⟨a, n, cap, hv⟩

theorem cell_lt {w : World} {a : Addr} {v : Value} (h : w.cell? a = some v) : a.block < w.heap.size := by
  unfold World.cell? at h
  split at h
  · rename_i h'; exact (Array.getElem?_eq_some_iff.1 h').1
  · cases h

theorem drop_of_getElem? {α : Type} {l : List α} {j : Nat} {x : α} (h : l[j]? = some x) : l.drop j = x :: l.drop (j + 1) := by
  obtain ⟨hj, rfl⟩ := List.getElem?_eq_some_iff.1 h
  exact List.drop_eq_getElem_cons hj
theorem next {w1 w2 : World} {b o : Nat} {v : Value} (hb : Below w1.heap.size w1 w2) (h : w1.cell? ⟨b, o, none⟩ = some v) : w2.cell? ⟨b, o, none⟩ = some v :=
  (hb.cell (p := ⟨b, o, none⟩) (cell_lt h)).trans h
theorem nextB {W w1 w2 : World} (hb : Below w1.heap.size w1 w2) (h : Hid (Below W.heap.size W w1)) : Hid (Below W.heap.size W w2) :=
  h.out.trans (hb.mono h.out.size)
theorem afterCall {W W1 w1 : World} (h : Below W.heap.size W W1) (hb : Below W1.heap.size W1 w1) : Hid (Below W.heap.size W w1) := h.trans (hb.mono h.size)
theorem len2 {α : Type} {l : List α} (h : l.length = 2) : ∃ a b, l = [a, b] := by
  match l, h with | [a, b], _ => exact ⟨a, b, rfl⟩
theorem len4 {α : Type} {l : List α} (h : l.length = 4) : ∃ a b c d, l = [a, b, c, d] := by
  match l, h with | [a, b, c, d], _ => exact ⟨a, b, c, d, rfl⟩
theorem len7 {α : Type} {l : List α} (h : l.length = 7) : ∃ a b c d e f g, l = [a, b, c, d, e, f, g] := by
  match l, h with | [a, b, c, d, e, f, g], _ => exact ⟨a, b, c, d, e, f, g, rfl⟩
theorem rsl_nil {α : Type} (sz : Nat) (R : List Value → α → Prop) (w : World) (I : Nat → Prop) : RSl sz R w I (.slice none 0 0) ([] : List α) :=
  ⟨none, 0, 0, rfl, rfl, Nat.le_refl _, by unfold maxC; omega, fun i x h => by simp at h⟩
theorem below_keeps {w w' : World} (hb : Below w.heap.size w w') : ∀ b, b < w.heap.size → w'.heap[b]? = w.heap[b]? := fun b h => hb.block b h

/-! ### A region that draws its order, whose calls may make memory but change none of what is there -/
structure WB (B : Nat) (w : World) where
  val : World
  prop : Below B w val
instance {B : Nat} {w : World} : Nonempty (WB B w) := ⟨⟨w, Below.refl _ _⟩⟩

theorem wp_region_below {P : Go.Program} {id : Nat} {Q : Exit → Act → World → Prop} {a : Act} {w : World} {l : List Oper} (B : Nat) (hm : P.follows .mixedOrders = true) (hB : Region.lexB .any l.toArray = true)
    (h : wpQuiet P l.toArray (fun w' => ∃ x : WB B w, w' = x.val) (fun a' => ∀ w', (∃ x : WB B w, w' = x.val) → Q .normal a' w') l a) : (Code.region id l.toArray true).wp P Q a w :=
  wp_region_quiet (C := fun w' => ∃ x : WB B w, w' = x.val) hm hB ⟨⟨_, (Below.refl _ _).drew⟩, rfl⟩ (by simpa using h)

theorem Calls.quiet_below {P : Go.Program} {f : FuncId} {args : Array Value} {B : Nat} {w : World} {x : WB B w} {v : Value} (hB : B ≤ w.heap.size)
    (h : Calls P f args x.val fun e w' => e = .returned v ∧ Below x.val.heap.size x.val w') : Calls P f args x.val fun e w'' => e = .returned v ∧ ∃ y : WB B w, w'' = y.val :=
  h.mono fun _ w' ⟨he, hb⟩ => ⟨he, ⟨w', x.prop.trans (hb.mono (Nat.le_trans hB x.prop.size))⟩, rfl⟩

structure Slot where
  type : ByteArray
  name : ByteArray

structure Expr where
  kind : Int
  num : Int
  name : ByteArray
  kids : List Expr

structure Stmt where
  kind : Int
  num : Int
  type : ByteArray
  name : ByteArray
  exprs : List Expr
  thn : List Stmt
  els : List Stmt

structure Method where
  type : ByteArray
  name : ByteArray
  params : List Slot
  body : List Stmt

structure Class where
  name : ByteArray
  super : ByteArray
  fields : List Slot
  methods : List Method

structure Program where
  classes : List Class
  main : List Stmt

def RSlot (cs : List Value) (x : Slot) : Prop := cs = [.string x.type, .string x.name] ∧ x.type.size ≤ maxS ∧ x.name.size ≤ maxS
def RSlots (w : World) (I : Nat → Prop) : Value → List Slot → Prop := RSl 2 RSlot w I

def RExpr : Nat → World → (Nat → Prop) → List Value → Expr → Prop
  | 0, _, _, _, _ => False
  | d + 1, w, I, cs, x => ∃ kv, cs = [.int .i64 x.kind, .int .i64 x.num, .string x.name, kv] ∧ (Lit.int .i64 x.kind).wf = true ∧ (Lit.int .i64 x.num).wf = true ∧ x.name.size ≤ maxS ∧ RSl 4 (RExpr d w I) w I kv x.kids
def RExprs (d : Nat) (w : World) (I : Nat → Prop) : Value → List Expr → Prop := RSl 4 (RExpr d w I) w I

def RStmt : Nat → World → (Nat → Prop) → List Value → Stmt → Prop
  | 0, _, _, _, _ => False
  | d + 1, w, I, cs, x => ∃ ev tv fv, cs = [.int .i64 x.kind, .int .i64 x.num, .string x.type, .string x.name, ev, tv, fv] ∧ (Lit.int .i64 x.kind).wf = true ∧ (Lit.int .i64 x.num).wf = true ∧ x.type.size ≤ maxS ∧ x.name.size ≤ maxS ∧
      RExprs d w I ev x.exprs ∧ RSl 7 (RStmt d w I) w I tv x.thn ∧ RSl 7 (RStmt d w I) w I fv x.els
def RStmts (d : Nat) (w : World) (I : Nat → Prop) : Value → List Stmt → Prop := RSl 7 (RStmt d w I) w I

def RMethod (d : Nat) (w : World) (I : Nat → Prop) (cs : List Value) (x : Method) : Prop :=
  ∃ pv bv, cs = [.string x.type, .string x.name, pv, bv] ∧ x.type.size ≤ maxS ∧ x.name.size ≤ maxS ∧ RSlots w I pv x.params ∧ RStmts d w I bv x.body
def RMethods (d : Nat) (w : World) (I : Nat → Prop) : Value → List Method → Prop := RSl 4 (RMethod d w I) w I
def RClass (d : Nat) (w : World) (I : Nat → Prop) (cs : List Value) (x : Class) : Prop :=
  ∃ fv mv, cs = [.string x.name, .string x.super, fv, mv] ∧ x.name.size ≤ maxS ∧ x.super.size ≤ maxS ∧ RSlots w I fv x.fields ∧ RMethods d w I mv x.methods
def RClasses (d : Nat) (w : World) (I : Nat → Prop) : Value → List Class → Prop := RSl 4 (RClass d w I) w I
def RProgram (d : Nat) (w : World) (I : Nat → Prop) (v : Value) (p : Program) : Prop :=
  ∃ cv mv, v = .agg #[cv, mv] ∧ RClasses d w I cv p.classes ∧ RStmts d w I mv p.main

section
variable {w w' : World} {I I' : Nat → Prop} (hI : ∀ b, I b → I' b) (hw : ∀ b, I b → w'.heap[b]? = w.heap[b]?)
include hI hw
theorem RSlots.mono {v : Value} {l : List Slot} (h : RSlots w I v l) : RSlots w' I' v l := RSl.mono h hI hw fun _ _ _ h => h
theorem RExpr.mono : ∀ {d : Nat} {cs : List Value} {x : Expr}, RExpr d w I cs x → RExpr d w' I' cs x
  | 0, _, _, h => h
  | _ + 1, _, _, ⟨kv, h1, h2, h3, h4, h5⟩ => ⟨kv, h1, h2, h3, h4, RSl.mono h5 hI hw fun _ _ _ h => RExpr.mono h⟩
theorem RExprs.mono {d : Nat} {v : Value} {l : List Expr} (h : RExprs d w I v l) : RExprs d w' I' v l := RSl.mono h hI hw fun _ _ _ h => RExpr.mono hI hw h
theorem RStmt.mono : ∀ {d : Nat} {cs : List Value} {x : Stmt}, RStmt d w I cs x → RStmt d w' I' cs x
  | 0, _, _, h => h
  | _ + 1, _, _, ⟨ev, tv, fv, h1, h2, h3, h4, h5, h6, h7, h8⟩ => ⟨ev, tv, fv, h1, h2, h3, h4, h5, RExprs.mono hI hw h6, RSl.mono h7 hI hw fun _ _ _ h => RStmt.mono h, RSl.mono h8 hI hw fun _ _ _ h => RStmt.mono h⟩
theorem RStmts.mono {d : Nat} {v : Value} {l : List Stmt} (h : RStmts d w I v l) : RStmts d w' I' v l := RSl.mono h hI hw fun _ _ _ h => RStmt.mono hI hw h
theorem RMethod.mono {d : Nat} {cs : List Value} {x : Method} (h : RMethod d w I cs x) : RMethod d w' I' cs x :=
  let ⟨pv, bv, h1, h2, h3, h4, h5⟩ := h
  ⟨pv, bv, h1, h2, h3, h4.mono hI hw, h5.mono hI hw⟩
theorem RMethods.mono {d : Nat} {v : Value} {l : List Method} (h : RMethods d w I v l) : RMethods d w' I' v l := RSl.mono h hI hw fun _ _ _ h => RMethod.mono hI hw h
theorem RClass.mono {d : Nat} {cs : List Value} {x : Class} (h : RClass d w I cs x) : RClass d w' I' cs x :=
  let ⟨fv, mv, h1, h2, h3, h4, h5⟩ := h
  ⟨fv, mv, h1, h2, h3, h4.mono hI hw, h5.mono hI hw⟩
theorem RClasses.mono {d : Nat} {v : Value} {l : List Class} (h : RClasses d w I v l) : RClasses d w' I' v l := RSl.mono h hI hw fun _ _ _ h => RClass.mono hI hw h
theorem RProgram.mono {d : Nat} {v : Value} {p : Program} (h : RProgram d w I v p) : RProgram d w' I' v p :=
  let ⟨cv, mv, h1, h2, h3⟩ := h
  ⟨cv, mv, h1, h2.mono hI hw, h3.mono hI hw⟩
end

theorem RExpr.inv {d : Nat} {w : World} {I : Nat → Prop} {cs : List Value} {x : Expr} (h : RExpr d w I cs x) : ∃ d' a n cap, d' < d ∧ cs = [.int .i64 x.kind, .int .i64 x.num, .string x.name, .slice a n cap] ∧ (Lit.int .i64 x.kind).wf = true ∧ (Lit.int .i64 x.num).wf = true ∧ x.name.size ≤ maxS ∧ RExprs d' w I (.slice a n cap) x.kids := by
  cases d with
  | zero => exact h.elim
  | succ d =>
    obtain ⟨kv, h1, h2, h3, h4, h5⟩ := h
    obtain ⟨a, n, cap, rfl⟩ := h5.shape
    exact ⟨d, a, n, cap, Nat.lt_succ_self _, h1, h2, h3, h4, h5⟩

theorem RStmt.inv {d : Nat} {w : World} {I : Nat → Prop} {cs : List Value} {x : Stmt} (h : RStmt d w I cs x) : ∃ d' a n cap a' n' cap' a'' n'' cap'', d' < d ∧
    cs = [.int .i64 x.kind, .int .i64 x.num, .string x.type, .string x.name, .slice a n cap, .slice a' n' cap', .slice a'' n'' cap''] ∧ (Lit.int .i64 x.kind).wf = true ∧ (Lit.int .i64 x.num).wf = true ∧ x.type.size ≤ maxS ∧ x.name.size ≤ maxS ∧
    RExprs d' w I (.slice a n cap) x.exprs ∧ RStmts d' w I (.slice a' n' cap') x.thn ∧ RStmts d' w I (.slice a'' n'' cap'') x.els := by
  cases d with
  | zero => exact h.elim
  | succ d =>
    obtain ⟨ev, tv, fv, h1, h2, h3, h4, h5, h6, h7, h8⟩ := h
    obtain ⟨a, n, cap, rfl⟩ := h6.shape
    obtain ⟨a', n', cap', rfl⟩ := h7.shape
    obtain ⟨a'', n'', cap'', rfl⟩ := h8.shape
    exact ⟨d, _, _, _, _, _, _, _, _, _, Nat.lt_succ_self _, h1, h2, h3, h4, h5, h6, h7, h8⟩

end Go.Proofs.Ytgaipdillmleeaa
end
section
/- A reading of the statement's form, as the plain data of Base. -/
namespace Go.Proofs.Ytgaipdillmleeaa
open Go.RowKit

theorem list_of {α : Type} (p : Nat → α → Prop) : ∀ (n : Nat), (∀ i, i < n → ∃ x, p i x) → ∃ l : List α, l.length = n ∧ ∀ i x, l[i]? = some x → p i x
  | 0, _ => ⟨[], rfl, fun i x h => by simp at h⟩
  | n + 1, h => by
    obtain ⟨l, hl, hp⟩ := list_of p n (fun i hi => h i (by omega))
    obtain ⟨y, hy⟩ := h n (by omega)
    refine ⟨l ++ [y], by simp [hl], fun i x hx => ?_⟩
    rw [List.getElem?_append] at hx
    split at hx
    · exact hp i x hx
    · rename_i hlt
      have : i = n := by
        rcases Nat.lt_or_ge (i - l.length) 1 with h1 | h1
        · omega
        · rw [List.getElem?_eq_none (by simpa using h1)] at hx; cases hx
      subst this
      have h0 : i - l.length = 0 := by omega
      rw [h0] at hx
      simp at hx
      subst hx; exact hy

theorem cellsAt_of {w : World} {b : Nat} : ∀ {cs : List Value} {o : Nat}, (∀ i, i < cs.length → w.cell? ⟨b, o + i, none⟩ = cs[i]?) → cellsAt w b o cs
  | [], _, _ => trivial
  | v :: r, o, h => ⟨by simpa using h 0 (by simp), cellsAt_of fun i hi => by have := h (i + 1) (by simp; omega); simpa [Nat.add_assoc, Nat.add_comm 1 i] using this⟩

theorem add_block (a : Addr) (k : Nat) : (a.add k).block = a.block := by unfold Addr.add; split <;> rfl

theorem cellsAt_of_cells {w : World} {base : Nat} {a : Addr} {k n : Nat} {cs : List Value} (hn : 0 < n) (h : w.cells? base (a.add k) n = some cs) :
    ∃ b off, a = ⟨b, off, a.spot⟩ ∧ (a.spot = none ∨ k ≠ 0) ∧ b < w.heap.size ∧ cellsAt w b (off + k) cs ∧ cs.length = n := by
  obtain ⟨_, hlen, hc⟩ := World.cells?_some h
  obtain ⟨b, off, spot⟩ := a
  have h0 := hc 0 hn
  have hc0 : ∃ v, cs[0]? = some v := ⟨cs[0], by simp⟩
  obtain ⟨v, hv⟩ := hc0
  rw [hv] at h0
  have hlt := cell_lt h0
  have hb : ((Addr.mk b off spot).add k).add 0 = (Addr.mk b off spot).add k := by simp [Addr.add]
  have hs : spot = none ∨ k ≠ 0 := by
    by_cases hk : k = 0
    · left
      subst hk
      have := World.cell?_spot h0
      simpa [Addr.add] using this
    · right; exact hk
  refine ⟨b, off, rfl, hs, ?_, cellsAt_of fun i hi => ?_, hlen⟩
  · have : (((Addr.mk b off spot).add k).add 0).block = b := by rw [add_block, add_block]
    omega
  · rw [hlen] at hi
    have := hc i hi
    rw [← this]
    congr 1
    by_cases hk : k = 0
    · subst hk
      rcases hs with rfl | hs
      · by_cases h1 : i = 0 <;> simp [Addr.add, h1]
      · exact absurd rfl hs
    · by_cases h1 : i = 0 <;> simp [Addr.add, hk, h1]

section
variable {H : Type} {enc : TypeId × Value → H} {P : Go.Program} {w : World} {held : Bool}

/-- What a datum holds takes no more bytes than the reach. -/
def Fits (P : Go.Program) (t : TypeId) (d : DataW H) : Prop := ∀ n ∈ d.weights P t, n ≤ reachBytes

theorem weights_mem_all {P : Go.Program} {e : TypeId} : ∀ {l : List (DataW H)} {d : DataW H}, d ∈ l → ∀ n ∈ d.weights P e, n ∈ DataW.weightsAll P e l
  | [], _, h, _, _ => by cases h
  | x :: r, d, h, n, hn => by
    rw [DataW.weightsAll, List.mem_append]
    rcases List.mem_cons.1 h with rfl | h
    · exact .inl hn
    · exact .inr (weights_mem_all h n hn)

/-- A slice read, element by element. -/
theorem read_slice {α : Type} {t e : TypeId} {sz fuel : Nat} {cs : List Value} {x : DataW H × List MemPlace} {R : List Value → α → Prop} (ht : P.underlying t = some (.slice e)) (hsz : P.cellsOf e = sz) (hpos : 0 < sz)
    (hbytes : 0 < P.bytesOf e) (hfit : Fits P t x.1) (hR : ∀ n cs' y, n < fuel → DataW.trod enc P w 0 (fun _ => true) held n e cs' = some y → Fits P e y.1 → ∃ a : α, R cs' a) (h : DataW.trod enc P w 0 (fun _ => true) held fuel t cs = some x) :
    ∃ v, ∃ l : List α, cs = [v] ∧ RSl sz R w (· < w.heap.size) v l := by
  rcases DataW.trod_slice ht h with ⟨rfl, _⟩ | ⟨a, len, cap, elems, rest, n, hf, rfl, hxe, _, hl, hm, hlen, hel, hsp, _⟩
  · exact ⟨_, [], rfl, none, 0, 0, rfl, rfl, Nat.le_refl _, by unfold maxC; omega, fun i x h => by simp at h⟩
  · have _h0 := hm
    have hwt : x.1.weights P t = ((elems.map (·.1)).length + (rest.map (·.1)).length) * P.bytesOf e :: (DataW.weightsAll P e (elems.map (·.1)) ++ DataW.weightsAll P e (rest.map (·.1))) := by
      rw [hxe]; simp only [DataW.weights, ht]
    have hcap : cap ≤ maxC := by
      have h1 := hfit _ (by rw [hwt]; exact List.mem_cons_self ..)
      have h2 := (hsp rfl).1
      have h3 : (elems.map (·.1)).length + (rest.map (·.1)).length = cap := by simp only [List.length_map]; omega
      rw [h3] at h1
      have h4 : cap * 1 ≤ cap * P.bytesOf e := Nat.mul_le_mul_left _ hbytes
      unfold reachBytes at h1
      unfold maxC
      omega
    have hfe : ∀ z, z ∈ elems → Fits P e z.1 := fun z hz k hk => hfit k (by
      rw [hwt]
      exact List.mem_cons_of_mem _ (List.mem_append_left _ (weights_mem_all (List.mem_map_of_mem hz) k hk)))
    have hall : ∀ i, i < len → ∃ y : α, ∃ b off cs', a = ⟨b, off, none⟩ ∧ b < w.heap.size ∧ cellsAt w b (off + i * sz) cs' ∧ R cs' y := by
      intro i hi
      have h1 := hel i hi
      rw [hsz] at h1
      have h2 : ∃ z, elems[i]? = some z := ⟨elems[i], by simp⟩
      obtain ⟨z, hz⟩ := h2
      rw [hz] at h1
      cases hcell : w.cells? 0 (a.add (i * sz)) sz with
      | none => rw [hcell] at h1; simp at h1
      | some cs' =>
        rw [hcell] at h1
        have h1' : DataW.trod enc P w 0 (fun _ => true) held n e cs' = some z := by simpa using h1
        obtain ⟨b, off, ha, _, hb, hc, _⟩ := cellsAt_of_cells hpos hcell
        -- the address has no spot: element 0's cells are read, too
        have h00 := hel 0 (by omega)
        have h02 : ∃ z, elems[0]? = some z := ⟨elems[0], by simp⟩
        obtain ⟨z0, hz0⟩ := h02
        rw [hz0, hsz] at h00
        cases hcell0 : w.cells? 0 (a.add (0 * sz)) sz with
        | none => rw [hcell0] at h00; simp at h00
        | some cs0 =>
          obtain ⟨_, _, _, hs0, _⟩ := cellsAt_of_cells hpos hcell0
          have hsp : a.spot = none := by rcases hs0 with h | h; exact h; simp at h
          obtain ⟨y, hy⟩ := hR n cs' z (by omega) h1' (hfe z (List.mem_of_getElem? hz))
          exact ⟨y, b, off, cs', by rw [ha, hsp], hb, hc, hy⟩
    obtain ⟨l, hll, hp⟩ := list_of _ len hall
    refine ⟨_, l, rfl, some a, len, cap, rfl, hll, hl, hcap, fun i y hy => ?_⟩
    obtain ⟨b, off, cs', ha, hb, hc, hr⟩ := hp i y hy
    exact ⟨b, off, cs', by rw [ha], hb, hc, hr⟩
end

theorem RExpr.more : ∀ {d : Nat} {w : World} {I : Nat → Prop} {cs : List Value} {x : Expr} {d' : Nat}, d ≤ d' → RExpr d w I cs x → RExpr d' w I cs x
  | 0, _, _, _, _, _, _, h => h.elim
  | _ + 1, _, _, _, _, 0, hd, _ => absurd hd (by omega)
  | _ + 1, _, _, _, _, _ + 1, hd, ⟨kv, h1, h2, h3, h4, h5⟩ => ⟨kv, h1, h2, h3, h4, RSl.mono h5 (fun _ h => h) (fun _ _ => rfl) fun _ _ _ h => RExpr.more (by omega) h⟩
theorem RExprs.more {d d' : Nat} {w : World} {I : Nat → Prop} {v : Value} {l : List Expr} (hd : d ≤ d') (h : RExprs d w I v l) : RExprs d' w I v l := RSl.mono h (fun _ h => h) (fun _ _ => rfl) fun _ _ _ h => RExpr.more hd h
theorem RStmt.more : ∀ {d : Nat} {w : World} {I : Nat → Prop} {cs : List Value} {x : Stmt} {d' : Nat}, d ≤ d' → RStmt d w I cs x → RStmt d' w I cs x
  | 0, _, _, _, _, _, _, h => h.elim
  | _ + 1, _, _, _, _, 0, hd, _ => absurd hd (by omega)
  | _ + 1, _, _, _, _, _ + 1, hd, ⟨ev, tv, fv, h1, h2, h3, h4, h5, h6, h7, h8⟩ => ⟨ev, tv, fv, h1, h2, h3, h4, h5, RExprs.more (by omega) h6,
      RSl.mono h7 (fun _ h => h) (fun _ _ => rfl) fun _ _ _ h => RStmt.more (by omega) h, RSl.mono h8 (fun _ h => h) (fun _ _ => rfl) fun _ _ _ h => RStmt.more (by omega) h⟩
theorem RStmts.more {d d' : Nat} {w : World} {I : Nat → Prop} {v : Value} {l : List Stmt} (hd : d ≤ d') (h : RStmts d w I v l) : RStmts d' w I v l := RSl.mono h (fun _ h => h) (fun _ _ => rfl) fun _ _ _ h => RStmt.more hd h
section
variable {H : Type} {enc : TypeId × Value → H} {w : World} {held : Bool}
theorem fit_string {P : Go.Program} {t : TypeId} {s : ByteArray} {y : DataW H × List MemPlace} (h : y = (.lit (.string s.data.toList), [])) (hf : Fits P t y.1) : s.size ≤ maxS := by
  subst h
  have := hf s.data.toList.length (by simp [DataW.weights])
  unfold reachBytes at this
  have h2 : s.data.toList.length = s.size := rfl
  unfold maxS
  omega

/-- The fields' types and places of a struct, closed facts of the translation. -/
theorem fieldsExpr : (Try.prog.underlying 34).map (fun d => match d with | .struct fs => fs.toList.map (fun f => (f.type, f.offset)) | _ => []) = some [(3, 0), (2, 1), (9, 2), (32, 3)] := by kernel_rfl
theorem fieldsStmt : (Try.prog.underlying 36).map (fun d => match d with | .struct fs => fs.toList.map (fun f => (f.type, f.offset)) | _ => []) = some [(3, 0), (2, 1), (9, 2), (9, 3), (32, 4), (23, 5), (23, 6)] := by kernel_rfl

theorem read_struct {P : Go.Program} {t : TypeId} {fl : List (TypeId × Nat)} {fuel : Nat} {cs : List Value} {x : DataW H × List MemPlace}
    (hf : (P.underlying t).map (fun d => match d with | .struct fs => fs.toList.map (fun f => (f.type, f.offset)) | _ => []) = some fl) (hne : fl ≠ []) (hfit : Fits P t x.1)
    (h : DataW.trod enc P w 0 (fun _ => true) held fuel t cs = some x) : cs.length = P.cellsOf t ∧ ∃ n, n < fuel ∧ ∀ k ∈ fl, ∃ y, DataW.trod enc P w 0 (fun _ => true) held n k.1 ((cs.drop k.2).take (P.cellsOf k.1)) = some y ∧ Fits P k.1 y.1 := by
  cases hu : P.underlying t with
  | none => rw [hu] at hf; simp at hf
  | some d =>
    rw [hu] at hf
    simp only [Option.map_some, Option.some.injEq] at hf
    cases d with
    | struct fs =>
      simp only at hf
      obtain ⟨xs, n, hfu, hxe, hl, hlen, hall⟩ := DataW.trod_struct hu h
      refine ⟨hl, n, by omega, fun k hk => ?_⟩
      rw [← hf] at hk
      obtain ⟨f, hfm, rfl⟩ := List.mem_map.1 hk
      obtain ⟨i, hi⟩ := List.mem_iff_getElem?.1 hfm
      have hi' : fs[i]? = some f := by rw [← Array.getElem?_toList]; exact hi
      have := hall i f hi'
      have hlt : i < xs.length := by
        rw [hlen]
        exact (Array.getElem?_eq_some_iff.1 hi').1
      refine ⟨xs[i], by simpa [List.getElem?_eq_getElem hlt] using this, fun m hm => hfit m ?_⟩
      rw [hxe]
      simp only [DataW.weights, hu]
      exact DataW.weights_mem_each (j := i) (by rw [List.getElem?_map, hi]; rfl) (by rw [List.getElem?_map, List.getElem?_eq_getElem hlt]; rfl) m hm
    | _ => simp only at hf; exact absurd hf.symm hne

theorem cellsOf_one (t : TypeId) (ht : Try.prog.cellsOf t = 1) (cs : List Value) (k : Nat) (v : Value) (h : cs[k]? = some v) : (cs.drop k).take (Try.prog.cellsOf t) = [v] := by
  rw [ht]
  have hk : k < cs.length := (List.getElem?_eq_some_iff.1 h).1
  rw [List.drop_eq_getElem_cons hk]
  simp only [List.take_succ_cons, List.take_zero]
  rw [List.getElem?_eq_getElem hk] at h
  simpa using h

theorem c_int : Try.prog.cellsOf 3 = 1 := by kernel_rfl
theorem c_int64 : Try.prog.cellsOf 2 = 1 := by kernel_rfl
theorem c_string : Try.prog.cellsOf 9 = 1 := by kernel_rfl
theorem c_exprs : Try.prog.cellsOf 32 = 1 := by kernel_rfl
theorem c_stmts : Try.prog.cellsOf 23 = 1 := by kernel_rfl
theorem c_expr : Try.prog.cellsOf 34 = 4 := by kernel_rfl
theorem c_stmt : Try.prog.cellsOf 36 = 7 := by kernel_rfl


theorem read_expr : ∀ (n : Nat) {cs : List Value} {y : DataW H × List MemPlace}, Fits Try.prog 34 y.1 → DataW.trod enc Try.prog w 0 (fun _ => true) held n 34 cs = some y → ∃ a : Expr, RExpr n w (· < w.heap.size) cs a := by
  intro n
  induction n using Nat.strongRecOn with
  | ind n ih =>
    intro cs y hfit h
    obtain ⟨hl, m, hm, hall⟩ := read_struct fieldsExpr (by simp) hfit h
    rw [c_expr] at hl
    obtain ⟨v0, v1, v2, v3, rfl⟩ := len4 hl
    obtain ⟨y0, h0, f0⟩ := hall (3, 0) (by simp)
    obtain ⟨y1, h1, f1⟩ := hall (2, 1) (by simp)
    obtain ⟨y2, h2, f2⟩ := hall (9, 2) (by simp)
    obtain ⟨y3, h3, f3⟩ := hall (32, 3) (by simp)
    rw [cellsOf_one _ c_int _ _ _ rfl] at h0
    rw [cellsOf_one _ c_int64 _ _ _ rfl] at h1
    rw [cellsOf_one _ c_string _ _ _ rfl] at h2
    rw [cellsOf_one _ c_exprs _ _ _ rfl] at h3
    obtain ⟨s0, e0, -, l0⟩ := DataW.trod_int Try.underlying3 h0
    obtain ⟨s1, e1, -, l1⟩ := DataW.trod_int Try.underlying2 h1
    obtain ⟨s2, e2, g2, -⟩ := DataW.trod_string Try.underlying9 h2
    have l2 : s2.size ≤ maxS := fit_string g2 f2
    obtain ⟨v, l, e3, hr⟩ := read_slice (R := RExpr (n - 1) w (· < w.heap.size)) Try.underlying32 c_expr (by decide) (of_decide_eq_true (by kernel_rfl)) f3 (fun k cs' y hk hy fy => by
      obtain ⟨a, ha⟩ := ih k (by omega) fy hy
      exact ⟨a, ha.more (by omega)⟩) h3
    simp only [List.cons.injEq, and_true] at e0 e1 e2 e3
    subst e0 e1 e2 e3
    obtain ⟨n, rfl⟩ : ∃ k, n = k + 1 := ⟨n - 1, by omega⟩
    exact ⟨⟨s0, s1, s2, l⟩, _, rfl, l0, l1, l2, hr⟩

theorem read_exprs {n : Nat} {cs : List Value} {y : DataW H × List MemPlace} (hfit : Fits Try.prog 32 y.1) (h : DataW.trod enc Try.prog w 0 (fun _ => true) held n 32 cs = some y) : ∃ v l, cs = [v] ∧ RExprs n w (· < w.heap.size) v l :=
  read_slice Try.underlying32 c_expr (by decide) (of_decide_eq_true (by kernel_rfl)) hfit (fun k _ _ hk h f => let ⟨a, ha⟩ := read_expr k f h; ⟨a, ha.more (Nat.le_of_lt hk)⟩) h

theorem read_stmt : ∀ (n : Nat) {cs : List Value} {y : DataW H × List MemPlace}, Fits Try.prog 36 y.1 → DataW.trod enc Try.prog w 0 (fun _ => true) held n 36 cs = some y → ∃ a : Stmt, RStmt n w (· < w.heap.size) cs a := by
  intro n
  induction n using Nat.strongRecOn with
  | ind n ih =>
    intro cs y hfit h
    obtain ⟨hl, m, hm, hall⟩ := read_struct fieldsStmt (by simp) hfit h
    rw [c_stmt] at hl
    obtain ⟨v0, v1, v2, v3, v4, v5, v6, rfl⟩ := len7 hl
    obtain ⟨y0, h0, f0⟩ := hall (3, 0) (by simp)
    obtain ⟨y1, h1, f1⟩ := hall (2, 1) (by simp)
    obtain ⟨y2, h2, f2⟩ := hall (9, 2) (by simp)
    obtain ⟨y3, h3, f3⟩ := hall (9, 3) (by simp)
    obtain ⟨y4, h4, f4⟩ := hall (32, 4) (by simp)
    obtain ⟨y5, h5, f5⟩ := hall (23, 5) (by simp)
    obtain ⟨y6, h6, f6⟩ := hall (23, 6) (by simp)
    rw [cellsOf_one _ c_int _ _ _ rfl] at h0
    rw [cellsOf_one _ c_int64 _ _ _ rfl] at h1
    rw [cellsOf_one _ c_string _ _ _ rfl] at h2 h3
    rw [cellsOf_one _ c_exprs _ _ _ rfl] at h4
    rw [cellsOf_one _ c_stmts _ _ _ rfl] at h5 h6
    obtain ⟨s0, e0, -, l0⟩ := DataW.trod_int Try.underlying3 h0
    obtain ⟨s1, e1, -, l1⟩ := DataW.trod_int Try.underlying2 h1
    obtain ⟨s2, e2, g2, -⟩ := DataW.trod_string Try.underlying9 h2
    have l2 : s2.size ≤ maxS := fit_string g2 f2
    obtain ⟨s3, e3, g3, -⟩ := DataW.trod_string Try.underlying9 h3
    have l3 : s3.size ≤ maxS := fit_string g3 f3
    obtain ⟨u4, k4, e4, r4⟩ := read_exprs f4 h4
    have hrec : ∀ k cs' (y : DataW H × List MemPlace), k < m → DataW.trod enc Try.prog w 0 (fun _ => true) held k 36 cs' = some y → Fits Try.prog 36 y.1 → ∃ a : Stmt, RStmt (n - 1) w (· < w.heap.size) cs' a := fun k cs' y hk hy fy => by
      obtain ⟨a, ha⟩ := ih k (by omega) fy hy
      exact ⟨a, ha.more (by omega)⟩
    obtain ⟨u5, k5, e5, r5⟩ := read_slice Try.underlying23 c_stmt (by decide) (of_decide_eq_true (by kernel_rfl)) f5 hrec h5
    obtain ⟨u6, k6, e6, r6⟩ := read_slice Try.underlying23 c_stmt (by decide) (of_decide_eq_true (by kernel_rfl)) f6 hrec h6
    simp only [List.cons.injEq, and_true] at e0 e1 e2 e3 e4 e5 e6
    subst e0 e1 e2 e3 e4 e5 e6
    obtain ⟨n, rfl⟩ : ∃ k, n = k + 1 := ⟨n - 1, by omega⟩
    exact ⟨⟨s0, s1, s2, s3, k4, k5, k6⟩, _, _, _, rfl, l0, l1, l2, l3, r4.more (by omega), r5, r6⟩

theorem read_stmts {n : Nat} {cs : List Value} {y : DataW H × List MemPlace} (hfit : Fits Try.prog 23 y.1) (h : DataW.trod enc Try.prog w 0 (fun _ => true) held n 23 cs = some y) : ∃ v l, cs = [v] ∧ RStmts n w (· < w.heap.size) v l :=
  read_slice Try.underlying23 c_stmt (by decide) (of_decide_eq_true (by kernel_rfl)) hfit (fun k _ _ hk h f => let ⟨a, ha⟩ := read_stmt k f h; ⟨a, ha.more (Nat.le_of_lt hk)⟩) h

theorem c_strings : Try.prog.cellsOf 22 = 1 := by kernel_rfl
/-- A string that is read. -/
def RStr (cs : List Value) (s : ByteArray) : Prop := cs = [.string s] ∧ s.size ≤ maxS
theorem read_strings {n : Nat} {cs : List Value} {y : DataW H × List MemPlace} (hfit : Fits Try.prog 22 y.1) (h : DataW.trod enc Try.prog w 0 (fun _ => true) held n 22 cs = some y) : ∃ v l, cs = [v] ∧ RSl 1 RStr w (· < w.heap.size) v l :=
  read_slice Try.underlying22 c_string (by decide) (of_decide_eq_true (by kernel_rfl)) hfit (fun _ _ _ _ h f => by
    obtain ⟨s, e, g, -⟩ := DataW.trod_string Try.underlying9 h
    exact ⟨s, e, fit_string g f⟩) h
end
end Go.Proofs.Ytgaipdillmleeaa
end
section
/-
  DERIVED: THE SHELF's CONTRACTS AT THIS DUMP, IN PLAIN WORDS (tools/lay-plain.mjs out of 'TryMaps.lean', which tools/lay-shelf.mjs wrote): THE SAME DECLARATIONS UNDER THE SAME NAMES: 'import', 'namespace', 'open', 'def', 'theorem' AND NOTHING ELSE: no command of the shelf's: FOR A HAND-IN. Each laying: the table of numbers ('.._ren') and one theorem, a field a fact of the dump's own or the kernel's comparison; each contract: ONE APPLICATION.
-/
namespace Go.Proofs
open Go.Shelf
def Try.laysKeys_ren : Go.Shelf.Ren := ⟨fun | 7 => 14 | 10 => 21 | n => n, fun | 23 => 39 | 26 => 9 | 3 => 3 | 28 => 44 | 0 => 0 | 27 => 43 | 33 => 55 | 4 => 4 | n => n, fun | n => n⟩
theorem Try.laysKeys : Go.Proofs.SlLaysZ.n7 Try.prog Try.laysKeys_ren := {
  mixed := by kernel_rfl
  f7 := ⟨Try.f14.name, by decide, Try.func14.trans (congrArg some (by kernel_rfl))⟩
  f10 := ⟨Try.f21.name, by decide, Try.func21.trans (congrArg some (by kernel_rfl))⟩
  t0 := Try.underlying0
  a0 := Try.isAgg0
  z0 := Try.sizeOf0
  v0 := Try.zeroValue0
  t4 := Try.underlying4
  a4 := Try.isAgg4
  z4 := Try.sizeOf4
  v4 := Try.zeroValue4
  t23 := Try.underlying39
  a23 := Try.isAgg39
  z23 := Try.sizeOf39
  v23 := Try.zeroValue39
  t26 := Try.underlying9
  a26 := Try.isAgg9
  z26 := Try.sizeOf9
  v26 := Try.zeroValue9
  t27 := Try.underlying43
  a27 := Try.isAgg43
  z27 := Try.sizeOf43
  v27 := Try.zeroValue43
  t28 := Try.underlying44
  a28 := Try.isAgg44
  z28 := Try.sizeOf44
  v28 := Try.zeroValue44
  t33 := Try.underlying55
  a33 := Try.isAgg55
  z33 := Try.sizeOf55
  v33 := Try.zeroValue55 }
def Try.laysSorted_ren : Go.Shelf.Ren := ⟨fun | 6 => 13 | 8 => 19 | 9 => 20 | 11 => 29 | 13 => 31 | 12 => 30 | 23 => 50 | 24 => 51 | 14 => 41 | 15 => 42 | 16 => 43 | 17 => 44 | 18 => 45 | 19 => 46 | 20 => 47 | 21 => 48 | 22 => 49 | 25 => 53 | 26 => 54 | 27 => 55 | 28 => 56 | 29 => 57 | 30 => 58 | 31 => 59 | n => n, fun | 26 => 9 | 28 => 44 | 24 => 22 | 0 => 0 | 3 => 3 | 37 => 65 | 48 => 84 | 50 => 86 | 4 => 4 | 40 => 76 | 39 => 75 | 45 => 81 | 5 => 5 | 9 => 9 | 51 => 88 | 55 => 92 | 57 => 94 | 58 => 95 | 33 => 55 | n => n, fun | n => n⟩
theorem Try.laysSorted : Go.Proofs.SlLaysZ.n6 Try.prog Try.laysSorted_ren := {
  mixed := by kernel_rfl
  f6 := ⟨Try.f13.name, by decide, Try.func13.trans (congrArg some (by kernel_rfl))⟩
  f8 := ⟨Try.f19.name, by decide, Try.func19.trans (congrArg some (by kernel_rfl))⟩
  f11 := ⟨Try.f29.name, by decide, Try.func29.trans (congrArg some (by kernel_rfl))⟩
  t0 := Try.underlying0
  a0 := Try.isAgg0
  z0 := Try.sizeOf0
  v0 := Try.zeroValue0
  t24 := Try.underlying22
  a24 := Try.isAgg22
  z24 := Try.sizeOf22
  v24 := Try.zeroValue22
  t26 := Try.underlying9
  a26 := Try.isAgg9
  z26 := Try.sizeOf9
  v26 := Try.zeroValue9
  t28 := Try.underlying44
  a28 := Try.isAgg44
  z28 := Try.sizeOf44
  v28 := Try.zeroValue44
  i26 := by kernel_rfl }
def Try.laysSort_ren : Go.Shelf.Ren := ⟨fun | 6 => 20 | 8 => 31 | 9 => 30 | 19 => 50 | 20 => 51 | 21 => 41 | 22 => 42 | 23 => 43 | 24 => 44 | 25 => 45 | 26 => 46 | 27 => 47 | 28 => 48 | 29 => 49 | 36 => 53 | 31 => 54 | 32 => 55 | 37 => 56 | 38 => 57 | 39 => 58 | 41 => 59 | n => n, fun | 27 => 22 | 29 => 9 | 3 => 3 | 32 => 65 | 26 => 22 | 0 => 0 | 44 => 84 | 46 => 86 | 4 => 4 | 36 => 76 | 35 => 75 | 41 => 81 | 5 => 5 | 9 => 9 | 53 => 88 | 57 => 92 | 63 => 94 | 64 => 95 | n => n, fun | n => n⟩
theorem Try.laysSort : Go.Proofs.SlLaysM.n6 Try.prog Try.laysSort_ren := {
  mixed := by kernel_rfl
  f6 := ⟨Try.f20.name, by decide, Try.func20.trans (congrArg some (by kernel_rfl))⟩
  f8 := Try.func31.trans (congrArg some (by kernel_rfl))
  f9 := ⟨Try.f30.name, by decide, Try.func30.trans (congrArg some (by kernel_rfl))⟩
  f19 := Try.func50.trans (congrArg some (by kernel_rfl))
  f20 := Try.func51.trans (congrArg some (by kernel_rfl))
  f21 := ⟨Try.f41.name, by decide, Try.func41.trans (congrArg some (by kernel_rfl))⟩
  f22 := ⟨Try.f42.name, by decide, Try.func42.trans (congrArg some (by kernel_rfl))⟩
  f23 := ⟨Try.f43.name, by decide, Try.func43.trans (congrArg some (by kernel_rfl))⟩
  f24 := ⟨Try.f44.name, by decide, Try.func44.trans (congrArg some (by kernel_rfl))⟩
  f25 := ⟨Try.f45.name, by decide, Try.func45.trans (congrArg some (by kernel_rfl))⟩
  f26 := ⟨Try.f46.name, by decide, Try.func46.trans (congrArg some (by kernel_rfl))⟩
  f27 := ⟨Try.f47.name, by decide, Try.func47.trans (congrArg some (by kernel_rfl))⟩
  f28 := ⟨Try.f48.name, by decide, Try.func48.trans (congrArg some (by kernel_rfl))⟩
  f29 := ⟨Try.f49.name, by decide, Try.func49.trans (congrArg some (by kernel_rfl))⟩
  f31 := Try.func54.trans (congrArg some (by kernel_rfl))
  f32 := Try.func55.trans (congrArg some (by kernel_rfl))
  f36 := ⟨Try.f53.name, by decide, Try.func53.trans (congrArg some (by kernel_rfl))⟩
  f37 := ⟨Try.f56.name, by decide, Try.func56.trans (congrArg some (by kernel_rfl))⟩
  f38 := ⟨Try.f57.name, by decide, Try.func57.trans (congrArg some (by kernel_rfl))⟩
  f39 := ⟨Try.f58.name, by decide, Try.func58.trans (congrArg some (by kernel_rfl))⟩
  f41 := ⟨Try.f59.name, by decide, Try.func59.trans (congrArg some (by kernel_rfl))⟩
  t0 := Try.underlying0
  a0 := Try.isAgg0
  z0 := Try.sizeOf0
  v0 := Try.zeroValue0
  t3 := Try.underlying3
  a3 := Try.isAgg3
  z3 := Try.sizeOf3
  v3 := Try.zeroValue3
  t4 := Try.underlying4
  a4 := Try.isAgg4
  z4 := Try.sizeOf4
  v4 := Try.zeroValue4
  t5 := Try.underlying5
  a5 := Try.isAgg5
  z5 := Try.sizeOf5
  v5 := Try.zeroValue5
  t9 := Try.underlying9
  a9 := Try.isAgg9
  z9 := Try.sizeOf9
  v9 := Try.zeroValue9
  t26 := Try.underlying22
  a26 := Try.isAgg22
  z26 := Try.sizeOf22
  v26 := Try.zeroValue22
  t27 := Try.underlying22
  a27 := Try.isAgg22
  z27 := Try.sizeOf22
  v27 := Try.zeroValue22
  t29 := Try.underlying9
  a29 := Try.isAgg9
  z29 := Try.sizeOf9
  v29 := Try.zeroValue9
  t32 := Try.underlying65
  a32 := Try.isAgg65
  z32 := Try.sizeOf65
  v32 := Try.zeroValue65
  t35 := Try.underlying75
  a35 := Try.isAgg75
  z35 := Try.sizeOf75
  v35 := Try.zeroValue75
  t36 := Try.underlying76
  a36 := Try.isAgg76
  z36 := Try.sizeOf76
  v36 := Try.zeroValue76
  t41 := Try.underlying81
  a41 := Try.isAgg81
  z41 := Try.sizeOf81
  v41 := Try.zeroValue81
  t44 := Try.underlying84
  a44 := Try.isAgg84
  z44 := Try.sizeOf84
  v44 := Try.zeroValue84
  t46 := Try.underlying86
  a46 := Try.isAgg86
  z46 := Try.sizeOf86
  v46 := Try.zeroValue86
  t53 := Try.underlying88
  a53 := Try.isAgg88
  z53 := Try.sizeOf88
  v53 := Try.zeroValue88
  t57 := Try.underlying92
  a57 := Try.isAgg92
  z57 := Try.sizeOf92
  v57 := Try.zeroValue92
  t63 := Try.underlying94
  a63 := Try.isAgg94
  z63 := Try.sizeOf94
  v63 := Try.zeroValue94
  t64 := Try.underlying95
  a64 := Try.isAgg95
  z64 := Try.sizeOf95
  v64 := Try.zeroValue95 }
def Try.laysMClone_ren : Go.Shelf.Ren := ⟨fun | 5 => 27 | 7 => 38 | n => n, fun | 23 => 39 | 25 => 9 | 3 => 3 | 4 => 4 | 20 => 20 | n => n, fun | n => n⟩
theorem Try.laysMClone : Go.Proofs.SlLaysW.n5 Try.prog Try.laysMClone_ren := {
  mixed := by kernel_rfl
  f5 := ⟨Try.f27.name, by decide, Try.func27.trans (congrArg some (by kernel_rfl))⟩
  f7 := Try.func38.trans (congrArg some (by kernel_rfl))
  t4 := Try.underlying4
  a4 := Try.isAgg4
  z4 := Try.sizeOf4
  v4 := Try.zeroValue4
  t20 := Try.underlying20
  a20 := Try.isAgg20
  z20 := Try.sizeOf20
  v20 := Try.zeroValue20
  t23 := Try.underlying39
  a23 := Try.isAgg39
  z23 := Try.sizeOf39
  v23 := Try.zeroValue39 }
def Try.laysMDel_ren : Go.Shelf.Ren := ⟨fun | 5 => 39 | n => n, fun | 23 => 39 | 26 => 9 | 24 => 3 | 27 => 73 | 0 => 0 | 4 => 4 | n => n, fun | n => n⟩
theorem Try.laysMDel : Go.Proofs.SlLaysDf.n5 Try.prog Try.laysMDel_ren := {
  mixed := by kernel_rfl
  f5 := ⟨Try.f39.name, by decide, Try.func39.trans (congrArg some (by kernel_rfl))⟩
  t0 := Try.underlying0
  a0 := Try.isAgg0
  z0 := Try.sizeOf0
  v0 := Try.zeroValue0
  t4 := Try.underlying4
  a4 := Try.isAgg4
  z4 := Try.sizeOf4
  v4 := Try.zeroValue4
  t23 := Try.underlying39
  a23 := Try.isAgg39
  z23 := Try.sizeOf39
  v23 := Try.zeroValue39
  a24 := Try.isAgg3
  z24 := Try.sizeOf3
  a26 := Try.isAgg9
  z26 := Try.sizeOf9
  t27 := Try.underlying73
  a27 := Try.isAgg73
  z27 := Try.sizeOf73
  v27 := Try.zeroValue73 }
end Go.Proofs
end
section
/- A region that draws its order, inside a round: what the plain calculus shows of it holds there too. -/
namespace Go.Proofs.Ytgaipdillmleeaa
open Go.RowKit Go

/-- No operation is a defer statement. -/
def noDefer (ops : Array Oper) : Bool := ops.all fun o => match o.op with | .defer _ => false | _ => true
theorem noDefer_spec {ops : Array Oper} (h : noDefer ops = true) {i : Nat} {o : Oper} (hi : ops[i]? = some o) (c : Call) : o.op ≠ .defer c := by
  intro e
  have hm := Array.all_eq_true'.1 h o (Array.mem_of_getElem? hi)
  rw [e] at hm
  cases hm
section
variable {P : Go.Program} {l n : Nat} {ops : Array Oper} {Q : Exit → Act → World → Prop} {md : Region.Mode}
theorem rows_round {row : String} {args : Array Value} {w : World} {R : Value → World → Prop} (h : Rows P row args w R) : RowsIn (Fence.wide.inRound l) n P row args w R :=
  fun c cs _ => let ⟨v, w', r, s⟩ := h c cs; ⟨v, w', r, stepsIn_wide.2 s⟩
theorem oper_round {o : Oper} {a : Act} {w : World} {K : Act → World → Prop} (hd : ∀ c, o.op ≠ .defer c) (h : o.wp P a w K Q) : o.wpIn (Fence.wide.inRound l) n P a w K Q := by
  unfold Oper.wp at h
  unfold Oper.wpIn
  refine ⟨fun _ _ => trivial, ?_⟩
  rw [Fence.inRound_round, Oper.semAt_some l a.eval o hd]
  generalize (execOp a.eval o).run P w = r at *
  cases r with
  | ok x w' =>
    cases x with
    | value v => exact h
    | skip => exact h
    | defer d => exact h
    | enter f args => exact ⟨fun k => (by cases k), (callsIn_wide (n := n - 1)).2 h⟩
    | row row args => exact ⟨fun k => (by cases k), rows_round h⟩
    | _ => exact h.elim
  | halt x w' => cases x <;> first | exact h | exact h.elim
theorem wpOp_round {i : Nat} {a : Act} {w : World} {K : Act → World → Prop} (hL : ¬ LetsOut Q) (hd : noDefer ops = true) (h : wpOp P ops Q i K a w) : wpOpIn (Fence.wide.inRound l) n P ops Q i K a w := by
  unfold wpOp at h
  unfold wpOpIn
  cases hi : ops[i]? with
  | none => simp only [hi] at h ⊢; exact h
  | some o =>
    simp only [hi] at h ⊢
    split
    · rename_i hw; simp only [hw, if_true] at h; exact oper_round (noDefer_spec hd hi) (h.resolve_right fun k => hL k.2)
    · rename_i hw; simp only [hw] at h; exact ⟨fun _ _ => trivial, h⟩
theorem wpAny_round (hL : ¬ LetsOut Q) (hd : noDefer ops = true) : ∀ (f : Nat) (listed : Array Bool) (a : Act) (w : World), wpAny P md ops Q f listed a w → wpAnyIn (Fence.wide.inRound l) n P md ops Q f listed a w
  | 0, _, _, _, h => h
  | f + 1, _, _, _, h => ⟨h.1, fun i hi => wpOpIn_mono (fun a' w' h' => wpAny_round hL hd f _ a' w' h') (wpOp_round hL hd (h.2 i hi))⟩
theorem region_round {id : Nat} {a : Act} {w : World} (hL : ¬ LetsOut Q) (hm : P.follows .mixedOrders = true) (hd : noDefer ops = true)
    (h : wpAny P .any ops Q ops.size (Array.replicate ops.size false) a { w with drawn := w.drawn + 1 }) : (Code.region id ops true).wpIn (Fence.wide.inRound l) n P Q a w :=
  wpIn_region_any hm (wpAny_round hL hd _ _ _ _ h)
/-- .. where nobody writes what is read: whatever the callees make. -/
theorem region_round_quiet {id : Nat} {a : Act} {w : World} {ol : List Oper} {C : World → Prop} (hL : ¬ LetsOut Q) (hm : P.follows .mixedOrders = true) (hd : noDefer ol.toArray = true) (hB : Region.lexB .any ol.toArray = true) (hC : C { w with drawn := w.drawn + 1 })
    (h : wpQuiet P ol.toArray C (fun a' => ∀ w', C w' → Q .normal a' w') ol a) : (Code.region id ol.toArray true).wpIn (Fence.wide.inRound l) n P Q a w := by
  simp only [Region.lexB, Bool.and_eq_true] at hB
  refine region_round hL hm hd (wpAny_of_quiet (Q := fun a' => ∀ w', C w' → Q .normal a' w') (fun _ w' hw' h => h w' hw') _ _ _ _ hC ?_)
  have := wpAnyQ_lex (C := C) (md := .any) hB.1 ol 0 (Array.replicate ol.toArray.size false) a (by simp) (by simpa using hB.2) h
  simpa using this
/-- .. where what is read first is held by S. -/
theorem region_round_held {id : Nat} {a : Act} {w : World} {S : World → Prop} (hL : ¬ LetsOut Q) (hm : P.follows .mixedOrders = true) (hd : noDefer ops = true)
    (h : wpAnyH P .any ops Q S ops.size (Array.replicate ops.size false) a { w with drawn := w.drawn + 1 }) : (Code.region id ops true).wpIn (Fence.wide.inRound l) n P Q a w :=
  region_round hL hm hd (wpAny_of_held _ _ _ _ h)
end
end Go.Proofs.Ytgaipdillmleeaa
end
