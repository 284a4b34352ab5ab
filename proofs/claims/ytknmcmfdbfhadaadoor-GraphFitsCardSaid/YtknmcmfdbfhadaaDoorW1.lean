/- Joined by my own program, in build order: Glob, Basic, BasicRead, GP, Clones, Words, Bar, Round, Shelf, GW, GF, GT, GT2, Np. -/
import Derived.Test.YtknmcmfdbfhadaaDoorChecked
import Derived.WalkKit
import Derived.Lib.LaidTab
import Derived.Lib.TrailingZeros
import Derived.ProofKit
import Derived.Lib.Hide
import Derived.Deep.QuietTactic
import Derived.SizedLaws
import Derived.Shelf.SlicesE.Clone
import Derived.Test.YtknmcmfdbfhadaaDoorProg
import Derived.Laws.Bits64b
import Derived.Laws.BitsLemmas
import Derived.Handy
import Derived.OrdersIn
import Derived.OrdersHeld
import Derived.TacticsIn
import Derived.Deep.Quiet
import Derived.RangeFuncCalls
import Derived.Shelf.Small.Bits
import Derived.Shelf.Strconv.Itoa0
import Derived.Shelf.Sort.Plain
import Derived.Shelf.Slices.In.SortNone
import Derived.Ground.SlgnProg
set_option linter.unusedVariables false
set_option linter.unusedSimpArgs false
section
/- What is known of the library's variables: math/bits's table as its initialiser lays it. -/
namespace Go.Proofs.YtknmcmfdbfhadaaDoor
namespace V
open Go.RowKit
def GlobOk (w : World) : Prop := ∀ j, j < 64 → w.cell? ⟨0, j, none⟩ = some (.int .u8 (Lib.deBruijn64tab.getD j 0))
theorem GlobOk.keep {w w' : World} (h : GlobOk w) (hb : Below w.heap.size w w') : GlobOk w' := fun j hj => by
  have hm := h j hj
  refine (hb.cell (p := ⟨0, j, none⟩) ?_).trans hm
  unfold World.cell? at hm
  split at hm
  · rename_i h'; exact (Array.getElem?_eq_some_iff.1 h').1
  · cases hm
end V
end Go.Proofs.YtknmcmfdbfhadaaDoor
end
section
/- What a slice reads as in memory, as plain Lean data. -/
namespace Go.Proofs.YtknmcmfdbfhadaaDoor
open Go.RowKit

/-- The cells of a row from 'off' on. -/
def cellsAt (w : World) (b : Nat) : Nat → List Value → Prop
  | _, [] => True
  | o, v :: r => w.cell? ⟨b, o, none⟩ = some v ∧ cellsAt w b (o + 1) r

theorem cellsAt_of_block {w w' : World} {b : Nat} (h : w'.heap[b]? = w.heap[b]?) : ∀ {cs : List Value} {o : Nat}, cellsAt w b o cs → cellsAt w' b o cs
  | [], _, _ => trivial
  | _ :: _, _, ⟨h1, h2⟩ => ⟨(World.cell?_of_block (w := w) h).trans h1, cellsAt_of_block h h2⟩

/-- No string, slice or map that is read takes more bytes. -/
def maxS : Nat := 140737488351232

/-- A slice value reads as a list. -/
def RSl {α : Type} (sz : Nat) (R : List Value → α → Prop) (w : World) (I : Nat → Prop) (v : Value) (l : List α) : Prop :=
  ∃ a n cap, v = .slice a n cap ∧ l.length = n ∧ n ≤ cap ∧ cap ≤ maxS ∧
    ∀ i x, l[i]? = some x → ∃ b off cs, a = some ⟨b, off, none⟩ ∧ I b ∧ cellsAt w b (off + i * sz) cs ∧ R cs x

theorem RSl.mono {α : Type} {sz : Nat} {R R' : List Value → α → Prop} {w w' : World} {I I' : Nat → Prop} {v : Value} {l : List α}
    (h : RSl sz R w I v l) (hI : ∀ b, I b → I' b) (hw : ∀ b, I b → w'.heap[b]? = w.heap[b]?) (hR : ∀ cs x, x ∈ l → R cs x → R' cs x) : RSl sz R' w' I' v l := by
  obtain ⟨a, n, cap, hv, hn, h1, h2, h3⟩ := h
  refine ⟨a, n, cap, hv, hn, h1, h2, fun i x hi => ?_⟩
  obtain ⟨b, off, cs, ha, hb, hc, hr⟩ := h3 i x hi
  exact ⟨b, off, cs, ha, hI b hb, cellsAt_of_block (hw b hb) hc, hR _ _ (List.mem_of_getElem? hi) hr⟩

theorem RSl.shape {α : Type} {sz : Nat} {R : List Value → α → Prop} {w : World} {I : Nat → Prop} {v : Value} {l : List α} (h : RSl sz R w I v l) :
    ∃ a n cap, v = .slice a n cap := let ⟨a, n, cap, hv, _⟩ := h; ⟨a, n, cap, hv⟩

theorem cell_lt {w : World} {a : Addr} {v : Value} (h : w.cell? a = some v) : a.block < w.heap.size := by
  unfold World.cell? at h
  split at h
  · rename_i h'; exact (Array.getElem?_eq_some_iff.1 h').1
  · cases h

theorem drop_of_getElem? {α : Type} {l : List α} {j : Nat} {x : α} (h : l[j]? = some x) : l.drop j = x :: l.drop (j + 1) := by
  obtain ⟨hj, rfl⟩ := List.getElem?_eq_some_iff.1 h
  exact List.drop_eq_getElem_cons hj
theorem next {w1 w2 : World} {b o : Nat} {v : Value} (hb : Below w1.heap.size w1 w2) (h : w1.cell? ⟨b, o, none⟩ = some v) : w2.cell? ⟨b, o, none⟩ = some v :=
  (hb.cell (p := ⟨b, o, none⟩) (cell_lt h)).trans h
theorem nextB {W w1 w2 : World} (hb : Below w1.heap.size w1 w2) (h : Hid (Below W.heap.size W w1)) : Hid (Below W.heap.size W w2) :=
  h.out.trans (hb.mono h.out.size)
theorem afterCall {W W1 w1 : World} (h : Below W.heap.size W W1) (hb : Below W1.heap.size W1 w1) : Hid (Below W.heap.size W w1) := h.trans (hb.mono h.size)
theorem len2 {α : Type} {l : List α} (h : l.length = 2) : ∃ a b, l = [a, b] := by
  match l, h with | [a, b], _ => exact ⟨a, b, rfl⟩
theorem len4 {α : Type} {l : List α} (h : l.length = 4) : ∃ a b c d, l = [a, b, c, d] := by
  match l, h with | [a, b, c, d], _ => exact ⟨a, b, c, d, rfl⟩
theorem len7 {α : Type} {l : List α} (h : l.length = 7) : ∃ a b c d e f g, l = [a, b, c, d, e, f, g] := by
  match l, h with | [a, b, c, d, e, f, g], _ => exact ⟨a, b, c, d, e, f, g, rfl⟩
theorem rsl_nil {α : Type} (sz : Nat) (R : List Value → α → Prop) (w : World) (I : Nat → Prop) : RSl sz R w I (.slice none 0 0) ([] : List α) :=
  ⟨none, 0, 0, rfl, rfl, Nat.le_refl _, by unfold maxS; omega, fun i x h => by simp at h⟩
theorem below_keeps {w w' : World} (hb : Below w.heap.size w w') : ∀ b, b < w.heap.size → w'.heap[b]? = w.heap[b]? := fun b h => hb.block b h

/-! ### A region that draws its order, whose calls may make memory but change none of what is there -/
structure WB (B : Nat) (w : World) where
  val : World
  prop : Below B w val
instance {B : Nat} {w : World} : Nonempty (WB B w) := ⟨⟨w, Below.refl _ _⟩⟩

theorem wp_region_below {P : Go.Program} {id : Nat} {Q : Exit → Act → World → Prop} {a : Act} {w : World} {l : List Oper} (B : Nat) (hm : P.follows .mixedOrders = true) (hB : Region.lexB .any l.toArray = true)
    (h : wpQuiet P l.toArray (fun w' => ∃ x : WB B w, w' = x.val) (fun a' => ∀ w', (∃ x : WB B w, w' = x.val) → Q .normal a' w') l a) : (Code.region id l.toArray true).wp P Q a w :=
  wp_region_quiet (C := fun w' => ∃ x : WB B w, w' = x.val) hm hB ⟨⟨_, (Below.refl _ _).drew⟩, rfl⟩ (by simpa using h)

theorem Calls.quiet_below {P : Go.Program} {f : FuncId} {args : Array Value} {B : Nat} {w : World} {x : WB B w} {v : Value} (hB : B ≤ w.heap.size)
    (h : Calls P f args x.val fun e w' => e = .returned v ∧ Below x.val.heap.size x.val w') : Calls P f args x.val fun e w'' => e = .returned v ∧ ∃ y : WB B w, w'' = y.val :=
  h.mono fun _ w' ⟨he, hb⟩ => ⟨he, ⟨w', x.prop.trans (hb.mono (Nat.le_trans hB x.prop.size))⟩, rfl⟩

def RInt (cs : List Value) (x : Int) : Prop := cs = [.int .i64 x] ∧ (Lit.int .i64 x).wf = true
end Go.Proofs.YtknmcmfdbfhadaaDoor
end
section
/- A reading of the statement's form, as the plain data of Basic. -/
namespace Go.Proofs.YtknmcmfdbfhadaaDoor
open Go.RowKit

theorem list_of {α : Type} (p : Nat → α → Prop) : ∀ (n : Nat), (∀ i, i < n → ∃ x, p i x) → ∃ l : List α, l.length = n ∧ ∀ i x, l[i]? = some x → p i x
  | 0, _ => ⟨[], rfl, fun i x h => by simp at h⟩
  | n + 1, h => by
    obtain ⟨l, hl, hp⟩ := list_of p n (fun i hi => h i (by omega))
    obtain ⟨y, hy⟩ := h n (by omega)
    refine ⟨l ++ [y], by simp [hl], fun i x hx => ?_⟩
    rw [List.getElem?_append] at hx
    split at hx
    · exact hp i x hx
    · rename_i hlt
      have : i = n := by
        rcases Nat.lt_or_ge (i - l.length) 1 with h1 | h1
        · omega
        · rw [List.getElem?_eq_none (by simpa using h1)] at hx; cases hx
      subst this
      have h0 : i - l.length = 0 := by omega
      rw [h0] at hx
      simp at hx
      subst hx; exact hy

theorem cellsAt_of {w : World} {b : Nat} : ∀ {cs : List Value} {o : Nat}, (∀ i, i < cs.length → w.cell? ⟨b, o + i, none⟩ = cs[i]?) → cellsAt w b o cs
  | [], _, _ => trivial
  | v :: r, o, h => ⟨by simpa using h 0 (by simp), cellsAt_of fun i hi => by have := h (i + 1) (by simp; omega); simpa [Nat.add_assoc, Nat.add_comm 1 i] using this⟩

theorem add_block (a : Addr) (k : Nat) : (a.add k).block = a.block := by unfold Addr.add; split <;> rfl

theorem cellsAt_of_cells {w : World} {base : Nat} {a : Addr} {k n : Nat} {cs : List Value} (hn : 0 < n) (h : w.cells? base (a.add k) n = some cs) :
    ∃ b off, a = ⟨b, off, a.spot⟩ ∧ (a.spot = none ∨ k ≠ 0) ∧ b < w.heap.size ∧ cellsAt w b (off + k) cs ∧ cs.length = n := by
  obtain ⟨_, hlen, hc⟩ := World.cells?_some h
  obtain ⟨b, off, spot⟩ := a
  have h0 := hc 0 hn
  have hc0 : ∃ v, cs[0]? = some v := ⟨cs[0], by simp⟩
  obtain ⟨v, hv⟩ := hc0
  rw [hv] at h0
  have hlt := cell_lt h0
  have hb : ((Addr.mk b off spot).add k).add 0 = (Addr.mk b off spot).add k := by simp [Addr.add]
  have hs : spot = none ∨ k ≠ 0 := by
    by_cases hk : k = 0
    · left
      subst hk
      have := World.cell?_spot h0
      simpa [Addr.add] using this
    · right; exact hk
  refine ⟨b, off, rfl, hs, ?_, cellsAt_of fun i hi => ?_, hlen⟩
  · have : (((Addr.mk b off spot).add k).add 0).block = b := by rw [add_block, add_block]
    omega
  · rw [hlen] at hi
    have := hc i hi
    rw [← this]
    congr 1
    by_cases hk : k = 0
    · subst hk
      rcases hs with rfl | hs
      · by_cases h1 : i = 0 <;> simp [Addr.add, h1]
      · exact absurd rfl hs
    · by_cases h1 : i = 0 <;> simp [Addr.add, hk, h1]

section
variable {H : Type} {enc : TypeId × Value → H} {P : Go.Program} {w : World} {held : Bool}

/-- What a datum holds takes no more bytes than the reach. -/
def Fits (P : Go.Program) (t : TypeId) (d : DataW H) : Prop := ∀ n ∈ d.weights P t, n ≤ reachBytes

theorem weights_mem_all {P : Go.Program} {e : TypeId} : ∀ {l : List (DataW H)} {d : DataW H}, d ∈ l → ∀ n ∈ d.weights P e, n ∈ DataW.weightsAll P e l
  | [], _, h, _, _ => by cases h
  | x :: r, d, h, n, hn => by
    rw [DataW.weightsAll, List.mem_append]
    rcases List.mem_cons.1 h with rfl | h
    · exact .inl hn
    · exact .inr (weights_mem_all h n hn)

/-- A slice read, element by element. -/
theorem read_slice {α : Type} {t e : TypeId} {sz fuel : Nat} {cs : List Value} {x : DataW H × List MemPlace} {R : List Value → α → Prop} (ht : P.underlying t = some (.slice e)) (hsz : P.cellsOf e = sz) (hpos : 0 < sz)
    (hbytes : 0 < P.bytesOf e) (hfit : Fits P t x.1) (hR : ∀ n cs' y, n < fuel → DataW.trod enc P w 0 (fun _ => true) held n e cs' = some y → Fits P e y.1 → ∃ a : α, R cs' a) (h : DataW.trod enc P w 0 (fun _ => true) held fuel t cs = some x) :
    ∃ v, ∃ l : List α, cs = [v] ∧ RSl sz R w (· < w.heap.size) v l := by
  rcases DataW.trod_slice ht h with ⟨rfl, _⟩ | ⟨a, len, cap, elems, rest, n, hf, rfl, hxe, _, hl, hm, hlen, hel, hsp, _⟩
  · exact ⟨_, [], rfl, none, 0, 0, rfl, rfl, Nat.le_refl _, by unfold maxS; omega, fun i x h => by simp at h⟩
  · have _h0 := hm
    have hwt : x.1.weights P t = ((elems.map (·.1)).length + (rest.map (·.1)).length) * P.bytesOf e :: (DataW.weightsAll P e (elems.map (·.1)) ++ DataW.weightsAll P e (rest.map (·.1))) := by
      rw [hxe]; simp only [DataW.weights, ht]
    have hcap : cap ≤ maxS := by
      have h1 := hfit _ (by rw [hwt]; exact List.mem_cons_self ..)
      have h2 := (hsp rfl).1
      have h3 : (elems.map (·.1)).length + (rest.map (·.1)).length = cap := by simp only [List.length_map]; omega
      rw [h3] at h1
      have h4 : cap * 1 ≤ cap * P.bytesOf e := Nat.mul_le_mul_left _ hbytes
      unfold reachBytes at h1
      unfold maxS
      omega
    have hfe : ∀ z, z ∈ elems → Fits P e z.1 := fun z hz k hk => hfit k (by
      rw [hwt]
      exact List.mem_cons_of_mem _ (List.mem_append_left _ (weights_mem_all (List.mem_map_of_mem hz) k hk)))
    have hall : ∀ i, i < len → ∃ y : α, ∃ b off cs', a = ⟨b, off, none⟩ ∧ b < w.heap.size ∧ cellsAt w b (off + i * sz) cs' ∧ R cs' y := by
      intro i hi
      have h1 := hel i hi
      rw [hsz] at h1
      have h2 : ∃ z, elems[i]? = some z := ⟨elems[i], by simp⟩
      obtain ⟨z, hz⟩ := h2
      rw [hz] at h1
      cases hcell : w.cells? 0 (a.add (i * sz)) sz with
      | none => rw [hcell] at h1; simp at h1
      | some cs' =>
        rw [hcell] at h1
        have h1' : DataW.trod enc P w 0 (fun _ => true) held n e cs' = some z := by simpa using h1
        obtain ⟨b, off, ha, _, hb, hc, _⟩ := cellsAt_of_cells hpos hcell
        -- the address has no spot: element 0's cells are read, too
        have h00 := hel 0 (by omega)
        have h02 : ∃ z, elems[0]? = some z := ⟨elems[0], by simp⟩
        obtain ⟨z0, hz0⟩ := h02
        rw [hz0, hsz] at h00
        cases hcell0 : w.cells? 0 (a.add (0 * sz)) sz with
        | none => rw [hcell0] at h00; simp at h00
        | some cs0 =>
          obtain ⟨_, _, _, hs0, _⟩ := cellsAt_of_cells hpos hcell0
          have hsp : a.spot = none := by rcases hs0 with h | h; exact h; simp at h
          obtain ⟨y, hy⟩ := hR n cs' z (by omega) h1' (hfe z (List.mem_of_getElem? hz))
          exact ⟨y, b, off, cs', by rw [ha, hsp], hb, hc, hy⟩
    obtain ⟨l, hll, hp⟩ := list_of _ len hall
    refine ⟨_, l, rfl, some a, len, cap, rfl, hll, hl, hcap, fun i y hy => ?_⟩
    obtain ⟨b, off, cs', ha, hb, hc, hr⟩ := hp i y hy
    exact ⟨b, off, cs', by rw [ha], hb, hc, hr⟩
end
section
variable {H : Type} {enc : TypeId × Value → H} {w : World} {held : Bool}
theorem fit_string {P : Go.Program} {t : TypeId} {s : ByteArray} {y : DataW H × List MemPlace} (h : y = (.lit (.string s.data.toList), [])) (hf : Fits P t y.1) : s.size ≤ maxS := by
  subst h
  have := hf s.data.toList.length (by simp [DataW.weights])
  unfold reachBytes at this
  have h2 : s.data.toList.length = s.size := rfl
  unfold maxS
  omega

theorem read_struct {P : Go.Program} {t : TypeId} {fl : List (TypeId × Nat)} {fuel : Nat} {cs : List Value} {x : DataW H × List MemPlace}
    (hf : (P.underlying t).map (fun d => match d with | .struct fs => fs.toList.map (fun f => (f.type, f.offset)) | _ => []) = some fl) (hne : fl ≠ []) (hfit : Fits P t x.1)
    (h : DataW.trod enc P w 0 (fun _ => true) held fuel t cs = some x) : cs.length = P.cellsOf t ∧ ∃ n, n < fuel ∧ ∀ k ∈ fl, ∃ y, DataW.trod enc P w 0 (fun _ => true) held n k.1 ((cs.drop k.2).take (P.cellsOf k.1)) = some y ∧ Fits P k.1 y.1 := by
  cases hu : P.underlying t with
  | none => rw [hu] at hf; simp at hf
  | some d =>
    rw [hu] at hf
    simp only [Option.map_some, Option.some.injEq] at hf
    cases d with
    | struct fs =>
      simp only at hf
      obtain ⟨xs, n, hfu, hxe, hl, hlen, hall⟩ := DataW.trod_struct hu h
      refine ⟨hl, n, by omega, fun k hk => ?_⟩
      rw [← hf] at hk
      obtain ⟨f, hfm, rfl⟩ := List.mem_map.1 hk
      obtain ⟨i, hi⟩ := List.mem_iff_getElem?.1 hfm
      have hi' : fs[i]? = some f := by rw [← Array.getElem?_toList]; exact hi
      have := hall i f hi'
      have hlt : i < xs.length := by
        rw [hlen]
        exact (Array.getElem?_eq_some_iff.1 hi').1
      refine ⟨xs[i], by simpa [List.getElem?_eq_getElem hlt] using this, fun m hm => hfit m ?_⟩
      rw [hxe]
      simp only [DataW.weights, hu]
      exact DataW.weights_mem_each (j := i) (by rw [List.getElem?_map, hi]; rfl) (by rw [List.getElem?_map, List.getElem?_eq_getElem hlt]; rfl) m hm
    | _ => simp only at hf; exact absurd hf.symm hne

theorem cellsOf_one (t : TypeId) (ht : Tryd.prog.cellsOf t = 1) (cs : List Value) (k : Nat) (v : Value) (h : cs[k]? = some v) : (cs.drop k).take (Tryd.prog.cellsOf t) = [v] := by
  rw [ht]
  have hk : k < cs.length := (List.getElem?_eq_some_iff.1 h).1
  rw [List.drop_eq_getElem_cons hk]
  simp only [List.take_succ_cons, List.take_zero]
  rw [List.getElem?_eq_getElem hk] at h
  simpa using h

theorem c_int : Tryd.prog.cellsOf 3 = 1 := by kernel_rfl
theorem read_int {n : Nat} {cs : List Value} {y : DataW H × List MemPlace} (h : DataW.trod enc Tryd.prog w 0 (fun _ => true) held n 3 cs = some y) : ∃ a : Int, RInt cs a := by
  obtain ⟨s0, e0, -, l0⟩ := DataW.trod_int Tryd.underlying3 h
  exact ⟨s0, e0, l0⟩
theorem read_ints {n : Nat} {cs : List Value} {y : DataW H × List MemPlace} (hfit : Fits Tryd.prog 31 y.1) (h : DataW.trod enc Tryd.prog w 0 (fun _ => true) held n 31 cs = some y) : ∃ v l, cs = [v] ∧ RSl 1 RInt w (· < w.heap.size) v l :=
  read_slice Tryd.underlying31 c_int (by decide) (of_decide_eq_true (by kernel_rfl)) hfit (fun _ _ _ _ h _ => read_int h) h
end
end Go.Proofs.YtknmcmfdbfhadaaDoor
end
section
/- Layer 15 in plain words: where ways lead; a search that marks when it finds, a search that marks when it takes. -/
set_option linter.unusedVariables false
namespace Go.Proofs.YtknmcmfdbfhadaaDoor
namespace G
inductive Rch (E : List (Nat × Nat)) (src : List Nat) : Nat → Prop
  | here {s : Nat} (h : s ∈ src) : Rch E src s
  | step {i j : Nat} (h : Rch E src i) (e : (i, j) ∈ E) : Rch E src j
theorem Rch.mono {E E' : List (Nat × Nat)} {src src' : List Nat} (hE : ∀ e ∈ E, e ∈ E') (hs : ∀ s ∈ src, Rch E' src' s) {i : Nat} (h : Rch E src i) : Rch E' src' i := by
  induction h with
  | here h => exact hs _ h
  | step _ e ih => exact .step ih (hE _ e)
theorem Rch.lt {E : List (Nat × Nat)} {src : List Nat} {n i : Nat} (hE : ∀ e ∈ E, e.1 < n ∧ e.2 < n) (hs : ∀ s ∈ src, s < n) (h : Rch E src i) : i < n := by
  cases h with
  | here h => exact hs _ h
  | step _ e => exact (hE _ e).2
def outs (E : List (Nat × Nat)) (i : Nat) : List Nat := (E.filter fun e => e.1 = i).map (·.2)
theorem mem_outs {E : List (Nat × Nat)} {i j : Nat} : j ∈ outs E i ↔ (i, j) ∈ E := by
  simp only [outs, List.mem_map, List.mem_filter, decide_eq_true_eq]
  constructor
  · rintro ⟨⟨a, b⟩, ⟨h, h1⟩, h2⟩
    simp only at h1 h2
    subst h1 h2
    exact h
  · intro h
    exact ⟨(i, j), ⟨h, rfl⟩, rfl⟩
theorem outs_snoc (E : List (Nat × Nat)) (f t i : Nat) : outs (E ++ [(f, t)]) i = if i = f then outs E i ++ [t] else outs E i := by
  unfold outs
  rw [List.filter_append, List.map_append]
  by_cases h : i = f
  · subst h; simp
  · simp [h, Ne.symm h]
theorem outs_len (E : List (Nat × Nat)) (i : Nat) : (outs E i).length ≤ E.length := by
  simp only [outs, List.length_map]; exact List.length_filter_le _ _
theorem list_last {α : Type} : ∀ l : List α, l = [] ∨ ∃ ws i, l = ws ++ [i]
  | [] => .inl rfl
  | x :: l => .inr (by
    rcases list_last l with h | ⟨ws, i, h⟩
    · exact ⟨[], x, by rw [h]; rfl⟩
    · exact ⟨x :: ws, i, by rw [h]; rfl⟩)
def mark (R : Nat → Bool) (k : Nat) : Nat → Bool := fun j => R j || decide (j = k)
/-- How many below n are not marked. -/
def left (R : Nat → Bool) : Nat → Nat
  | 0 => 0
  | n + 1 => left R n + (if R n = true then 0 else 1)
theorem left_mark (R : Nat → Bool) (k : Nat) (hk : R k = false) : ∀ n, left (mark R k) n + (if k < n then 1 else 0) = left R n
  | 0 => by simp [left]
  | n + 1 => by
    have ih := left_mark R k hk n
    simp only [left]
    by_cases h : n = k
    · subst h
      have e1 : mark R n n = true := by simp [mark]
      rw [e1, hk] at *
      simp at ih ⊢
      omega
    · have e1 : mark R k n = R n := by simp [mark, h]
      rw [e1]
      by_cases hkn : k < n
      · rw [if_pos hkn] at ih
        rw [if_pos (show k < n + 1 by omega)]
        omega
      · rw [if_neg hkn] at ih
        rw [if_neg (show ¬ k < n + 1 by omega)]
        omega
theorem left_le (R : Nat → Bool) : ∀ n, left R n ≤ n
  | 0 => Nat.le_refl _
  | n + 1 => by have := left_le R n; simp only [left]; split <;> omega
theorem mark_true {R : Nat → Bool} {k i : Nat} : mark R k i = true ↔ R i = true ∨ i = k := by simp [mark]

/-- A search that marks when it finds. -/
structure RInv (E : List (Nat × Nat)) (src : List Nat) (n : Nat) (work : List Nat) (R : Nat → Bool) : Prop where
  lt : ∀ i, R i = true → i < n
  sub : ∀ i ∈ work, R i = true
  rch : ∀ i, R i = true → Rch E src i
  start : ∀ s ∈ src, R s = true
  next : ∀ i, R i = true → i ∈ work ∨ ∀ j, (i, j) ∈ E → R j = true
/-- .. while one node's edges are gone through; rest: those to come. -/
structure RMid (E : List (Nat × Nat)) (src : List Nat) (n : Nat) (work : List Nat) (R : Nat → Bool) (i : Nat) (rest : List Nat) : Prop where
  lt : ∀ i, R i = true → i < n
  sub : ∀ i ∈ work, R i = true
  rch : ∀ i, R i = true → Rch E src i
  start : ∀ s ∈ src, R s = true
  at_ : R i = true
  next : ∀ a, R a = true → a ∈ work ∨ (∀ j, (a, j) ∈ E → R j = true) ∨ (a = i ∧ ∀ j, (i, j) ∈ E → R j = true ∨ j ∈ rest)
section
variable {E : List (Nat × Nat)} {src : List Nat} {n : Nat} {work ws : List Nat} {R : Nat → Bool} {i k : Nat} {rest L : List Nat}
theorem RInv.done (h : RInv E src n [] R) (i : Nat) : R i = true ↔ Rch E src i := by
  refine ⟨h.rch i, fun hr => ?_⟩
  induction hr with
  | here hs => exact h.start _ hs
  | step _ e ih => exact ((h.next _ ih).resolve_left (by simp)) _ e
theorem RInv.take (h : RInv E src n (ws ++ [i]) R) (hL : ∀ j, (i, j) ∈ E → j ∈ L) : RMid E src n ws R i L :=
  ⟨h.lt, fun a ha => h.sub a (by simp [ha]), h.rch, h.start, h.sub i (by simp), fun a ha => by
    rcases h.next a ha with q | q
    · rw [List.mem_append] at q
      rcases q with q | q
      · exact .inl q
      · rw [List.mem_singleton] at q
        exact .inr (.inr ⟨q, fun j hj => .inr (hL j hj)⟩)
    · exact .inr (.inl q)⟩
theorem RMid.old (h : RMid E src n ws R i (k :: rest)) (hk : R k = true) : RMid E src n ws R i rest :=
  ⟨h.lt, h.sub, h.rch, h.start, h.at_, fun a ha => by
    rcases h.next a ha with q | q | ⟨q, q2⟩
    · exact .inl q
    · exact .inr (.inl q)
    · refine .inr (.inr ⟨q, fun j hj => ?_⟩)
      rcases q2 j hj with z | z
      · exact .inl z
      · rcases List.mem_cons.1 z with rfl | z
        · exact .inl hk
        · exact .inr z⟩
theorem RMid.new (h : RMid E src n ws R i (k :: rest)) (hk : k < n) (he : (i, k) ∈ E) : RMid E src n (ws ++ [k]) (mark R k) i rest :=
  ⟨fun a ha => by rcases mark_true.1 ha with q | rfl; exact h.lt a q; exact hk,
   fun a ha => by
    rw [List.mem_append, List.mem_singleton] at ha
    exact mark_true.2 (ha.imp (h.sub a) id),
   fun a ha => by
    rcases mark_true.1 ha with q | rfl
    · exact h.rch a q
    · exact .step (h.rch i h.at_) he,
   fun s hs => mark_true.2 (.inl (h.start s hs)), mark_true.2 (.inl h.at_), fun a ha => by
    rcases mark_true.1 ha with q | rfl
    · rcases h.next a q with q | q | ⟨q, q2⟩
      · exact .inl (by simp [q])
      · exact .inr (.inl fun j hj => mark_true.2 (.inl (q j hj)))
      · refine .inr (.inr ⟨q, fun j hj => ?_⟩)
        rcases q2 j hj with z | z
        · exact .inl (mark_true.2 (.inl z))
        · rcases List.mem_cons.1 z with rfl | z
          · exact .inl (mark_true.2 (.inr rfl))
          · exact .inr z
    · exact .inl (by simp)⟩
theorem RMid.done (h : RMid E src n ws R i []) : RInv E src n ws R :=
  ⟨h.lt, h.sub, h.rch, h.start, fun a ha => by
    rcases h.next a ha with q | q | ⟨rfl, q2⟩
    · exact .inl q
    · exact .inr q
    · exact .inr fun j hj => (q2 j hj).resolve_right (by simp)⟩
end
/-- A search that marks when it takes. -/
structure MInv (E : List (Nat × Nat)) (src : List Nat) (n : Nat) (work : List Nat) (R : Nat → Bool) : Prop where
  lt : ∀ i ∈ work, i < n
  reach : ∀ i ∈ work, Rch E src i
  marked : ∀ i, R i = true → Rch E src i
  next : ∀ i, R i = true → ∀ j, (i, j) ∈ E → R j = true ∨ j ∈ work
  start : ∀ s ∈ src, R s = true ∨ s ∈ work
section
variable {E : List (Nat × Nat)} {src : List Nat} {n i : Nat} {ws : List Nat} {R : Nat → Bool}
theorem MInv.done (h : MInv E src n [] R) (i : Nat) : R i = true ↔ Rch E src i := by
  refine ⟨h.marked i, fun hr => ?_⟩
  induction hr with
  | here hs => exact (h.start _ hs).resolve_right (by simp)
  | step _ e ih => exact (h.next _ ih _ e).resolve_right (by simp)
theorem MInv.skip (h : MInv E src n (ws ++ [i]) R) (hR : R i = true) : MInv E src n ws R := by
  have back : ∀ j, j ∈ ws ++ [i] → R j = true ∨ j ∈ ws := fun j hj => by
    rw [List.mem_append, List.mem_singleton] at hj
    rcases hj with hj | rfl
    · exact .inr hj
    · exact .inl hR
  exact ⟨fun a ha => h.lt a (by simp [ha]), fun a ha => h.reach a (by simp [ha]), h.marked, fun a ha j hj => (h.next a ha j hj).elim .inl (back j), fun s hs => (h.start s hs).elim .inl (back s)⟩
theorem MInv.take (hE : ∀ e ∈ E, e.1 < n ∧ e.2 < n) (h : MInv E src n (ws ++ [i]) R) : MInv E src n (ws ++ outs E i) (mark R i) := by
  have hi : Rch E src i := h.reach i (by simp)
  have back : ∀ j, j ∈ ws ++ [i] → mark R i j = true ∨ j ∈ ws ++ outs E i := fun j hj => by
    rw [List.mem_append, List.mem_singleton] at hj
    rcases hj with hj | rfl
    · exact .inr (by simp [hj])
    · exact .inl (mark_true.2 (.inr rfl))
  refine ⟨fun a ha => ?_, fun a ha => ?_, fun a ha => ?_, fun a ha j hj => ?_, fun s hs => (h.start s hs).elim (fun q => .inl (mark_true.2 (.inl q))) (back s)⟩
  · rw [List.mem_append] at ha
    rcases ha with ha | ha
    · exact h.lt a (by simp [ha])
    · exact (hE _ (mem_outs.1 ha)).2
  · rw [List.mem_append] at ha
    rcases ha with ha | ha
    · exact h.reach a (by simp [ha])
    · exact .step hi (mem_outs.1 ha)
  · rcases mark_true.1 ha with q | rfl
    · exact h.marked a q
    · exact hi
  · rcases mark_true.1 ha with q | rfl
    · exact (h.next a q j hj).elim (fun q => .inl (mark_true.2 (.inl q))) (back j)
    · exact .inr (by rw [List.mem_append]; exact .inr (mem_outs.2 hj))
end
/-- What the unmarked ones may still push. -/
def pot (L : Nat → List Nat) (R : Nat → Bool) : Nat → Nat
  | 0 => 0
  | n + 1 => pot L R n + (if R n = true then 0 else (L n).length)
theorem pot_mark (L : Nat → List Nat) (R : Nat → Bool) (k : Nat) (hk : R k = false) : ∀ n, pot L (mark R k) n + (if k < n then (L k).length else 0) = pot L R n
  | 0 => by simp [pot]
  | n + 1 => by
    have ih := pot_mark L R k hk n
    simp only [pot]
    by_cases h : n = k
    · subst h
      have e1 : mark R n n = true := by simp [mark]
      rw [e1, hk] at *
      simp at ih ⊢
      omega
    · have e1 : mark R k n = R n := by simp [mark, h]
      rw [e1]
      by_cases hkn : k < n
      · rw [if_pos hkn] at ih
        rw [if_pos (show k < n + 1 by omega)]
        omega
      · rw [if_neg hkn] at ih
        rw [if_neg (show ¬ k < n + 1 by omega)]
        omega
theorem pot_le (L : Nat → List Nat) (R : Nat → Bool) (b : Nat) (hb : ∀ i, (L i).length ≤ b) : ∀ n, pot L R n ≤ n * b
  | 0 => by simp [pot]
  | n + 1 => by
    have := pot_le L R b hb n
    have := hb n
    simp only [pot]
    rw [Nat.add_mul]
    split <;> omega
open Classical in
/-- Where ways lead, told. -/
noncomputable def reachB (E : List (Nat × Nat)) (src : List Nat) (i : Nat) : Bool := decide (Rch E src i)
theorem reachB_iff {E : List (Nat × Nat)} {src : List Nat} {i : Nat} : reachB E src i = true ↔ Rch E src i := by simp [reachB]
theorem reachB_of {E : List (Nat × Nat)} {src : List Nat} {R : Nat → Bool} (h : ∀ i, R i = true ↔ Rch E src i) : R = reachB E src := by
  funext i
  rw [Bool.eq_iff_iff, h, reachB_iff]
noncomputable def reachL (E : List (Nat × Nat)) (src : List Nat) (n : Nat) : List Nat := (List.range n).filter (reachB E src)
end G
end Go.Proofs.YtknmcmfdbfhadaaDoor
end
section
/-
  DERIVED: THE SHELF's CONTRACTS AT THIS DUMP, IN PLAIN WORDS (tools/lay-plain.mjs out of 'TrydClone.lean', which tools/lay-shelf.mjs wrote): THE SAME DECLARATIONS UNDER THE SAME NAMES: 'import', 'namespace', 'open', 'def', 'theorem' AND NOTHING ELSE: no command of the shelf's: FOR A HAND-IN. Each laying: the table of numbers ('.._ren') and one theorem, a field a fact of the dump's own or the kernel's comparison; each contract: ONE APPLICATION.
-/
namespace Go.Proofs
open Go.Shelf
def Tryd.laysClone30_ren : Go.Shelf.Ren := ⟨fun | 41 => 30 | n => n, fun | 22 => 31 | 23 => 3 | 4 => 4 | n => n, fun | n => n⟩
theorem Tryd.laysClone30 : Go.Proofs.SlLaysE0.n41 Tryd.prog Tryd.laysClone30_ren := {
  mixed := by kernel_rfl
  f41 := ⟨Tryd.f30.name, by decide, Tryd.func30.trans (congrArg some (by kernel_rfl))⟩
  t4 := Tryd.underlying4
  a4 := Tryd.isAgg4
  z4 := Tryd.sizeOf4
  v4 := Tryd.zeroValue4
  t22 := Tryd.underlying31
  a22 := Tryd.isAgg31
  z22 := Tryd.sizeOf31
  v22 := Tryd.zeroValue31 }
end Go.Proofs
end
section
/- Words of bits, in plain numbers: what a set's words hold, how many bits a word has, which. -/
namespace Go.Proofs.YtknmcmfdbfhadaaDoor

/-- The k-th word of a set of numbers: its bit j stands for 64 k + j. -/
def wdN (f : Nat → Bool) (k : Nat) : Nat → Nat
  | 0 => 0
  | j + 1 => 2 ^ j * (if f (64 * k + j) then 1 else 0) + wdN f k j
def wd (f : Nat → Bool) (k : Nat) : Nat := wdN f k 64

theorem wdN_lt (f : Nat → Bool) (k : Nat) : ∀ m, wdN f k m < 2 ^ m
  | 0 => by simp [wdN]
  | m + 1 => by
    have := wdN_lt f k m
    unfold wdN
    rw [Nat.pow_succ]
    split <;> omega
theorem testBit_wdN (f : Nat → Bool) (k : Nat) : ∀ m j, (wdN f k m).testBit j = (decide (j < m) && f (64 * k + j))
  | 0, j => by simp [wdN]
  | m + 1, j => by
    have ih := testBit_wdN f k m j
    unfold wdN
    rw [Nat.testBit_two_pow_mul_add _ (wdN_lt f k m), ih]
    by_cases h : j < m
    · have h' : j < m + 1 := by omega
      simp [h, h']
    · rw [if_neg h]
      by_cases e : j = m
      · subst e; cases f (64 * k + j) <;> simp
      · have h' : ¬ j < m + 1 := by omega
        have h2 : j - m ≠ 0 := by omega
        have h3 : 0 < j - m := by omega
        obtain ⟨q, hq⟩ : ∃ q, j - m = q + 1 := ⟨j - m - 1, by omega⟩
        rw [hq]
        split <;> simp [h', Nat.testBit_succ]
theorem wd_lt (f : Nat → Bool) (k : Nat) : wd f k < 18446744073709551616 := wdN_lt f k 64
theorem testBit_wd (f : Nat → Bool) (k j : Nat) : (wd f k).testBit j = (decide (j < 64) && f (64 * k + j)) := testBit_wdN f k 64 j
theorem wd_eq {f : Nat → Bool} {k x : Nat} (hx : x < 18446744073709551616) (h : ∀ j, j < 64 → x.testBit j = f (64 * k + j)) : x = wd f k := by
  apply Nat.eq_of_testBit_eq
  intro j
  rw [testBit_wd]
  by_cases hj : j < 64
  · simp [hj, h j hj]
  · simp only [hj, decide_false, Bool.false_and]
    exact Nat.testBit_lt_two_pow (Nat.lt_of_lt_of_le hx (Nat.pow_le_pow_right (n := 2) (i := 64) (by decide) (by omega)))
theorem wd_congr {f g : Nat → Bool} {k : Nat} (h : ∀ j, j < 64 → f (64 * k + j) = g (64 * k + j)) : wd f k = wd g k :=
  wd_eq (wd_lt f k) (fun j hj => by rw [testBit_wd]; simp [hj, h j hj])
theorem wd_zero (k : Nat) : wd (fun _ => false) k = 0 := (wd_eq (by decide) (fun j _ => by simp)).symm

/-! ### The lowest bit -/
theorem ctz_spec (x : Nat) (h0 : x ≠ 0) (h : x < 18446744073709551616) : ∃ m, x = 2 ^ (Lib.ctz 64 x + 1) * m + 2 ^ Lib.ctz 64 x ∧ Lib.ctz 64 x < 64 := by
  have hp : 0 < x := by omega
  obtain ⟨m, h1, h2⟩ := Lib.ctzFrom_spec 64 x hp h
  have e : Lib.ctz 64 x = Lib.ctzFrom 64 x := by unfold Lib.ctz; rw [if_neg h0]
  rw [e]
  refine ⟨m, ?_, h2⟩
  generalize Lib.ctzFrom 64 x = c at *
  rw [h1, Nat.mul_add, Nat.mul_one, Nat.pow_succ, Nat.mul_assoc]
theorem testBit_low (c m j : Nat) : (2 ^ (c + 1) * m + 2 ^ c).testBit j = if j < c + 1 then decide (c = j) else m.testBit (j - (c + 1)) := by
  rw [Nat.testBit_two_pow_mul_add _ (Nat.pow_lt_pow_right (by decide) (Nat.lt_succ_self c)), Nat.testBit_two_pow]
theorem low_gone (c m : Nat) : (2 ^ (c + 1) * m + 2 ^ c) &&& (2 ^ (c + 1) * m + 2 ^ c - 1) = 2 ^ (c + 1) * m := by
  have hp : 0 < 2 ^ c := Nat.two_pow_pos c
  have e : 2 ^ (c + 1) * m + 2 ^ c - 1 = 2 ^ (c + 1) * m + (2 ^ c - 1) := by omega
  have hlt : 2 ^ c - 1 < 2 ^ (c + 1) := by rw [Nat.pow_succ]; omega
  apply Nat.eq_of_testBit_eq
  intro j
  rw [e, Nat.testBit_and, testBit_low, Nat.testBit_two_pow_mul_add _ hlt, Nat.testBit_two_pow_mul, Nat.testBit_two_pow_sub_one]
  by_cases h : j < c + 1
  · rw [if_pos h, if_pos h]
    have h2 : ¬ j ≥ c + 1 := by omega
    have h3 : (decide (c = j) && decide (j < c)) = false := by
      by_cases e : c = j
      · subst e; simp
      · simp [e]
    simp [h2, h3]
  · rw [if_neg h, if_neg h]
    have h2 : j ≥ c + 1 := by omega
    simp [h2]
/-- The word without its lowest bit. -/
def dropLow (x : Nat) : Nat := x &&& (x - 1)
theorem dropLow_lt (x : Nat) (h0 : x ≠ 0) : dropLow x < x := by
  have : dropLow x ≤ x - 1 := Nat.and_le_right
  omega
theorem dropLow_bit (x : Nat) (h0 : x ≠ 0) (h : x < 18446744073709551616) (j : Nat) : (dropLow x).testBit j = (x.testBit j && decide (j ≠ Lib.ctz 64 x)) := by
  obtain ⟨m, hm, _⟩ := ctz_spec x h0 h
  generalize Lib.ctz 64 x = c at *
  unfold dropLow
  rw [hm, low_gone, testBit_low, Nat.testBit_two_pow_mul]
  by_cases hj : j < c + 1
  · rw [if_pos hj]
    have h2 : ¬ j ≥ c + 1 := by omega
    by_cases e : c = j
    · subst e; simp; omega
    · simp [h2, e]
  · rw [if_neg hj]
    have h2 : j ≥ c + 1 := by omega
    have h3 : j ≠ c := by omega
    simp [h2, h3]
theorem ctz_bit (x : Nat) (h0 : x ≠ 0) (h : x < 18446744073709551616) : Lib.ctz 64 x < 64 ∧ x.testBit (Lib.ctz 64 x) = true ∧ ∀ j, j < Lib.ctz 64 x → x.testBit j = false := by
  obtain ⟨m, hm, h2⟩ := ctz_spec x h0 h
  generalize Lib.ctz 64 x = c at *
  refine ⟨h2, ?_, fun j hj => ?_⟩
  · rw [hm, testBit_low]; simp
  · rw [hm, testBit_low, if_pos (by omega)]; simp; omega

theorem filter_first (p q : Nat → Bool) (c : Nat) (hc : p c = true) (hlo : ∀ j, j < c → p j = false) (hq : ∀ j, q j = (p j && decide (j ≠ c))) : ∀ n, c < n → (List.range n).filter p = c :: (List.range n).filter q
  | 0, h => by omega
  | n + 1, h => by
    rw [List.range_succ, List.filter_append, List.filter_append]
    by_cases e : c = n
    · subst e
      have h1 : (List.range c).filter p = [] := by
        rw [List.filter_eq_nil_iff]; intro a ha; simp [hlo a (List.mem_range.1 ha)]
      have h2 : (List.range c).filter q = [] := by
        rw [List.filter_eq_nil_iff]; intro a ha; simp [hq, hlo a (List.mem_range.1 ha)]
      rw [h1, h2]
      simp [hc, hq]
    · rw [filter_first p q c hc hlo hq n (by omega)]
      have : q n = p n := by rw [hq]; simp; intro _; omega
      simp [List.filter_cons, this]

/-- The places of a word's bits, rising. -/
def bitsOf (x : Nat) : List Nat := (List.range 64).filter x.testBit
theorem bitsOf_zero : bitsOf 0 = [] := by
  unfold bitsOf; rw [List.filter_eq_nil_iff]; simp
theorem bitsOf_step (x : Nat) (h0 : x ≠ 0) (h : x < 18446744073709551616) : bitsOf x = Lib.ctz 64 x :: bitsOf (dropLow x) := by
  obtain ⟨h1, h2, h3⟩ := ctz_bit x h0 h
  exact filter_first _ _ _ h2 h3 (dropLow_bit x h0 h) 64 h1

/-! ### How many bits -/
def pc : Nat → Nat → Nat
  | 0, _ => 0
  | n + 1, x => x % 2 + pc n (x / 2)
theorem pc_eq : ∀ n x, pc n x = ((List.range n).filter x.testBit).length
  | 0, _ => rfl
  | n + 1, x => by
    rw [List.range_succ_eq_map, List.filter_cons, pc, pc_eq n (x / 2), List.filter_map, ]
    have e : (x.testBit ∘ Nat.succ) = (x / 2).testBit := by funext j; simp [Nat.testBit_succ]
    rw [e]
    have h0 : x.testBit 0 = decide (x % 2 = 1) := by simp [Nat.testBit_zero]
    rw [h0]
    by_cases h : x % 2 = 1
    · simp [h]; omega
    · have : x % 2 = 0 := by omega
      simp [this]

def msk (b r : Nat) : Nat → Nat
  | 0 => 0
  | n + 1 => b * msk b r n + r
theorem and_digits (t a m r s : Nat) (hr : r < 2 ^ t) (hs : s < 2 ^ t) : (2 ^ t * a + r) &&& (2 ^ t * m + s) = 2 ^ t * (a &&& m) + (r &&& s) := by
  apply Nat.eq_of_testBit_eq
  intro j
  rw [Nat.testBit_and, Nat.testBit_two_pow_mul_add _ hr, Nat.testBit_two_pow_mul_add _ hs, Nat.testBit_two_pow_mul_add _ (Nat.and_lt_two_pow _ hs)]
  split <;> simp
/-- Sums of neighbours, digit by digit: 'n' digits of two halves of 't' bits each. -/
def halves (t : Nat) : Nat → Nat → Nat
  | 0, _ => 0
  | n + 1, x => 2 ^ (2 * t) * halves t n (x / 2 ^ (2 * t)) + (x % 2 ^ t + x / 2 ^ t % 2 ^ t)
theorem and_low (t r : Nat) : r &&& (2 ^ t - 1) = r % 2 ^ t := Nat.and_two_pow_sub_one_eq_mod r t
theorem step_halves (t : Nat) : ∀ n x, (x / 2 ^ t &&& msk (2 ^ (2 * t)) (2 ^ t - 1) n) + (x &&& msk (2 ^ (2 * t)) (2 ^ t - 1) n) = halves t n x
  | 0, x => by simp [msk, halves]
  | n + 1, x => by
    have hp : 0 < 2 ^ t := Nat.two_pow_pos t
    have h2 : 2 ^ (2 * t) = 2 ^ t * 2 ^ t := by rw [← Nat.pow_add]; congr 1; omega
    have hlt : 2 ^ t - 1 < 2 ^ (2 * t) := by
      have : 2 ^ t ≤ 2 ^ (2 * t) := Nat.pow_le_pow_right (by decide) (by omega)
      omega
    have ih := step_halves t n (x / 2 ^ (2 * t))
    unfold msk halves
    have e1 : x = 2 ^ (2 * t) * (x / 2 ^ (2 * t)) + x % 2 ^ (2 * t) := (Nat.div_add_mod _ _).symm
    have e2 : x / 2 ^ t = 2 ^ (2 * t) * (x / 2 ^ (2 * t) / 2 ^ t) + x / 2 ^ t % 2 ^ (2 * t) := by
      have := Nat.div_add_mod (x / 2 ^ t) (2 ^ (2 * t))
      rw [Nat.div_div_eq_div_mul, Nat.mul_comm (2 ^ t), ← Nat.div_div_eq_div_mul] at this
      exact this.symm
    have hm1 : x % 2 ^ (2 * t) < 2 ^ (2 * t) := Nat.mod_lt _ (Nat.two_pow_pos _)
    have hm2 : x / 2 ^ t % 2 ^ (2 * t) < 2 ^ (2 * t) := Nat.mod_lt _ (Nat.two_pow_pos _)
    have a1 : x &&& (2 ^ (2 * t) * msk (2 ^ (2 * t)) (2 ^ t - 1) n + (2 ^ t - 1)) = 2 ^ (2 * t) * (x / 2 ^ (2 * t) &&& msk (2 ^ (2 * t)) (2 ^ t - 1) n) + (x % 2 ^ (2 * t) &&& (2 ^ t - 1)) := by
      conv => lhs; rw [e1]
      rw [and_digits _ _ _ _ _ hm1 hlt]
    have a2 : x / 2 ^ t &&& (2 ^ (2 * t) * msk (2 ^ (2 * t)) (2 ^ t - 1) n + (2 ^ t - 1)) = 2 ^ (2 * t) * (x / 2 ^ (2 * t) / 2 ^ t &&& msk (2 ^ (2 * t)) (2 ^ t - 1) n) + (x / 2 ^ t % 2 ^ (2 * t) &&& (2 ^ t - 1)) := by
      conv => lhs; rw [e2]
      rw [and_digits _ _ _ _ _ hm2 hlt]
    rw [a1, a2, ← ih, and_low, and_low]
    have m1 : x % 2 ^ (2 * t) % 2 ^ t = x % 2 ^ t := Nat.mod_mod_of_dvd _ (by rw [h2]; exact Nat.dvd_mul_right _ _)
    have m2 : x / 2 ^ t % 2 ^ (2 * t) % 2 ^ t = x / 2 ^ t % 2 ^ t := Nat.mod_mod_of_dvd _ (by rw [h2]; exact Nat.dvd_mul_right _ _)
    rw [m1, m2, Nat.mul_add]
    omega

/-- The sum of the first n digits. -/
def ds (b : Nat) : Nat → Nat → Nat
  | 0, _ => 0
  | n + 1, x => x % b + ds b n (x / b)
def digsLe (b k : Nat) : Nat → Nat → Prop
  | 0, x => x = 0
  | n + 1, x => x % b ≤ k ∧ digsLe b k n (x / b)
theorem pc_ds : ∀ n x, pc n x = ds 2 n x
  | 0, _ => rfl
  | n + 1, x => by rw [pc, ds, pc_ds n]
theorem digsLe_top (b : Nat) (hb : 0 < b) : ∀ n x, x < b ^ n → digsLe b (b - 1) n x
  | 0, x, h => by simp at h; exact h
  | n + 1, x, h => ⟨by have := Nat.mod_lt x hb; omega, digsLe_top b hb n _ (by rw [Nat.div_lt_iff_lt_mul hb]; rwa [Nat.pow_succ] at h)⟩
theorem halves_ds (t k : Nat) (hk : 2 * k < 2 ^ (2 * t)) : ∀ n x, digsLe (2 ^ t) k (2 * n) x → ds (2 ^ (2 * t)) n (halves t n x) = ds (2 ^ t) (2 * n) x ∧ digsLe (2 ^ (2 * t)) (2 * k) n (halves t n x)
  | 0, x, h => ⟨rfl, rfl⟩
  | n + 1, x, h => by
    have hp : 0 < 2 ^ (2 * t) := Nat.two_pow_pos _
    have h2 : 2 ^ (2 * t) = 2 ^ t * 2 ^ t := by rw [← Nat.pow_add]; congr 1; omega
    obtain ⟨h0, h1, hr⟩ := (h : digsLe (2 ^ t) k (2 * n + 1 + 1) x)
    have e : x / 2 ^ t / 2 ^ t = x / 2 ^ (2 * t) := by rw [Nat.div_div_eq_div_mul, ← h2]
    rw [e] at hr
    obtain ⟨i1, i2⟩ := halves_ds t k hk n _ hr
    have hs : x % 2 ^ t + x / 2 ^ t % 2 ^ t < 2 ^ (2 * t) := by omega
    have m1 : halves t (n + 1) x % 2 ^ (2 * t) = x % 2 ^ t + x / 2 ^ t % 2 ^ t := by
      unfold halves; rw [Nat.mul_add_mod, Nat.mod_eq_of_lt hs]
    have m2 : halves t (n + 1) x / 2 ^ (2 * t) = halves t n (x / 2 ^ (2 * t)) := by
      rw [halves, Nat.mul_add_div hp, Nat.div_eq_of_lt hs, Nat.add_zero]
    refine ⟨?_, ?_, ?_⟩
    · show halves t (n + 1) x % 2 ^ (2 * t) + ds _ n (halves t (n + 1) x / 2 ^ (2 * t)) = x % 2 ^ t + (x / 2 ^ t % 2 ^ t + ds _ (2 * n) (x / 2 ^ t / 2 ^ t))
      rw [m1, m2, i1, e]; omega
    · show halves t (n + 1) x % 2 ^ (2 * t) ≤ _
      rw [m1]; omega
    · show digsLe _ _ n (halves t (n + 1) x / 2 ^ (2 * t))
      rw [m2]; exact i2

/-- The third step: neighbours are added before the mask; no digit is so great that one goes over. -/
theorem step_nibbles : ∀ n x, digsLe 16 4 (2 * n) x → (x / 16 + x) &&& msk 256 15 n = halves 4 n x
  | 0, x, h => by simp [msk, halves]
  | n + 1, x, h => by
    obtain ⟨h0, h1, hr⟩ := (h : digsLe 16 4 (2 * n + 1 + 1) x)
    have e : x / 16 / 16 = x / 256 := by rw [Nat.div_div_eq_div_mul]
    rw [e] at hr
    have hq : x / 256 % 16 ≤ 4 := by
      cases n with
      | zero => have : x / 256 = 0 := hr; omega
      | succ n => exact (hr : digsLe 16 4 (2 * n + 1 + 1) _).1
    have ih := step_nibbles n _ hr
    have e1 : x / 16 + x = 2 ^ 8 * (x / 256 / 16 + x / 256) + (16 * (x / 256 % 16) + x / 16 % 16 + x % 256) := by omega
    have hs : 16 * (x / 256 % 16) + x / 16 % 16 + x % 256 < 2 ^ 8 := by omega
    have e4 : (16 * (x / 256 % 16) + x / 16 % 16 + x % 256) &&& 15 = (16 * (x / 256 % 16) + x / 16 % 16 + x % 256) % 16 := and_low 4 _
    have e5 : halves 4 (n + 1) x = 256 * halves 4 n (x / 256) + (x % 16 + x / 16 % 16) := rfl
    have := and_digits 8 (x / 256 / 16 + x / 256) (msk 256 15 n) _ 15 hs (by decide)
    have e2 : msk 256 15 (n + 1) = 2 ^ 8 * msk 256 15 n + 15 := rfl
    rw [e1, e2, this, ih, e5, e4]
    omega

theorem sum_bytes (y : Nat) (h : digsLe 256 8 8 y) : y < 2 ^ 60 ∧ y + y / 256 < 2 ^ 61 ∧ y + y / 256 + (y + y / 256) / 65536 < 2 ^ 62 ∧
    y + y / 256 + (y + y / 256) / 65536 + (y + y / 256 + (y + y / 256) / 65536) / 4294967296 < 2 ^ 63 ∧
    (y + y / 256 + (y + y / 256) / 65536 + (y + y / 256 + (y + y / 256) / 65536) / 4294967296) % 128 = ds 256 8 y := by
  obtain ⟨h0, h1, h2, h3, h4, h5, h6, h7, h8⟩ := h
  simp only [ds]
  generalize e1 : y / 256 = y1 at *
  generalize e2 : y1 / 256 = y2 at *
  generalize e3 : y2 / 256 = y3 at *
  generalize e4 : y3 / 256 = y4 at *
  generalize e5 : y4 / 256 = y5 at *
  generalize e6 : y5 / 256 = y6 at *
  generalize e7 : y6 / 256 = y7 at *
  have h8' : y7 / 256 = 0 := h8
  generalize a0 : y % 256 = d0 at *
  generalize a1 : y1 % 256 = d1 at *
  generalize a2 : y2 % 256 = d2 at *
  generalize a3 : y3 % 256 = d3 at *
  generalize a4 : y4 % 256 = d4 at *
  generalize a5 : y5 % 256 = d5 at *
  generalize a6 : y6 % 256 = d6 at *
  generalize a7 : y7 % 256 = d7 at *
  have b7 : y7 = d7 := by omega
  have b6 : y6 = 256 * y7 + d6 := by omega
  have b5 : y5 = 256 * y6 + d5 := by omega
  have b4 : y4 = 256 * y5 + d4 := by omega
  have b3 : y3 = 256 * y4 + d3 := by omega
  have b2 : y2 = 256 * y3 + d2 := by omega
  have b1 : y1 = 256 * y2 + d1 := by omega
  have b0 : y = 256 * y1 + d0 := by omega
  clear e1 e2 e3 e4 e5 e6 e7 a0 a1 a2 a3 a4 a5 a6 a7 h8 h8'
  subst b7
  have c1 : (y + y1) / 65536 = y2 + y3 := by omega
  rw [c1]
  have c2 : (y + y1 + (y2 + y3)) / 4294967296 = y4 + y5 + (y6 + y7) := by omega
  rw [c2]
  refine ⟨by omega, by omega, by omega, by omega, by omega⟩

/-- What math/bits.OnesCount64 reckons. -/
theorem ones_eq (x : Nat) (hx : x < 18446744073709551616) :
    let y1 := (x / 2 &&& 6148914691236517205) + (x &&& 6148914691236517205)
    let y2 := (y1 / 4 &&& 3689348814741910323) + (y1 &&& 3689348814741910323)
    let y3 := (y2 / 16 + y2) &&& 1085102592571150095
    y1 < 18446744073709551616 ∧ y2 < 18446744073709551616 ∧ y2 / 16 + y2 < 18446744073709551616 ∧ digsLe 256 8 8 y3 ∧ ds 256 8 y3 = pc 64 x := by
  intro y1 y2 y3
  have m1 : msk (2 ^ (2 * 1)) (2 ^ 1 - 1) 32 = 6148914691236517205 := by decide +kernel
  have m2 : msk (2 ^ (2 * 2)) (2 ^ 2 - 1) 16 = 3689348814741910323 := by decide +kernel
  have m3 : msk 256 15 8 = 1085102592571150095 := by decide +kernel
  have s1 : y1 = halves 1 32 x := by have := step_halves 1 32 x; rw [m1] at this; exact this
  have s2 : y2 = halves 2 16 y1 := by have := step_halves 2 16 y1; rw [m2] at this; exact this
  obtain ⟨d1, l1⟩ := halves_ds 1 1 (by decide) 32 x (digsLe_top 2 (by decide) 64 x hx)
  rw [← s1] at d1 l1
  obtain ⟨d2, l2⟩ := halves_ds 2 2 (by decide) 16 y1 l1
  rw [← s2] at d2 l2
  have s3 : y3 = halves 4 8 y2 := by have := step_nibbles 8 y2 l2; rw [m3] at this; exact this
  obtain ⟨d3, l3⟩ := halves_ds 4 4 (by decide) 8 y2 l2
  rw [← s3] at d3 l3
  have lt : ∀ b k n x, 0 < b → k < b → digsLe b k n x → x < b ^ n := by
    intro b k n
    induction n with
    | zero => intro x hb hk h; have : x = 0 := h; subst this; simp
    | succ n ih =>
      intro x hb hk h
      have := ih _ hb hk h.2
      rw [Nat.pow_succ, ← Nat.div_lt_iff_lt_mul hb]; exact this
  refine ⟨lt 4 2 32 y1 (by decide) (by decide) l1, lt 16 4 16 y2 (by decide) (by decide) l2, ?_, l3, ?_⟩
  · have h16 : digsLe 16 4 (15 + 1) y2 := l2
    have h15 := lt 16 4 15 _ (by decide) (by decide) h16.2
    have hy : y2 % 16 ≤ 4 := h16.1
    have hz : digsLe 16 4 (14 + 1) (y2 / 16) := h16.2
    have top : ∀ n x, digsLe 16 4 n x → 15 * x ≤ 4 * (16 ^ n - 1) := by
      intro n
      induction n with
      | zero => intro x h; have : x = 0 := h; subst this; simp
      | succ n ih =>
        intro x h
        have i1 := ih _ h.2
        have i2 := h.1
        have hp : 0 < 16 ^ n := Nat.pow_pos (by decide)
        rw [Nat.pow_succ]; omega
    have := top 16 y2 l2
    omega
  · rw [d3]
    show ds 16 16 y2 = _
    have e2 : ds 16 16 y2 = ds 4 32 y1 := d2
    have e1 : ds 4 32 y1 = ds 2 64 x := d1
    rw [e2, e1, pc_ds]
theorem pc_bits (x : Nat) : pc 64 x = (bitsOf x).length := pc_eq 64 x
end Go.Proofs.YtknmcmfdbfhadaaDoor
end
section
/- Bits of words, for the sets of package bits: arithmetic; the position of a number; the lowest bit. -/
set_option linter.unusedVariables false
namespace Go.Proofs.YtknmcmfdbfhadaaDoor
open Go.RowKit
open V (GlobOk)
def wi (j : Nat) : Nat := j / 64
def pw (j : Nat) : Nat := 2 ^ (j % 64)
def nw (n : Nat) : Nat := (n + 63) / 64
theorem wi_lt {j n : Nat} (h : j < n) : wi j < nw n := by unfold wi nw; omega
theorem nw_le {n : Nat} (h : n ≤ 1000000) : nw n ≤ 15625 := by unfold nw; omega
def inB (f : Nat → Bool) (i : Int) : Bool := decide (0 ≤ i) && f i.toNat
theorem e63 : (2 : Int) ^ 63 = 9223372036854775808 := by decide
theorem and_pow (x k : Nat) : x &&& 2 ^ k = if x.testBit k = true then 2 ^ k else 0 := by
  apply Nat.eq_of_testBit_eq
  intro i
  rw [Nat.testBit_and, Nat.testBit_two_pow]
  by_cases h : k = i
  · subst h
    cases hx : x.testBit k
    · simp
    · simp
  · split <;> simp [h]
theorem wraps63 (n : Int) (h0 : 0 ≤ n) (h1 : n < 2 ^ 63) : IntKind.i64.wrap n = n := by
  have e : (2 : Int) ^ 63 = 9223372036854775808 := by decide
  rw [e] at h1
  rw [IntKind.wrap_i64]; omega
theorem at_any (j : Nat) (h : j < 1000000) (w : World) : Calls Tryd.prog 46 #[.int .i64 j] w fun e w' => e = .returned (.tuple #[.int .i64 (wi j : Nat), .int .u64 (pw j : Nat)]) ∧ w = w' := by
  have h1 : bits BinOp.and IntKind.i64 (j : Int) 63 = ((j % 64 : Nat) : Int) := by
    have := bits_mask .i64 63 (by decide) wraps63 6 (by decide) (j : Int) (by omega) (by rw [e63]; omega)
    have e : (63 : Int) = 2 ^ 6 - 1 := by decide
    rw [e, this]; omega
  have h2 : IntKind.u64.wrap ((j % 64 : Nat) : Int) = ((j % 64 : Nat) : Int) := by rw [IntKind.wrap_u64]; omega
  have h3 : min ((j % 64 : Nat) : Int).toNat 64 = j % 64 := by omega
  have h4 : IntKind.u64.wrap ((2 : Int) ^ (j % 64)) = ((pw j : Nat) : Int) := by
    have hlt : 2 ^ (j % 64) ≤ 2 ^ 63 := Nat.pow_le_pow_right (by decide) (by omega)
    have hc : ((2 : Int) ^ (j % 64)) = ((2 ^ (j % 64) : Nat) : Int) := by simp
    have e : 2 ^ 63 = 9223372036854775808 := by decide
    rw [e] at hlt
    rw [hc, IntKind.wrap_u64]; unfold pw
    generalize 2 ^ (j % 64) = q at *
    omega
  have h5 : (j : Int) / 64 = ((wi j : Nat) : Int) := by unfold wi; omega
  have H1 := Lib.hid h1
  have H2 := Lib.hid h2
  have H3 := Lib.hid h3
  have H4 := Lib.hid h4
  have H5 := Lib.hid h5
  clear h1 h2 h3 h4 h5
  go_enter Tryd.func46, Tryd.ntmps46
  go_wp2
  go_ret2
  refine ⟨?_, rfl⟩
  rw [H1.out, H2.out, H3.out, H4.out, H5.out]
  rfl
theorem and_pw (f : Nat → Bool) (j : Nat) : (bits BinOp.and IntKind.u64 (wd f (wi j) : Int) (pw j : Int) != 0) = f j := by
  have hp : pw j < 18446744073709551616 := by
    unfold pw
    exact Nat.lt_of_lt_of_le (Nat.pow_lt_pow_right (a := 2) (n := 64) (by decide) (by omega)) (by decide)
  rw [bits_and_u64_nat _ _ (wd_lt f _) hp]
  have hj : 64 * wi j + j % 64 = j := by unfold wi; omega
  have hb : (wd f (wi j)).testBit (j % 64) = f j := by rw [testBit_wd, hj]; simp; intro; omega
  rw [← hb]
  unfold pw
  rw [and_pow]
  have hpos : 0 < 2 ^ (j % 64) := Nat.two_pow_pos _
  cases (wd f (wi j)).testBit (j % 64)
  · simp
  · have h2 : ((2 ^ (j % 64) : Nat) : Int) ≠ 0 := by omega
    simpa using h2
theorem pw_lt (j : Nat) : pw j < 18446744073709551616 := by
  unfold pw
  exact Nat.lt_of_lt_of_le (Nat.pow_lt_pow_right (a := 2) (n := 64) (by decide) (by omega)) (by decide)
theorem pw_bit (j t : Nat) (_ht : t < 64) : (pw j).testBit t = decide (64 * wi j + t = j) := by
  unfold pw wi
  rw [Nat.testBit_two_pow]
  have : (j % 64 = t) ↔ (64 * (j / 64) + t = j) := by omega
  simp only [this]
def addF (f : Nat → Bool) (j : Nat) (q : Nat) : Bool := f q || decide (q = j)
def delF (f : Nat → Bool) (j : Nat) (q : Nat) : Bool := f q && decide (q ≠ j)
theorem or_pw (f : Nat → Bool) (j : Nat) : bits BinOp.or IntKind.u64 (wd f (wi j) : Int) (pw j : Int) = (wd (addF f j) (wi j) : Nat) := by
  rw [bits_or_u64_nat _ _ (wd_lt f _) (pw_lt j)]
  have h : wd f (wi j) ||| pw j = wd (addF f j) (wi j) := by
    refine wd_eq (Nat.or_lt_two_pow (n := 64) (wd_lt f _) (pw_lt j)) (fun t ht => ?_)
    rw [Nat.testBit_or, testBit_wd, pw_bit j t ht]
    simp [addF, ht]
  rw [h]
theorem bits_andNot_u64_nat (a b : Nat) (ha : a < 18446744073709551616) (hb : b < 18446744073709551616) :
    ∃ c : Nat, bits .andNot .u64 (a : Int) (b : Int) = (c : Int) ∧ c < 18446744073709551616 ∧ ∀ t, t < 64 → c.testBit t = (a.testBit t && !b.testBit t) := by
  have h1 : (BitVec.ofInt 64 (a : Int)).toNat = a := by
    rw [BitVec.ofInt_natCast, BitVec.toNat_ofNat]; exact Nat.mod_eq_of_lt (by omega)
  have h2 : (BitVec.ofInt 64 (b : Int)).toNat = b := by
    rw [BitVec.ofInt_natCast, BitVec.toNat_ofNat]; exact Nat.mod_eq_of_lt (by omega)
  refine ⟨(BitVec.ofInt 64 (a : Int) &&& ~~~ BitVec.ofInt 64 (b : Int)).toNat, ?_, Nat.lt_of_lt_of_le (BitVec.isLt _) (by decide), fun t ht => ?_⟩
  · show IntKind.u64.wrap ((BitVec.ofInt 64 (a : Int) &&& ~~~ BitVec.ofInt 64 (b : Int)).toNat : Int) = _
    have := (BitVec.ofInt 64 (a : Int) &&& ~~~ BitVec.ofInt 64 (b : Int)).isLt
    rw [IntKind.wrap_u64]; omega
  · rw [BitVec.testBit_toNat, BitVec.getLsbD_and, BitVec.getLsbD_not, ← BitVec.testBit_toNat, ← BitVec.testBit_toNat, h1, h2]
    simp [ht]
theorem andNot_pw (f : Nat → Bool) (j : Nat) : bits BinOp.andNot IntKind.u64 (wd f (wi j) : Int) (pw j : Int) = (wd (delF f j) (wi j) : Nat) := by
  obtain ⟨c, h1, h2, h3⟩ := bits_andNot_u64_nat _ _ (wd_lt f (wi j)) (pw_lt j)
  have h : c = wd (delF f j) (wi j) := by
    refine wd_eq h2 (fun t ht => ?_)
    rw [h3 t ht, testBit_wd, pw_bit j t ht]
    simp [delF, ht]
  rw [h1, h]
theorem wd_addF (f : Nat → Bool) (j q : Nat) (hq : q ≠ wi j) : wd (addF f j) q = wd f q := wd_congr (fun t ht => by
  have : 64 * q + t ≠ j := by unfold wi at hq; omega
  simp [addF, this])
theorem wd_delF (f : Nat → Bool) (j q : Nat) (hq : q ≠ wi j) : wd (delF f j) q = wd f q := wd_congr (fun t ht => by
  have : 64 * q + t ≠ j := by unfold wi at hq; omega
  simp [delF, this])
def canAdd (f : Nat → Bool) (n : Nat) (i : Int) : Bool := decide (0 ≤ i) && decide (i < n) && !f i.toNat
def addI (f : Nat → Bool) (n : Nat) (i : Int) : Nat → Bool := if canAdd f n i then addF f i.toNat else f
def delI (f : Nat → Bool) (i : Int) : Nat → Bool := if inB f i then delF f i.toNat else f
def upto (g : Nat → Bool) (n q : Nat) : Bool := g q && decide (q < n)
theorem upto_low (g : Nat → Bool) (n i : Nat) (h : upto g n i = true) : i < n := by simp [upto] at h; exact h.2
theorem wd_zero_of {f : Nat → Bool} {k : Nat} (h : ∀ t, t < 64 → f (64 * k + t) = false) : wd f k = 0 := (wd_eq (by decide) (fun t ht => by simp [h t ht])).symm
theorem shifted (g : Nat → Bool) (k n o : Nat) (ho : o < 64) (e : n + o = 64 * (k + 1)) : wd g k * 2 ^ o % 18446744073709551616 / 2 ^ o = wd (upto g n) k := by
  have h1 : 18446744073709551616 = 2 ^ (64 - o) * 2 ^ o := by rw [← Nat.pow_add, show 64 - o + o = 64 from by omega]
  rw [h1, Nat.mul_mod_mul_right, Nat.mul_div_cancel _ (Nat.two_pow_pos o)]
  refine wd_eq (Nat.lt_of_le_of_lt (Nat.mod_le _ _) (wd_lt g k)) (fun t ht => ?_)
  rw [Nat.testBit_mod_two_pow, testBit_wd]
  have : (t < 64 - o) ↔ (64 * k + t < n) := by omega
  simp [upto, ht, this, Bool.and_comm]
theorem wd_upto (g : Nat → Bool) (k n : Nat) (e : 64 * (k + 1) ≤ n) : wd g k = wd (upto g n) k := wd_congr (fun t ht => by
  have : 64 * k + t < n := by omega
  simp [upto, this])
theorem tz_key (x a : Nat) (hx : x < 18446744073709551616) (hx0 : x ≠ 0) (hlow : x &&& (18446744073709551616 - x) = a) :
    IntKind.u64.wrap (bits BinOp.and IntKind.u64 (x : Int) (IntKind.u64.wrap (-(x : Int))) * 285870213051353865) / 288230376151711744 = ((a * 285870213051353865 % 18446744073709551616 / 288230376151711744 : Nat) : Int) := by
  have e1 : IntKind.u64.wrap (-(x : Int)) = ((18446744073709551616 - x : Nat) : Int) := by rw [IntKind.wrap_u64]; omega
  rw [e1, bits_and_u64_nat x _ hx (by omega), hlow, IntKind.wrap_u64]
  omega
theorem tz_core (x k idx : Nat) (w : World) (hx0 : ((x : Int) == 0) = false)
    (key : IntKind.u64.wrap (bits BinOp.and IntKind.u64 (x : Int) (IntKind.u64.wrap (-(x : Int))) * 285870213051353865) / 288230376151711744 = (idx : Int))
    (hi : idx < 64) (hk : k < 64) (hcell : w.cell? ⟨0, idx, none⟩ = some (.int .u8 k)) :
    Calls Tryd.prog 47 #[.int .u64 x] w fun e w' => e = .returned (.int .i64 k) ∧ w = w' := by
  go_enter Tryd.func47, Tryd.ntmps47
  go_wp2_with (simp only [key])
  go_ret
  exact ⟨rfl, rfl⟩
theorem tz_any (x : Nat) (hx : x < 18446744073709551616) (h0 : x ≠ 0) (w : World) (hT : GlobOk w) :
    Calls Tryd.prog 47 #[.int .u64 x] w fun e w' => e = .returned (.int .i64 (Lib.ctz 64 x : Nat)) ∧ w = w' := by
  obtain ⟨hlow, hk⟩ := Lib.lowest_bit 64 x h0 hx
  obtain ⟨hi, htab⟩ := Lib.deBruijn64_at _ hk
  have hcell := hT _ hi
  rw [htab] at hcell
  exact tz_core x _ _ w (by simp; omega) (tz_key x _ hx h0 hlow) hi hk hcell
def elems (f : Nat → Bool) (n : Nat) : List Nat := (List.range n).filter f
theorem elems_len (f : Nat → Bool) (n : Nat) : (elems f n).length ≤ n := by
  have := List.length_filter_le f (List.range n)
  unfold elems; simpa using this
theorem elems_word (f : Nat → Bool) (k : Nat) : elems f (64 * (k + 1)) = elems f (64 * k) ++ (bitsOf (wd f k)).map (64 * k + ·) := by
  unfold elems bitsOf
  rw [Nat.mul_add, Nat.mul_one, List.range_add, List.filter_append, List.filter_map]
  congr 2
  apply List.filter_congr
  intro j hj
  have := List.mem_range.1 hj
  simp [testBit_wd, this]
theorem elems_top (f : Nat → Bool) (n m : Nat) (h : ∀ i, f i = true → i < n) (hm : n ≤ m) : elems f m = elems f n := by
  obtain ⟨d, rfl⟩ : ∃ d, m = n + d := ⟨m - n, by omega⟩
  unfold elems
  rw [List.range_add, List.filter_append]
  have : ((List.range d).map (n + ·)).filter f = [] := by
    rw [List.filter_eq_nil_iff]
    intro a ha hfa
    obtain ⟨q, _, rfl⟩ := List.mem_map.1 ha
    have := h _ hfa; omega
  rw [this, List.append_nil]
def clampN (n : Int) : Nat := (max 0 (min n 1000000)).toNat
theorem clampN_le (n : Int) : clampN n ≤ 1000000 := by unfold clampN; omega
end Go.Proofs.YtknmcmfdbfhadaaDoor
end
section
/- A region that draws its order, inside a round: what the plain calculus shows of it holds there too. -/
namespace Go.Proofs.YtknmcmfdbfhadaaDoor
open Go.RowKit Go

/-- No operation is a defer statement. -/
def noDefer (ops : Array Oper) : Bool := ops.all fun o => match o.op with | .defer _ => false | _ => true
theorem noDefer_spec {ops : Array Oper} (h : noDefer ops = true) {i : Nat} {o : Oper} (hi : ops[i]? = some o) (c : Call) : o.op ≠ .defer c := by
  intro e
  have hm := Array.all_eq_true'.1 h o (Array.mem_of_getElem? hi)
  rw [e] at hm
  cases hm
section
variable {P : Go.Program} {l n : Nat} {ops : Array Oper} {Q : Exit → Act → World → Prop} {md : Region.Mode}
theorem rows_round {row : String} {args : Array Value} {w : World} {R : Value → World → Prop} (h : Rows P row args w R) : RowsIn (Fence.wide.inRound l) n P row args w R :=
  fun c cs _ => let ⟨v, w', r, s⟩ := h c cs; ⟨v, w', r, stepsIn_wide.2 s⟩
theorem oper_round {o : Oper} {a : Act} {w : World} {K : Act → World → Prop} (hd : ∀ c, o.op ≠ .defer c) (h : o.wp P a w K Q) : o.wpIn (Fence.wide.inRound l) n P a w K Q := by
  unfold Oper.wp at h
  unfold Oper.wpIn
  refine ⟨fun _ _ => trivial, ?_⟩
  rw [Fence.inRound_round, Oper.semAt_some l a.eval o hd]
  generalize (execOp a.eval o).run P w = r at *
  cases r with
  | ok x w' =>
    cases x with
    | value v => exact h
    | skip => exact h
    | defer d => exact h
    | enter f args => exact ⟨fun k => (by cases k), (callsIn_wide (n := n - 1)).2 h⟩
    | row row args => exact ⟨fun k => (by cases k), rows_round h⟩
    | _ => exact h.elim
  | halt x w' => cases x <;> first | exact h | exact h.elim
theorem wpOp_round {i : Nat} {a : Act} {w : World} {K : Act → World → Prop} (hL : ¬ LetsOut Q) (hd : noDefer ops = true) (h : wpOp P ops Q i K a w) : wpOpIn (Fence.wide.inRound l) n P ops Q i K a w := by
  unfold wpOp at h
  unfold wpOpIn
  cases hi : ops[i]? with
  | none => simp only [hi] at h ⊢; exact h
  | some o =>
    simp only [hi] at h ⊢
    split
    · rename_i hw; simp only [hw, if_true] at h; exact oper_round (noDefer_spec hd hi) (h.resolve_right fun k => hL k.2)
    · rename_i hw; simp only [hw] at h; exact ⟨fun _ _ => trivial, h⟩
theorem wpAny_round (hL : ¬ LetsOut Q) (hd : noDefer ops = true) : ∀ (f : Nat) (listed : Array Bool) (a : Act) (w : World), wpAny P md ops Q f listed a w → wpAnyIn (Fence.wide.inRound l) n P md ops Q f listed a w
  | 0, _, _, _, h => h
  | f + 1, _, _, _, h => ⟨h.1, fun i hi => wpOpIn_mono (fun a' w' h' => wpAny_round hL hd f _ a' w' h') (wpOp_round hL hd (h.2 i hi))⟩
theorem region_round {id : Nat} {a : Act} {w : World} (hL : ¬ LetsOut Q) (hm : P.follows .mixedOrders = true) (hd : noDefer ops = true)
    (h : wpAny P .any ops Q ops.size (Array.replicate ops.size false) a { w with drawn := w.drawn + 1 }) : (Code.region id ops true).wpIn (Fence.wide.inRound l) n P Q a w :=
  wpIn_region_any hm (wpAny_round hL hd _ _ _ _ h)
/-- .. where nobody writes what is read: whatever the callees make. -/
theorem region_round_quiet {id : Nat} {a : Act} {w : World} {ol : List Oper} {C : World → Prop} (hL : ¬ LetsOut Q) (hm : P.follows .mixedOrders = true) (hd : noDefer ol.toArray = true) (hB : Region.lexB .any ol.toArray = true) (hC : C { w with drawn := w.drawn + 1 })
    (h : wpQuiet P ol.toArray C (fun a' => ∀ w', C w' → Q .normal a' w') ol a) : (Code.region id ol.toArray true).wpIn (Fence.wide.inRound l) n P Q a w := by
  simp only [Region.lexB, Bool.and_eq_true] at hB
  refine region_round hL hm hd (wpAny_of_quiet (Q := fun a' => ∀ w', C w' → Q .normal a' w') (fun _ w' hw' h => h w' hw') _ _ _ _ hC ?_)
  have := wpAnyQ_lex (C := C) (md := .any) hB.1 ol 0 (Array.replicate ol.toArray.size false) a (by simp) (by simpa using hB.2) h
  simpa using this
/-- .. where what is read first is held by S. -/
theorem region_round_held {id : Nat} {a : Act} {w : World} {S : World → Prop} (hL : ¬ LetsOut Q) (hm : P.follows .mixedOrders = true) (hd : noDefer ops = true)
    (h : wpAnyH P .any ops Q S ops.size (Array.replicate ops.size false) a { w with drawn := w.drawn + 1 }) : (Code.region id ops true).wpIn (Fence.wide.inRound l) n P Q a w :=
  region_round hL hm hd (wpAny_of_held _ _ _ _ h)
end
end Go.Proofs.YtknmcmfdbfhadaaDoor
end
section
/- Contracts of library functions, laid at this translation by the shelf. -/
namespace Go.Proofs
open Go.Shelf
def Tryd.lays128_ren : Go.Shelf.Ren := ⟨fun | 128 => 59 | n => n, fun | 51 => 85 | 3 => 3 | 4 => 4 | 46 => 69 | 5 => 5 | 9 => 9 | n => n, fun | n => n⟩
theorem Tryd.lays128 : Go.Proofs.Lays.n128 Tryd.prog Tryd.lays128_ren := {
  mixed := by kernel_rfl
  f128 := Tryd.func59.trans (congrArg some (by kernel_rfl))
  t3 := Tryd.underlying3
  a3 := Tryd.isAgg3
  z3 := Tryd.sizeOf3
  v3 := Tryd.zeroValue3
  t4 := Tryd.underlying4
  a4 := Tryd.isAgg4
  z4 := Tryd.sizeOf4
  v4 := Tryd.zeroValue4
  t5 := Tryd.underlying5
  a5 := Tryd.isAgg5
  z5 := Tryd.sizeOf5
  v5 := Tryd.zeroValue5
  t9 := Tryd.underlying9
  a9 := Tryd.isAgg9
  z9 := Tryd.sizeOf9
  v9 := Tryd.zeroValue9
  t46 := Tryd.underlying69
  a46 := Tryd.isAgg69
  z46 := Tryd.sizeOf69
  v46 := Tryd.zeroValue69
  t51 := Tryd.underlying85
  a51 := Tryd.isAgg85
  z51 := Tryd.sizeOf85
  v51 := Tryd.zeroValue85 }
theorem Tryd.bits_Len32 (x : Int) (w : World) (h0 : 0 ≤ x) (h1 : x ≤ 4294967295) :
    Calls Tryd.prog 59 #[.int .u32 x] w fun e w' => e = .returned (.int .i64 (Lib.bitLen x.toNat)) ∧ w' = w := Any.bits_Len32 Tryd.lays128 x w h0 h1
def Tryd.lays125_ren : Go.Shelf.Ren := ⟨fun | 125 => 49 | 128 => 59 | 129 => 60 | n => n, fun | 46 => 69 | 3 => 3 | 51 => 85 | 53 => 66 | 4 => 4 | 5 => 5 | 9 => 9 | n => n, fun | n => n⟩
theorem Tryd.lays125 : Go.Proofs.Lays.n125 Tryd.prog Tryd.lays125_ren := {
  mixed := by kernel_rfl
  f125 := Tryd.func49.trans (congrArg some (by kernel_rfl))
  f128 := Tryd.func59.trans (congrArg some (by kernel_rfl))
  f129 := Tryd.func60.trans (congrArg some (by kernel_rfl))
  t3 := Tryd.underlying3
  a3 := Tryd.isAgg3
  z3 := Tryd.sizeOf3
  v3 := Tryd.zeroValue3
  t4 := Tryd.underlying4
  a4 := Tryd.isAgg4
  z4 := Tryd.sizeOf4
  v4 := Tryd.zeroValue4
  t5 := Tryd.underlying5
  a5 := Tryd.isAgg5
  z5 := Tryd.sizeOf5
  v5 := Tryd.zeroValue5
  t9 := Tryd.underlying9
  a9 := Tryd.isAgg9
  z9 := Tryd.sizeOf9
  v9 := Tryd.zeroValue9
  t46 := Tryd.underlying69
  a46 := Tryd.isAgg69
  z46 := Tryd.sizeOf69
  v46 := Tryd.zeroValue69
  t51 := Tryd.underlying85
  a51 := Tryd.isAgg85
  z51 := Tryd.sizeOf85
  v51 := Tryd.zeroValue85
  t53 := Tryd.underlying66
  a53 := Tryd.isAgg66
  z53 := Tryd.sizeOf66
  v53 := Tryd.zeroValue66 }
theorem Tryd.bits_Len (x : Int) (w : World) (h0 : 0 ≤ x) (h1 : x ≤ 18446744073709551615) :
    Calls Tryd.prog 49 #[.int .u64 x] w fun e w' => e = .returned (.int .i64 (Lib.bitLen x.toNat)) ∧ w' = w := Any.bits_Len Tryd.lays125 x w h0 h1
def Tryd.lays129_ren : Go.Shelf.Ren := ⟨fun | 129 => 60 | n => n, fun | 53 => 66 | 3 => 3 | 4 => 4 | 46 => 69 | 5 => 5 | 9 => 9 | n => n, fun | n => n⟩
theorem Tryd.lays129 : Go.Proofs.Lays.n129 Tryd.prog Tryd.lays129_ren := {
  mixed := by kernel_rfl
  f129 := Tryd.func60.trans (congrArg some (by kernel_rfl))
  t3 := Tryd.underlying3
  a3 := Tryd.isAgg3
  z3 := Tryd.sizeOf3
  v3 := Tryd.zeroValue3
  t4 := Tryd.underlying4
  a4 := Tryd.isAgg4
  z4 := Tryd.sizeOf4
  v4 := Tryd.zeroValue4
  t5 := Tryd.underlying5
  a5 := Tryd.isAgg5
  z5 := Tryd.sizeOf5
  v5 := Tryd.zeroValue5
  t9 := Tryd.underlying9
  a9 := Tryd.isAgg9
  z9 := Tryd.sizeOf9
  v9 := Tryd.zeroValue9
  t46 := Tryd.underlying69
  a46 := Tryd.isAgg69
  z46 := Tryd.sizeOf69
  v46 := Tryd.zeroValue69
  t53 := Tryd.underlying66
  a53 := Tryd.isAgg66
  z53 := Tryd.sizeOf66
  v53 := Tryd.zeroValue66 }
theorem Tryd.bits_Len64 (x : Int) (w : World) (h0 : 0 ≤ x) (h1 : x ≤ 18446744073709551615) :
    Calls Tryd.prog 60 #[.int .u64 x] w fun e w' => e = .returned (.int .i64 (Lib.bitLen x.toNat)) ∧ w' = w := Any.bits_Len64 Tryd.lays129 x w h0 h1
def Tryd.lays189_ren : Go.Shelf.Ren := ⟨fun | 189 => 44 | 125 => 49 | 257 => 48 | 128 => 59 | 129 => 60 | 294 => 50 | 295 => 51 | 296 => 52 | 297 => 53 | 298 => 54 | 299 => 55 | 216 => 56 | 300 => 57 | 301 => 58 | 328 => 61 | 329 => 62 | 330 => 63 | 331 => 64 | 332 => 65 | 215 => 66 | 343 => 67 | n => n, fun | 28 => 31 | 3 => 3 | 46 => 69 | 0 => 0 | 51 => 85 | 53 => 66 | 4 => 4 | 183 => 78 | 182 => 77 | 131 => 72 | 5 => 5 | 9 => 9 | 218 => 86 | 222 => 90 | 228 => 92 | 229 => 93 | n => n, fun | n => n⟩
theorem Tryd.lays189 : Go.Proofs.Lays.n189 Tryd.prog Tryd.lays189_ren := {
  mixed := by kernel_rfl
  f125 := Tryd.func49.trans (congrArg some (by kernel_rfl))
  f128 := Tryd.func59.trans (congrArg some (by kernel_rfl))
  f129 := Tryd.func60.trans (congrArg some (by kernel_rfl))
  f189 := Tryd.func44.trans (congrArg some (by kernel_rfl))
  f215 := Tryd.func66.trans (congrArg some (by kernel_rfl))
  f216 := Tryd.func56.trans (congrArg some (by kernel_rfl))
  f257 := Tryd.func48.trans (congrArg some (by kernel_rfl))
  f294 := Tryd.func50.trans (congrArg some (by kernel_rfl))
  f295 := Tryd.func51.trans (congrArg some (by kernel_rfl))
  f296 := Tryd.func52.trans (congrArg some (by kernel_rfl))
  f297 := Tryd.func53.trans (congrArg some (by kernel_rfl))
  f298 := Tryd.func54.trans (congrArg some (by kernel_rfl))
  f299 := Tryd.func55.trans (congrArg some (by kernel_rfl))
  f300 := Tryd.func57.trans (congrArg some (by kernel_rfl))
  f301 := Tryd.func58.trans (congrArg some (by kernel_rfl))
  f328 := Tryd.func61.trans (congrArg some (by kernel_rfl))
  f329 := Tryd.func62.trans (congrArg some (by kernel_rfl))
  f330 := Tryd.func63.trans (congrArg some (by kernel_rfl))
  f331 := Tryd.func64.trans (congrArg some (by kernel_rfl))
  f332 := Tryd.func65.trans (congrArg some (by kernel_rfl))
  f343 := Tryd.func67.trans (congrArg some (by kernel_rfl))
  t0 := Tryd.underlying0
  a0 := Tryd.isAgg0
  z0 := Tryd.sizeOf0
  v0 := Tryd.zeroValue0
  t3 := Tryd.underlying3
  a3 := Tryd.isAgg3
  z3 := Tryd.sizeOf3
  v3 := Tryd.zeroValue3
  t4 := Tryd.underlying4
  a4 := Tryd.isAgg4
  z4 := Tryd.sizeOf4
  v4 := Tryd.zeroValue4
  t5 := Tryd.underlying5
  a5 := Tryd.isAgg5
  z5 := Tryd.sizeOf5
  v5 := Tryd.zeroValue5
  t9 := Tryd.underlying9
  a9 := Tryd.isAgg9
  z9 := Tryd.sizeOf9
  v9 := Tryd.zeroValue9
  t28 := Tryd.underlying31
  a28 := Tryd.isAgg31
  z28 := Tryd.sizeOf31
  v28 := Tryd.zeroValue31
  t46 := Tryd.underlying69
  a46 := Tryd.isAgg69
  z46 := Tryd.sizeOf69
  v46 := Tryd.zeroValue69
  t51 := Tryd.underlying85
  a51 := Tryd.isAgg85
  z51 := Tryd.sizeOf85
  v51 := Tryd.zeroValue85
  t53 := Tryd.underlying66
  a53 := Tryd.isAgg66
  z53 := Tryd.sizeOf66
  v53 := Tryd.zeroValue66
  t131 := Tryd.underlying72
  a131 := Tryd.isAgg72
  z131 := Tryd.sizeOf72
  v131 := Tryd.zeroValue72
  t182 := Tryd.underlying77
  a182 := Tryd.isAgg77
  z182 := Tryd.sizeOf77
  v182 := Tryd.zeroValue77
  t183 := Tryd.underlying78
  a183 := Tryd.isAgg78
  z183 := Tryd.sizeOf78
  v183 := Tryd.zeroValue78
  t218 := Tryd.underlying86
  a218 := Tryd.isAgg86
  z218 := Tryd.sizeOf86
  v218 := Tryd.zeroValue86
  t222 := Tryd.underlying90
  a222 := Tryd.isAgg90
  z222 := Tryd.sizeOf90
  v222 := Tryd.zeroValue90
  t228 := Tryd.underlying92
  a228 := Tryd.isAgg92
  z228 := Tryd.sizeOf92
  v228 := Tryd.zeroValue92
  t229 := Tryd.underlying93
  a229 := Tryd.isAgg93
  z229 := Tryd.sizeOf93
  v229 := Tryd.zeroValue93 }
open Go.Sort Go.RowKit in
theorem Tryd.slices_Sort_int (blk off cap : Nat) (zs : List Int) (w : World) (hH : Holds (Value.int .i64) w blk off zs.toArray) (hblk : blk < w.heap.size) (hsz : zs.length < 4611686018427387904) :
    Calls Tryd.prog 44 #[.slice (some ⟨blk, off, none⟩) zs.length cap] w fun e w' =>
      e = .returned (.tuple #[]) ∧ ∃ n os, w' = grow (putRow (Value.int .i64) (Sort.ahead w n) blk off (zs.mergeSort fun x y => decide (x ≤ y)).toArray) os := Any.slices_Sort_int Tryd.lays189 blk off cap zs w hH hblk hsz
open Go.RowKit Go.Sort in
theorem Tryd.slices_Sort_int_none (p : Option Addr) (cap : Nat) (w : World) :
    Calls Tryd.prog 44 #[.slice p 0 cap] w fun e w' => e = .returned (.tuple #[]) ∧ w' = w := Any.slices_Sort_int_none Tryd.lays189 p cap w
def Tryd.laysSlE041_f30_ren : Go.Shelf.Ren := ⟨fun | 41 => 30 | n => n, fun | 22 => 31 | 23 => 3 | 4 => 4 | n => n, fun | n => n⟩
theorem Tryd.laysSlE041_f30 : Go.Proofs.SlLaysE0.n41 Tryd.prog Tryd.laysSlE041_f30_ren := {
  mixed := by kernel_rfl
  f41 := ⟨Tryd.f30.name, by decide, Tryd.func30.trans (congrArg some (by kernel_rfl))⟩
  t4 := Tryd.underlying4
  a4 := Tryd.isAgg4
  z4 := Tryd.sizeOf4
  v4 := Tryd.zeroValue4
  t22 := Tryd.underlying31
  a22 := Tryd.isAgg31
  z22 := Tryd.sizeOf31
  v22 := Tryd.zeroValue31 }
open Go.RowKit Go.Lib in
theorem Tryd.slices_Clone (i0 : TypeInfo) (z : Value) (size bytes : Nat) (hi : Tryd.prog.info? 3 = some i0) (hz0 : i0.zero = some z) (hz1 : i0.size = size) (hz2 : i0.bytes = bytes) (hzs : z.cells.size = size) (hsz : 0 < size) (z23 : ∀ w, (Go.sizeOf 3).run Tryd.prog w = .ok size w) (b off n c : Nat) (news : List Value) (w : World) (hl : news.length = n * size) (hn : n ≤ maxLen) (hbig : n * bytes ≤ 140737488355328) (hc : ∀ j u, news[j]? = some u → w.cell? ⟨b, off + j, none⟩ = some u) (h1 : ∀ u ∈ news, u.oneCell' = true) :
    Calls Tryd.prog 30 #[.slice (some ⟨b, off, none⟩) n c] w fun e w' => ∃ v', e = .returned v' ∧ w'.ownsRow w.heap.size 3 size v' n news ∧ v' ≠ .slice none 0 0 ∧ Below w.heap.size w w' := AnyE.slices_Clone Tryd.laysSlE041_f30 i0 z size bytes hi hz0 hz1 hz2 hzs hsz z23 b off n c news w hl hn hbig hc h1
open Go.RowKit Go.Lib in
theorem Tryd.slices_Clone_nil (n c : Nat) (w : World) :
    Calls Tryd.prog 30 #[.slice none n c] w fun e w' => e = .returned (.slice none 0 0) ∧ w' = w := AnyE.slices_Clone_nil Tryd.laysSlE041_f30 n c w
end Go.Proofs
end
section
/- Layer 15 in plain words: shortest ways. -/
set_option linter.unusedVariables false
namespace Go.Proofs.YtknmcmfdbfhadaaDoor
namespace G
/-- From i to t in k edges. -/
inductive Way (E : List (Nat × Nat)) (t : Nat) : Nat → Nat → Prop
  | nil : Way E t t 0
  | cons {i j k : Nat} (e : (i, j) ∈ E) (h : Way E t j k) : Way E t i (k + 1)
def Dst (E : List (Nat × Nat)) (t i k : Nat) : Prop := Way E t i k ∧ ∀ m, m < k → ¬ Way E t i m
section
variable {E : List (Nat × Nat)} {t n : Nat}
theorem Dst.uniq {i k m : Nat} (h : Dst E t i k) (h' : Dst E t i m) : k = m := by
  rcases Nat.lt_trichotomy k m with q | q | q
  · exact absurd h.1 (h'.2 k q)
  · exact q
  · exact absurd h'.1 (h.2 m q)
theorem dst_of {i k : Nat} (h : Way E t i k) : ∃ m, m ≤ k ∧ Dst E t i m := by
  induction k using Nat.strongRecOn with
  | _ k ih =>
    by_cases hx : ∃ m, m < k ∧ Way E t i m
    · obtain ⟨m, hm, hw⟩ := hx
      obtain ⟨m', h1, h2⟩ := ih m hm hw
      exact ⟨m', by omega, h2⟩
    · exact ⟨k, Nat.le_refl _, h, fun m hm hw => hx ⟨m, hm, hw⟩⟩
theorem way_zero {i : Nat} : Way E t i 0 ↔ i = t := ⟨fun h => by cases h; rfl, fun h => by subst h; exact .nil⟩
theorem dst_zero {i : Nat} : Dst E t i 0 ↔ i = t := ⟨fun h => way_zero.1 h.1, fun h => ⟨way_zero.2 h, fun m hm => by omega⟩⟩
theorem way_succ {i k : Nat} : Way E t i (k + 1) ↔ ∃ j, (i, j) ∈ E ∧ Way E t j k := ⟨fun h => by cases h with | cons e h => exact ⟨_, e, h⟩, fun ⟨_, e, h⟩ => .cons e h⟩
/-- The next one on a shortest way. -/
theorem Dst.next {i k : Nat} (h : Dst E t i (k + 1)) : ∃ j, (i, j) ∈ E ∧ Dst E t j k := by
  obtain ⟨j, e, hw⟩ := way_succ.1 h.1
  exact ⟨j, e, hw, fun m hm hw' => h.2 (m + 1) (by omega) (.cons e hw')⟩
theorem Dst.edge {i j k m : Nat} (h : Dst E t i m) (e : (i, j) ∈ E) (hj : Dst E t j k) : m ≤ k + 1 := by
  refine Nat.le_of_not_lt fun q => h.2 (k + 1) q (.cons e hj.1)
theorem way_rch' {i k : Nat} {src : List Nat} (h : Way E t i k) (hr : Rch E src i) : Rch E src t := by
  induction h with
  | nil => exact hr
  | cons e _ ih => exact ih (hr.step e)
theorem way_snoc {i j k : Nat} (h : Way E j i k) (e : (j, t) ∈ E) : Way E t i (k + 1) := by
  induction h with
  | nil => exact .cons e .nil
  | cons e' _ ih => exact .cons e' ih
theorem rch_way {s i : Nat} (h : Rch E [s] i) : ∃ k, Way E i s k := by
  induction h with
  | here h => simp at h; subst h; exact ⟨0, .nil⟩
  | step _ e ih => obtain ⟨k, hk⟩ := ih; exact ⟨k + 1, way_snoc hk e⟩
theorem way_iff {s i : Nat} : (∃ k, Way E i s k) ↔ Rch E [s] i := ⟨fun ⟨_, h⟩ => way_rch' h (.here (by simp)), rch_way⟩
theorem way_lt (hE : ∀ e ∈ E, e.1 < n ∧ e.2 < n) (ht : t < n) {i k : Nat} (h : Way E t i k) : i < n := by
  cases h with
  | nil => exact ht
  | cons e _ => exact (hE _ e).1
/-- A shortest way has fewer edges than there are nodes. -/
theorem dst_row (hE : ∀ e ∈ E, e.1 < n ∧ e.2 < n) (ht : t < n) : ∀ {k i : Nat}, Dst E t i k → ∃ l : List Nat, l.length = k + 1 ∧ l.Nodup ∧ (∀ x ∈ l, x < n) ∧ ∀ x ∈ l, ∃ m, m ≤ k ∧ Dst E t x m
  | 0, i, h => ⟨[i], rfl, by simp, fun x hx => by simp at hx; subst hx; exact way_lt hE ht h.1, fun x hx => by simp at hx; subst hx; exact ⟨0, Nat.le_refl _, h⟩⟩
  | k + 1, i, h => by
    obtain ⟨j, e, hj⟩ := h.next
    obtain ⟨l, h1, h2, h3, h4⟩ := dst_row hE ht hj
    refine ⟨i :: l, by simp [h1], List.nodup_cons.2 ⟨fun hi => ?_, h2⟩, fun x hx => ?_, fun x hx => ?_⟩
    · obtain ⟨m, hm, hd⟩ := h4 i hi
      have := h.uniq hd; omega
    · rcases List.mem_cons.1 hx with rfl | hx
      · exact (hE _ e).1
      · exact h3 x hx
    · rcases List.mem_cons.1 hx with rfl | hx
      · exact ⟨k + 1, Nat.le_refl _, h⟩
      · obtain ⟨m, hm, hd⟩ := h4 x hx
        exact ⟨m, by omega, hd⟩
theorem nodup_le : ∀ {n : Nat} {l : List Nat}, l.Nodup → (∀ x ∈ l, x < n) → l.length ≤ n
  | 0, [], _, _ => Nat.le_refl _
  | 0, x :: l, _, h => absurd (h x (by simp)) (by omega)
  | n + 1, l, hn, h => by
    have h1 : (l.erase n).Nodup := hn.erase n
    have h2 := nodup_le (n := n) h1 (fun x hx => by
      have := h x (List.mem_of_mem_erase hx)
      have hne : x ≠ n := fun e => by subst e; exact (List.Nodup.not_mem_erase hn) hx
      omega)
    have h3 : l.length ≤ (l.erase n).length + 1 := by
      rw [List.length_erase]; split <;> omega
    omega
theorem dst_lt (hE : ∀ e ∈ E, e.1 < n ∧ e.2 < n) (ht : t < n) {k i : Nat} (h : Dst E t i k) : k < n := by
  obtain ⟨l, h1, h2, h3, -⟩ := dst_row hE ht h
  have := nodup_le h2 h3
  omega
end
theorem least {p : Nat → Prop} (h : ∃ j, p j) : ∃ j, p j ∧ ∀ m, p m → j ≤ m := by
  obtain ⟨j, hj⟩ := h
  induction j using Nat.strongRecOn with
  | _ j ih =>
    by_cases hx : ∃ m, m < j ∧ p m
    · obtain ⟨m, hm, hp⟩ := hx
      exact ih m hm hp
    · exact ⟨j, hj, fun m hm => Nat.le_of_not_lt fun q => hx ⟨m, q, hm⟩⟩
open Classical in
/-- The least node behind the first edge of a shortest way. -/
noncomputable def nextN (E : List (Nat × Nat)) (t k i : Nat) : Nat := if h : ∃ j, (i, j) ∈ E ∧ Dst E t j k then Classical.choose (least h) else 0
theorem nextN_spec {E : List (Nat × Nat)} {t k i : Nat} (h : ∃ j, (i, j) ∈ E ∧ Dst E t j k) : ((i, nextN E t k i) ∈ E ∧ Dst E t (nextN E t k i) k) ∧ ∀ j, (i, j) ∈ E → Dst E t j k → nextN E t k i ≤ j := by
  unfold nextN
  rw [dif_pos h]
  have := Classical.choose_spec (least h)
  exact ⟨this.1, fun j h1 h2 => this.2 j ⟨h1, h2⟩⟩
theorem nextN_eq {E : List (Nat × Nat)} {t k i j : Nat} (he : (i, j) ∈ E) (hd : Dst E t j k) (hm : ∀ m, (i, m) ∈ E → Dst E t m k → j ≤ m) : nextN E t k i = j := by
  obtain ⟨⟨h1, h2⟩, h3⟩ := nextN_spec ⟨j, he, hd⟩
  have := h3 j he hd
  have := hm _ h1 h2
  omega
/-- The first of the shortest ways. -/
noncomputable def pathN (E : List (Nat × Nat)) (t : Nat) : Nat → Nat → List Nat
  | 0, i => [i]
  | k + 1, i => i :: pathN E t k (nextN E t k i)
theorem pathN_len (E : List (Nat × Nat)) (t : Nat) : ∀ k i, (pathN E t k i).length = k + 1
  | 0, _ => rfl
  | k + 1, i => by simp [pathN, pathN_len E t k]

/-- How far each node is, by a queue: F: one more than how far; 0: not met. -/
structure BInv (E : List (Nat × Nat)) (t n : Nat) (work : List Nat) (F : Nat → Nat) : Prop where
  lt : ∀ i, F i ≠ 0 → i < n
  sub : ∀ i ∈ work, F i ≠ 0
  way : ∀ i v, F i = v + 1 → Way E t i v
  start : F t = 1
  next : ∀ i, F i ≠ 0 → i ∈ work ∨ ∀ k, (k, i) ∈ E → F k ≠ 0 ∧ F k ≤ F i + 1
  rise : work.Pairwise fun a b => F a ≤ F b
  top : ∀ h r, work = h :: r → ∀ a, F a ≤ F h + 1
structure BMid (E : List (Nat × Nat)) (t n : Nat) (i : Nat) (ws : List Nat) (F : Nat → Nat) (rest : List Nat) : Prop where
  lt : ∀ i, F i ≠ 0 → i < n
  sub : ∀ a ∈ i :: ws, F a ≠ 0
  way : ∀ i v, F i = v + 1 → Way E t i v
  start : F t = 1
  next : ∀ a, F a ≠ 0 → a ∈ ws ∨ (∀ k, (k, a) ∈ E → F k ≠ 0 ∧ F k ≤ F a + 1) ∨ (a = i ∧ ∀ k, (k, i) ∈ E → F k ≠ 0 ∨ k ∈ rest)
  rise : (i :: ws).Pairwise fun a b => F a ≤ F b
  top : ∀ a, F a ≤ F i + 1
def setF (F : Nat → Nat) (k v : Nat) : Nat → Nat := fun j => if j = k then v else F j
section
variable {E : List (Nat × Nat)} {t n i k : Nat} {work ws : List Nat} {F : Nat → Nat} {rest L : List Nat}
theorem BInv.first (ht : t < n) : BInv E t n [t] (setF (fun _ => 0) t 1) := by
  have h0 : ∀ {i : Nat}, setF (fun _ => 0) t 1 i ≠ 0 → i = t := fun {i} h => by
    unfold setF at h; split at h
    · assumption
    · exact absurd rfl h
  have h1 : setF (fun _ => 0) t 1 t = 1 := by simp [setF]
  refine ⟨fun i h => by rw [h0 h]; exact ht, fun i h => by simp at h; subst h; rw [h1]; decide, fun i v h => ?_, h1, fun i h => .inl (by simp [h0 h]), by simp, fun h r e a => ?_⟩
  · have : i = t := h0 (by rw [h]; omega)
    subst this
    rw [h1] at h
    obtain rfl : v = 0 := by omega
    exact .nil
  · cases e
    have : setF (fun _ => 0) t 1 a ≤ 1 := by unfold setF; split <;> simp
    rw [h1]; omega
theorem BInv.take (h : BInv E t n (i :: ws) F) (hL : ∀ k, (k, i) ∈ E → k ∈ L) : BMid E t n i ws F L :=
  ⟨h.lt, h.sub, h.way, h.start, fun a ha => by
    rcases h.next a ha with q | q
    · rcases List.mem_cons.1 q with rfl | q
      · exact .inr (.inr ⟨rfl, fun k hk => .inr (hL k hk)⟩)
      · exact .inl q
    · exact .inr (.inl q), h.rise, fun a => h.top i ws rfl a⟩
theorem BMid.old (h : BMid E t n i ws F (k :: rest)) (hk : F k ≠ 0) : BMid E t n i ws F rest :=
  ⟨h.lt, h.sub, h.way, h.start, fun a ha => by
    rcases h.next a ha with q | q | ⟨rfl, q⟩
    · exact .inl q
    · exact .inr (.inl q)
    · refine .inr (.inr ⟨rfl, fun j hj => ?_⟩)
      rcases q j hj with z | z
      · exact .inl z
      · rcases List.mem_cons.1 z with rfl | z
        · exact .inl hk
        · exact .inr z, h.rise, h.top⟩
theorem BMid.new (h : BMid E t n i ws F (k :: rest)) (hk : F k = 0) (hkn : k < n) (he : (k, i) ∈ E) : BMid E t n i (ws ++ [k]) (setF F k (F i + 1)) rest := by
  have hi : F i ≠ 0 := h.sub i (by simp)
  have hik : i ≠ k := fun e => by subst e; exact hi hk
  have ei : setF F k (F i + 1) i = F i := by simp [setF, hik]
  have ek : setF F k (F i + 1) k = F i + 1 := by simp [setF]
  have eo : ∀ {a : Nat}, F a ≠ 0 → setF F k (F i + 1) a = F a := fun {a} ha => by
    unfold setF; rw [if_neg (fun e => by subst e; exact ha hk)]
  have cases_ : ∀ {a : Nat}, setF F k (F i + 1) a ≠ 0 → a = k ∨ F a ≠ 0 := fun {a} ha => by
    unfold setF at ha; split at ha
    · rename_i e; exact .inl e
    · exact .inr ha
  have mono : ∀ {a : Nat}, F a ≠ 0 → setF F k (F i + 1) a ≠ 0 := fun {a} ha => by rw [eo ha]; exact ha
  refine ⟨fun a ha => ?_, fun a ha => ?_, fun a v hv => ?_, ?_, fun a ha => ?_, ?_, fun a => ?_⟩
  · rcases cases_ ha with rfl | q
    · exact hkn
    · exact h.lt a q
  · rw [← List.cons_append, List.mem_append, List.mem_singleton] at ha
    rcases ha with q | rfl
    · exact mono (h.sub a q)
    · rw [ek]; omega
  · rcases cases_ (a := a) (by rw [hv]; omega) with rfl | q
    · rw [ek] at hv
      obtain ⟨u, hu⟩ : ∃ u, F i = u + 1 := ⟨F i - 1, by omega⟩
      obtain rfl : v = u + 1 := by omega
      exact .cons he (h.way i u hu)
    · rw [eo q] at hv; exact h.way a v hv
  · rw [eo (by rw [h.start]; decide)]; exact h.start
  · rcases cases_ ha with rfl | q
    · exact .inl (by simp)
    · rcases h.next a q with z | z | ⟨rfl, z⟩
      · exact .inl (by simp [z])
      · refine .inr (.inl fun m hm => ?_)
        obtain ⟨z1, z2⟩ := z m hm
        rw [eo z1, eo q]; exact ⟨z1, z2⟩
      · refine .inr (.inr ⟨rfl, fun m hm => ?_⟩)
        rcases z m hm with z | z
        · exact .inl (mono z)
        · rcases List.mem_cons.1 z with rfl | z
          · exact .inl (by rw [ek]; omega)
          · exact .inr z
  · rw [← List.cons_append, List.pairwise_append]
    refine ⟨h.rise.imp_of_mem fun {a b} ha hb hab => ?_, by simp, fun a ha b hb => ?_⟩
    · rw [eo (h.sub a ha), eo (h.sub b hb)]; exact hab
    · rw [List.mem_singleton] at hb
      subst hb
      rw [ek, eo (h.sub a ha)]
      exact h.top a
  · rw [ei]
    unfold setF
    split
    · exact Nat.le_refl _
    · exact h.top a
theorem BMid.done (h : BMid E t n i ws F []) : BInv E t n ws F :=
  ⟨h.lt, fun a ha => h.sub a (by simp [ha]), h.way, h.start, fun a ha => by
    rcases h.next a ha with q | q | ⟨rfl, q⟩
    · exact .inl q
    · exact .inr q
    · refine .inr fun k hk => ⟨(q k hk).resolve_right (by simp), h.top k⟩,
   (List.pairwise_cons.1 h.rise).2, fun b r e a => by
    have h1 := (List.pairwise_cons.1 h.rise).1 b (by simp [e])
    have := h.top a
    omega⟩
theorem BInv.met (h : BInv E t n [] F) {i v : Nat} (hw : Way E t i v) : F i ≠ 0 ∧ F i ≤ v + 1 := by
  induction hw with
  | nil => rw [h.start]; exact ⟨by decide, Nat.le_refl _⟩
  | cons e _ ih =>
    obtain ⟨h1, h2⟩ := ih
    obtain ⟨h3, h4⟩ := (h.next _ h1).resolve_left (by simp) _ e
    exact ⟨h3, by omega⟩
theorem BInv.done (h : BInv E t n [] F) (i v : Nat) : F i = v + 1 ↔ Dst E t i v := by
  constructor
  · intro hv
    refine ⟨h.way i v hv, fun m hm hw => ?_⟩
    have := (h.met hw).2; omega
  · intro hd
    obtain ⟨h1, h2⟩ := h.met hd.1
    obtain ⟨u, hu⟩ : ∃ u, F i = u + 1 := ⟨F i - 1, by omega⟩
    have := hd.2 u
    by_cases q : u < v
    · exact absurd (h.way i u hu) (this q)
    · omega
theorem BInv.none (h : BInv E t n [] F) (i : Nat) : F i = 0 ↔ ¬ ∃ v, Way E t i v := by
  constructor
  · rintro h0 ⟨v, hv⟩
    exact (h.met hv).1 h0
  · intro hn
    refine Decidable.byContradiction fun h0 => hn ?_
    exact ⟨F i - 1, h.way i _ (by omega)⟩
end
end G
end Go.Proofs.YtknmcmfdbfhadaaDoor
end
section
/- Layer 15 in plain words: how far each node is, round by round over all edges; the least of some. -/
set_option linter.unusedVariables false
namespace Go.Proofs.YtknmcmfdbfhadaaDoor
namespace G
/-- In round k, behind the edges pre. -/
structure FInv (E : List (Nat × Nat)) (t k : Nat) (pre : List (Nat × Nat)) (F : Nat → Nat) : Prop where
  sound : ∀ i v, F i = v + 1 → Dst E t i v ∧ v ≤ k + 1
  full : ∀ i v, Dst E t i v → v ≤ k → F i = v + 1
  met : ∀ e ∈ pre, Dst E t e.2 k → F e.1 ≠ 0
section
variable {E : List (Nat × Nat)} {t n k : Nat} {pre : List (Nat × Nat)} {F : Nat → Nat} {i j : Nat}
theorem FInv.first : FInv E t 0 [] (setF (fun _ => 0) t 1) := by
  refine ⟨fun i v h => ?_, fun i v hd hv => ?_, fun e he => by simp at he⟩
  · unfold setF at h
    split at h
    · rename_i e
      obtain rfl : v = 0 := by omega
      exact ⟨dst_zero.2 e, by omega⟩
    · simp at h
  · obtain rfl : v = 0 := by omega
    obtain rfl := dst_zero.1 hd
    simp [setF]
theorem FInv.skip (h : FInv E t k pre F) (hn : ¬ (F j = k + 1 ∧ F i = 0)) : FInv E t k (pre ++ [(i, j)]) F :=
  ⟨h.sound, h.full, fun e he hd => by
    rw [List.mem_append, List.mem_singleton] at he
    rcases he with he | rfl
    · exact h.met e he hd
    · intro h0
      exact hn ⟨h.full _ _ hd (Nat.le_refl _), h0⟩⟩
theorem FInv.set (h : FInv E t k pre F) (he : (i, j) ∈ E) (hj : F j = k + 1) (hi : F i = 0) : FInv E t k (pre ++ [(i, j)]) (setF F i (k + 2)) := by
  have hdj := (h.sound j k hj).1
  have eo : ∀ {a : Nat}, F a ≠ 0 → setF F i (k + 2) a = F a := fun {a} ha => by
    unfold setF; rw [if_neg (fun e => by subst e; exact ha hi)]
  refine ⟨fun a v hv => ?_, fun a v hd hv => ?_, fun e hm hd => ?_⟩
  · unfold setF at hv
    split at hv
    · rename_i e
      subst e
      obtain rfl : v = k + 1 := by omega
      refine ⟨⟨.cons he hdj.1, fun m hm hw => ?_⟩, Nat.le_refl _⟩
      obtain ⟨m', h1, h2⟩ := dst_of hw
      have := h.full a m' h2 (by omega)
      omega
    · exact h.sound a v hv
  · have := h.full a v hd hv
    rw [eo (by omega)]; exact this
  · rw [List.mem_append, List.mem_singleton] at hm
    rcases hm with hm | rfl
    · have := h.met e hm hd
      rw [eo this]; exact this
    · simp [setF]
theorem FInv.round (h : FInv E t k E F) : FInv E t (k + 1) [] F :=
  ⟨fun i v hv => ⟨(h.sound i v hv).1, by have := (h.sound i v hv).2; omega⟩, fun i v hd hv => by
    by_cases hk : v ≤ k
    · exact h.full i v hd hk
    · obtain rfl : v = k + 1 := by omega
      obtain ⟨j, he, hj⟩ := hd.next
      have h0 : F i ≠ 0 := h.met (i, j) he hj
      obtain ⟨u, hu⟩ : ∃ u, F i = u + 1 := ⟨F i - 1, by omega⟩
      have := (h.sound i u hu).1.uniq hd
      omega, fun e he => by simp at he⟩
theorem FInv.done (hE : ∀ e ∈ E, e.1 < n ∧ e.2 < n) (ht : t < n) (h : FInv E t n pre F) (i v : Nat) : F i = v + 1 ↔ Dst E t i v :=
  ⟨fun hv => (h.sound i v hv).1, fun hd => h.full i v hd (Nat.le_of_lt (dst_lt hE ht hd))⟩
end
/-- One that tells how far each node is. -/
def Far (E : List (Nat × Nat)) (t : Nat) (F : Nat → Nat) : Prop := ∀ i v, F i = v + 1 ↔ Dst E t i v
theorem Far.uniq {E : List (Nat × Nat)} {t : Nat} {F G : Nat → Nat} (h : Far E t F) (h' : Far E t G) : F = G := by
  funext i
  cases hF : F i with
  | zero =>
    cases hG : G i with
    | zero => rfl
    | succ v => have := (h i v).2 ((h' i v).1 hG); omega
  | succ v => exact ((h' i v).2 ((h i v).1 hF)).symm
/-- r is the least of those of S that have p. -/
def IsLeast (p : Nat → Prop) (r : Option Nat) : Prop := match r with | none => ∀ x, ¬ p x | some y => p y ∧ ∀ x, p x → y ≤ x
theorem IsLeast.none_ {p : Nat → Prop} (h : ∀ x, ¬ p x) : IsLeast p none := h
theorem IsLeast.more {p q : Nat → Prop} {r : Option Nat} {x : Nat} (h : IsLeast p r) (hq : ∀ y, q y ↔ p y ∨ y = x) : IsLeast q (match r with | none => some x | some y => some (if x < y then x else y)) := by
  cases r with
  | none =>
    refine ⟨(hq x).2 (.inr rfl), fun y hy => ?_⟩
    rcases (hq y).1 hy with z | rfl
    · exact absurd z (h y)
    · exact Nat.le_refl _
  | some y =>
    obtain ⟨h1, h2⟩ := h
    show q (if x < y then x else y) ∧ ∀ z, q z → (if x < y then x else y) ≤ z
    split
    · refine ⟨(hq x).2 (.inr rfl), fun z hz => ?_⟩
      rcases (hq z).1 hz with w | rfl
      · have := h2 z w; omega
      · exact Nat.le_refl _
    · refine ⟨(hq y).2 (.inl h1), fun z hz => ?_⟩
      rcases (hq z).1 hz with w | rfl
      · exact h2 z w
      · omega
theorem IsLeast.same {p q : Nat → Prop} {r : Option Nat} (h : IsLeast p r) (hq : ∀ y, q y ↔ p y) : IsLeast q r := by
  have : q = p := by funext y; exact propext (hq y)
  rw [this]; exact h
end G
end Go.Proofs.YtknmcmfdbfhadaaDoor
end
section
/- Layer 15 in plain words: Tarjan's search, step by step, as the program makes it. -/
set_option linter.unusedVariables false
namespace Go.Proofs.YtknmcmfdbfhadaaDoor
namespace G
theorem Rch.trans {E : List (Nat × Nat)} {a b c : Nat} (h : Rch E [a] b) (k : Rch E [b] c) : Rch E [a] c :=
  k.mono (fun _ h => h) fun s hs => by simp at hs; subst hs; exact h
theorem Rch.refl {E : List (Nat × Nat)} {a : Nat} : Rch E [a] a := .here (by simp)
theorem Rch.edge {E : List (Nat × Nat)} {a b : Nat} (e : (a, b) ∈ E) : Rch E [a] b := .step .refl e
structure TS where
  ord : Nat → Nat
  low : Nat → Nat
  nxt : Nat → Nat
  part : Nat → Option Nat
  stack : List Nat
  calls : List Nat
  cnt : Nat
/-- pend: an edge that has been taken up, and not been looked at. -/
structure TInv (E : List (Nat × Nat)) (L : Nat → List Nat) (n : Nat) (s : TS) (pend : Option (Nat × Nat)) : Prop where
  lt : ∀ x, s.ord x ≠ 0 → x < n
  cntb : ∀ x, s.ord x ≤ s.cnt
  inj : ∀ x y, s.ord x ≠ 0 → s.ord x = s.ord y → x = y
  stk : ∀ x, x ∈ s.stack ↔ s.ord x ≠ 0 ∧ s.part x = none
  pord : ∀ x, s.part x ≠ none → s.ord x ≠ 0
  incr : s.stack.Pairwise fun a b => s.ord a < s.ord b
  sub : s.calls.Sublist s.stack
  first : (s.calls = [] → s.stack = []) ∧ (s.calls ≠ [] → s.stack.head? = s.calls.head?)
  nx : ∀ x, s.nxt x ≤ (L x).length
  unv : ∀ x, s.ord x = 0 → s.nxt x = 0
  fin : ∀ x, s.ord x ≠ 0 → x ∉ s.calls → s.nxt x = (L x).length
  vis : ∀ x, ∀ y ∈ (L x).take (s.nxt x), s.ord y ≠ 0 ∨ pend = some (x, y)
  clos : ∀ x, s.part x ≠ none → ∀ y ∈ L x, s.part y ≠ none
  scc : ∀ x y r q, s.part x = some r → s.part y = some q → (r = q ↔ Rch E [x] y ∧ Rch E [y] x)
  root : ∀ x r, s.part x = some r → s.part r = some r
  cr : ∀ c ∈ s.calls, ∀ x ∈ s.stack, s.ord c ≤ s.ord x → Rch E [c] x
  lowc : ∀ c ∈ s.calls, s.low c ≤ s.ord c ∧ ∃ z ∈ s.stack, s.low c = s.ord z ∧ Rch E [c] z
  finlow : ∀ x ∈ s.stack, x ∉ s.calls → ∃ z ∈ s.stack, s.ord z < s.ord x ∧ Rch E [x] z
  owner : ∀ x ∈ s.stack, ∀ c ∈ s.calls, s.ord c ≤ s.ord x → (∀ c' ∈ s.calls, s.ord c' ≤ s.ord x → s.ord c' ≤ s.ord c) → ∀ y ∈ (L x).take (s.nxt x), y ∈ s.stack → s.low c ≤ s.ord y ∨ pend = some (x, y)
def enterS (s : TS) (k : Nat) : TS := { s with ord := setF s.ord k (s.cnt + 1), low := setF s.low k (s.cnt + 1), stack := s.stack ++ [k], calls := s.calls ++ [k], cnt := s.cnt + 1 }
section
variable {E : List (Nat × Nat)} {L : Nat → List Nat} {n : Nat} {s : TS} {pend : Option (Nat × Nat)} {k i : Nat} {cs : List Nat}
theorem setF_same (F : Nat → Nat) (k v : Nat) : setF F k v k = v := by simp [setF]
theorem setF_ne (F : Nat → Nat) {k v x : Nat} (h : x ≠ k) : setF F k v x = F x := by simp [setF, h]
theorem TInv.mem (h : TInv E L n s pend) {x : Nat} (hx : x ∈ s.calls) : x ∈ s.stack := h.sub.subset hx
theorem TInv.ne (h : TInv E L n s pend) {x : Nat} (hx : x ∈ s.stack) : s.ord x ≠ 0 := ((h.stk x).1 hx).1
theorem TInv.enter (hL : ∀ i j, j ∈ L i ↔ (i, j) ∈ E) (h : TInv E L n s pend) (hk : s.ord k = 0) (hkn : k < n) (hp : (pend = none ∧ s.calls = []) ∨ ∃ i cs, pend = some (i, k) ∧ s.calls = cs ++ [i] ∧ (i, k) ∈ E) : TInv E L n (enterS s k) none := by
  have hks : k ∉ s.stack := fun q => h.ne q hk
  have hkc : k ∉ s.calls := fun q => hks (h.mem q)
  have nek : ∀ {x}, x ∈ s.stack → x ≠ k := fun hx e => hks (e ▸ hx)
  have eo : ∀ {x}, x ≠ k → setF s.ord k (s.cnt + 1) x = s.ord x := fun hx => setF_ne _ hx
  have ek : setF s.ord k (s.cnt + 1) k = s.cnt + 1 := setF_same ..
  have hpart : s.part k = none := Decidable.byContradiction fun q => h.pord k q hk
  have crk : ∀ c ∈ s.calls, Rch E [c] k := fun c hc => by
    rcases hp with ⟨-, q⟩ | ⟨i, cs, -, q, e⟩
    · rw [q] at hc; simp at hc
    · have hi : i ∈ s.calls := by rw [q]; simp
      have hci : s.ord c ≤ s.ord i := by
        have hpw := h.incr.sublist h.sub
        rw [q] at hc hpw
        rw [List.mem_append, List.mem_singleton] at hc
        rcases hc with hc | rfl
        · exact Nat.le_of_lt ((List.pairwise_append.1 hpw).2.2 c hc i (by simp))
        · exact Nat.le_refl _
      exact (h.cr c hc i (h.mem hi) hci).trans (.edge e)
  have pk : ∀ {x y}, pend = some (x, y) → y = k := fun q => by
    rcases hp with ⟨q', -⟩ | ⟨i, cs, q', -⟩
    · rw [q'] at q; cases q
    · rw [q'] at q; cases q; rfl
  refine ⟨fun x hx => ?_, fun x => ?_, fun x y hx hxy => ?_, fun x => ?_, fun x hx => ?_, ?_, ?_, ?_, h.nx, fun x hx => ?_, fun x hx hc => ?_, fun x y hy => ?_, h.clos, h.scc, h.root, fun c hc x hx hcx => ?_, fun c hc => ?_, fun x hx hc => ?_, fun x hx c hc hcx hmax y hy hys => ?_⟩
  · by_cases e : x = k
    · subst e; exact hkn
    · exact h.lt x (by simpa [enterS, eo e] using hx)
  · show setF s.ord k (s.cnt + 1) x ≤ s.cnt + 1
    by_cases e : x = k
    · subst e; rw [ek]; exact Nat.le_refl _
    · rw [eo e]; exact Nat.le_succ_of_le (h.cntb x)
  · replace hx : setF s.ord k (s.cnt + 1) x ≠ 0 := hx
    replace hxy : setF s.ord k (s.cnt + 1) x = setF s.ord k (s.cnt + 1) y := hxy
    by_cases e : x = k <;> by_cases e' : y = k
    · rw [e, e']
    · rw [e, ek, eo e'] at hxy; have := h.cntb y; omega
    · rw [e', ek, eo e] at hxy; have := h.cntb x; omega
    · rw [eo e] at hx; rw [eo e, eo e'] at hxy; exact h.inj x y hx hxy
  · show x ∈ s.stack ++ [k] ↔ setF s.ord k (s.cnt + 1) x ≠ 0 ∧ s.part x = none
    rw [List.mem_append, List.mem_singleton]
    by_cases e : x = k
    · subst e; simp [ek, hpart]
    · rw [eo e, h.stk x]; simp [e]
  · show setF s.ord k (s.cnt + 1) x ≠ 0
    have := h.pord x hx
    by_cases e : x = k
    · subst e; rw [ek]; omega
    · rw [eo e]; exact this
  · show (s.stack ++ [k]).Pairwise fun a b => setF s.ord k (s.cnt + 1) a < setF s.ord k (s.cnt + 1) b
    rw [List.pairwise_append]
    refine ⟨h.incr.imp_of_mem fun {a b} ha hb hab => by rw [eo (nek ha), eo (nek hb)]; exact hab, by simp, fun a ha b hb => ?_⟩
    rw [List.mem_singleton] at hb
    subst hb
    rw [ek, eo (nek ha)]
    exact Nat.lt_succ_of_le (h.cntb a)
  · exact h.sub.append (List.Sublist.refl _)
  · refine ⟨fun q => by simp [enterS] at q, fun _ => ?_⟩
    show (s.stack ++ [k]).head? = (s.calls ++ [k]).head?
    by_cases q : s.calls = []
    · rw [q, h.first.1 q]
    · have := h.first.2 q
      rw [List.head?_append, List.head?_append, this]
  · refine h.unv x ?_
    replace hx : setF s.ord k (s.cnt + 1) x = 0 := hx
    by_cases e : x = k
    · subst e; exact hk
    · rw [eo e] at hx; exact hx
  · replace hx : setF s.ord k (s.cnt + 1) x ≠ 0 := hx
    replace hc : x ∉ s.calls ++ [k] := hc
    rw [List.mem_append, List.mem_singleton, not_or] at hc
    rw [eo hc.2] at hx
    exact h.fin x hx hc.1
  · refine .inl ?_
    show setF s.ord k (s.cnt + 1) y ≠ 0
    rcases h.vis x y hy with q | q
    · by_cases e : y = k
      · subst e; rw [ek]; omega
      · rw [eo e]; exact q
    · rw [pk q, ek]; omega
  · replace hc : c ∈ s.calls ++ [k] := hc
    replace hx : x ∈ s.stack ++ [k] := hx
    replace hcx : setF s.ord k (s.cnt + 1) c ≤ setF s.ord k (s.cnt + 1) x := hcx
    rw [List.mem_append, List.mem_singleton] at hc hx
    rcases hc with hc | rfl
    · rcases hx with hx | rfl
      · rw [eo (nek (h.mem hc)), eo (nek hx)] at hcx
        exact h.cr c hc x hx hcx
      · exact crk c hc
    · rcases hx with hx | rfl
      · rw [ek, eo (nek hx)] at hcx
        have := h.cntb x; omega
      · exact .refl
  · replace hc : c ∈ s.calls ++ [k] := hc
    show setF s.low k (s.cnt + 1) c ≤ setF s.ord k (s.cnt + 1) c ∧ ∃ z ∈ s.stack ++ [k], setF s.low k (s.cnt + 1) c = setF s.ord k (s.cnt + 1) z ∧ Rch E [c] z
    rw [List.mem_append, List.mem_singleton] at hc
    rcases hc with hc | rfl
    · have hck := nek (h.mem hc)
      obtain ⟨h1, z, h2, h3, h4⟩ := h.lowc c hc
      rw [setF_ne _ hck, eo hck]
      exact ⟨h1, z, by simp [h2], by rw [eo (nek h2)]; exact h3, h4⟩
    · rw [setF_same, ek]
      exact ⟨Nat.le_refl _, c, by simp, ek.symm, .refl⟩
  · replace hc : x ∉ s.calls ++ [k] := hc
    replace hx : x ∈ s.stack ++ [k] := hx
    rw [List.mem_append, List.mem_singleton, not_or] at hc
    rw [List.mem_append, List.mem_singleton] at hx
    have hx := hx.resolve_right hc.2
    obtain ⟨z, h1, h2, h3⟩ := h.finlow x hx hc.1
    exact ⟨z, by simp [enterS, h1], by show setF s.ord k (s.cnt + 1) z < setF s.ord k (s.cnt + 1) x; rw [eo (nek h1), eo hc.2]; exact h2, h3⟩
  · refine .inl ?_
    replace hx : x ∈ s.stack ++ [k] := hx
    replace hc : c ∈ s.calls ++ [k] := hc
    replace hys : y ∈ s.stack ++ [k] := hys
    replace hcx : setF s.ord k (s.cnt + 1) c ≤ setF s.ord k (s.cnt + 1) x := hcx
    show setF s.low k (s.cnt + 1) c ≤ setF s.ord k (s.cnt + 1) y
    rw [List.mem_append, List.mem_singleton] at hx hc hys
    rcases hx with hx | rfl
    · rcases hc with hc | rfl
      · have hck := nek (h.mem hc)
        rw [eo hck, eo (nek hx)] at hcx
        rw [setF_ne _ hck]
        rcases hys with hys | rfl
        · rw [eo (nek hys)]
          refine (h.owner x hx c hc hcx (fun c' hc' hle => ?_) y hy hys).resolve_right fun q => nek hys (pk q)
          have := hmax c' (by simp [enterS, hc']) (by show setF s.ord k (s.cnt + 1) c' ≤ setF s.ord k (s.cnt + 1) x; rw [eo (nek (h.mem hc')), eo (nek hx)]; exact hle)
          replace this : setF s.ord k (s.cnt + 1) c' ≤ setF s.ord k (s.cnt + 1) c := this
          rw [eo (nek (h.mem hc')), eo hck] at this
          exact this
        · rw [ek]
          have := (h.lowc c hc).1
          have := h.cntb c
          omega
      · rw [ek, eo (nek hx)] at hcx
        have := h.cntb x; omega
    · replace hy : y ∈ (L x).take (s.nxt x) := hy
      rw [h.unv x hk] at hy
      simp at hy
/-- An edge is taken up. -/
theorem TInv.advance (h : TInv E L n s none) (hc : s.calls = cs ++ [i]) (hk : (L i)[s.nxt i]? = some k) : TInv E L n { s with nxt := setF s.nxt i (s.nxt i + 1) } (some (i, k)) := by
  have hi : i ∈ s.calls := by rw [hc]; simp
  have hoi : s.ord i ≠ 0 := h.ne (h.mem hi)
  have hlen := (List.getElem?_eq_some_iff.1 hk).1
  have tk : ∀ {x y}, y ∈ (L x).take (setF s.nxt i (s.nxt i + 1) x) → y ∈ (L x).take (s.nxt x) ∨ (x = i ∧ y = k) := fun {x y} hy => by
    by_cases e : x = i
    · subst e
      rw [setF_same, List.take_add_one, hk, List.mem_append] at hy
      rcases hy with hy | hy
      · exact .inl hy
      · simp at hy; exact .inr ⟨rfl, hy⟩
    · rw [setF_ne _ e] at hy; exact .inl hy
  refine ⟨h.lt, h.cntb, h.inj, h.stk, h.pord, h.incr, h.sub, h.first, fun x => ?_, fun x hx => ?_, fun x hx hc' => ?_, fun x y hy => ?_, h.clos, h.scc, h.root, h.cr, h.lowc, h.finlow, fun x hx c hc hcx hmax y hy hys => ?_⟩
  · show setF s.nxt i (s.nxt i + 1) x ≤ _
    by_cases e : x = i
    · subst e; rw [setF_same]; omega
    · rw [setF_ne _ e]; exact h.nx x
  · show setF s.nxt i (s.nxt i + 1) x = 0
    have e : x ≠ i := fun e => by subst e; exact hoi hx
    rw [setF_ne _ e]; exact h.unv x hx
  · show setF s.nxt i (s.nxt i + 1) x = _
    have e : x ≠ i := fun e => by subst e; exact hc' hi
    rw [setF_ne _ e]; exact h.fin x hx hc'
  · rcases tk hy with q | ⟨rfl, rfl⟩
    · exact .inl ((h.vis x y q).resolve_right (by simp))
    · exact .inr rfl
  · rcases tk hy with q | ⟨rfl, rfl⟩
    · exact .inl ((h.owner x hx c hc hcx hmax y q hys).resolve_right (by simp))
    · exact .inr rfl
/-- It leads to a node that has its part. -/
theorem TInv.old (h : TInv E L n s (some (i, k))) (hk : s.part k ≠ none) : TInv E L n s none := by
  refine ⟨h.lt, h.cntb, h.inj, h.stk, h.pord, h.incr, h.sub, h.first, h.nx, h.unv, h.fin, fun x y hy => ?_, h.clos, h.scc, h.root, h.cr, h.lowc, h.finlow, fun x hx c hc hcx hmax y hy hys => ?_⟩
  · rcases h.vis x y hy with q | q
    · exact .inl q
    · cases q; exact .inl (h.pord k hk)
  · rcases h.owner x hx c hc hcx hmax y hy hys with q | q
    · exact .inl q
    · cases q; exact absurd ((h.stk k).1 hys).2 hk
/-- It leads to a node that stands on the stack. -/
theorem TInv.back (h : TInv E L n s (some (i, k))) (hc : s.calls = cs ++ [i]) (he : (i, k) ∈ E) (hk : k ∈ s.stack) : TInv E L n { s with low := setF s.low i (min (s.low i) (s.ord k)) } none := by
  have hi : i ∈ s.calls := by rw [hc]; simp
  have low_le : ∀ c, setF s.low i (min (s.low i) (s.ord k)) c ≤ s.low c := fun c => by
    by_cases e : c = i
    · subst e; rw [setF_same]; exact Nat.min_le_left _ _
    · rw [setF_ne _ e]; exact Nat.le_refl _
  refine ⟨h.lt, h.cntb, h.inj, h.stk, h.pord, h.incr, h.sub, h.first, h.nx, h.unv, h.fin, fun x y hy => ?_, h.clos, h.scc, h.root, h.cr, fun c hc => ?_, h.finlow, fun x hx c hc hcx hmax y hy hys => ?_⟩
  · rcases h.vis x y hy with q | q
    · exact .inl q
    · cases q; exact .inl (h.ne hk)
  · show setF s.low i (min (s.low i) (s.ord k)) c ≤ s.ord c ∧ ∃ z ∈ s.stack, setF s.low i (min (s.low i) (s.ord k)) c = s.ord z ∧ Rch E [c] z
    obtain ⟨h1, z, h2, h3, h4⟩ := h.lowc c hc
    refine ⟨Nat.le_trans (low_le c) h1, ?_⟩
    by_cases e : c = i
    · subst e
      rw [setF_same]
      by_cases q : s.low c ≤ s.ord k
      · exact ⟨z, h2, by omega, h4⟩
      · exact ⟨k, hk, by omega, .edge he⟩
    · rw [setF_ne _ e]; exact ⟨z, h2, h3, h4⟩
  · refine .inl ?_
    show setF s.low i (min (s.low i) (s.ord k)) c ≤ s.ord y
    rcases h.owner x hx c hc hcx hmax y hy hys with q | q
    · exact Nat.le_trans (low_le c) q
    · cases q
      have h1 := hmax i hi (Nat.le_refl _)
      replace hcx : s.ord c ≤ s.ord i := hcx
      replace h1 : s.ord i ≤ s.ord c := h1
      have : c = i := h.inj c i (h.ne (h.mem hc)) (by omega)
      subst this
      rw [setF_same]; exact Nat.min_le_right _ _
end
end G
end Go.Proofs.YtknmcmfdbfhadaaDoor
end
section
/- Layer 15 in plain words: Tarjan's search: a node is left. -/
set_option linter.unusedVariables false
namespace Go.Proofs.YtknmcmfdbfhadaaDoor
namespace G
/-- What the one above is told. -/
def lowUp (s : TS) (cs : List Nat) (i : Nat) : Nat → Nat := match cs.getLast? with
  | none => s.low
  | some up => setF s.low up (min (s.low up) (s.low i))
section
variable {E : List (Nat × Nat)} {L : Nat → List Nat} {n : Nat} {s : TS} {i : Nat} {cs st seg : List Nat}
theorem lowUp_le (c : Nat) : lowUp s cs i c ≤ s.low c := by
  unfold lowUp
  cases hu : cs.getLast? with
  | none => exact Nat.le_refl _
  | some up =>
    show setF s.low up (min (s.low up) (s.low i)) c ≤ _
    by_cases e : c = up
    · subst e; rw [setF_same]; exact Nat.min_le_left _ _
    · rw [setF_ne _ e]; exact Nat.le_refl _
theorem TInv.callsLt (h : TInv E L n s none) (hc : s.calls = cs ++ [i]) {c : Nat} (hcs : c ∈ cs) : s.ord c < s.ord i := by
  have hpw := h.incr.sublist h.sub
  rw [hc] at hpw
  exact (List.pairwise_append.1 hpw).2.2 c hcs i (by simp)
theorem last_max (h : TInv E L n s none) (hc : s.calls = cs ++ [i]) {up : Nat} (hu : cs.getLast? = some up) {c : Nat} (hcs : c ∈ cs) : s.ord c ≤ s.ord up := by
  obtain ⟨l, rfl⟩ : ∃ l, cs = l ++ [up] := by
    rcases list_last cs with e | ⟨l, x, e⟩
    · rw [e] at hu; simp at hu
    · rw [e] at hu; simp at hu; subst hu; exact ⟨l, e⟩
  have hpw := h.incr.sublist h.sub
  rw [hc] at hpw
  have hpw := (List.pairwise_append.1 hpw).1
  rw [List.mem_append, List.mem_singleton] at hcs
  rcases hcs with hcs | rfl
  · exact Nat.le_of_lt ((List.pairwise_append.1 hpw).2.2 c hcs up (by simp))
  · exact Nat.le_refl _
/-- What a call's low is, behind. -/
theorem TInv.lowNew (h : TInv E L n s none) (hc : s.calls = cs ++ [i]) {c : Nat} (hcs : c ∈ cs) : lowUp s cs i c ≤ s.ord c ∧ ∃ z ∈ s.stack, lowUp s cs i c = s.ord z ∧ Rch E [c] z := by
  have hmem : ∀ {x}, x ∈ cs → x ∈ s.calls := fun hx => by rw [hc]; simp [hx]
  have hi : i ∈ s.calls := by rw [hc]; simp
  obtain ⟨h1, z, h2, h3, h4⟩ := h.lowc c (hmem hcs)
  refine ⟨Nat.le_trans (lowUp_le c) h1, ?_⟩
  unfold lowUp
  cases hu : cs.getLast? with
  | none => exact ⟨z, h2, h3, h4⟩
  | some up =>
    show ∃ z ∈ s.stack, setF s.low up (min (s.low up) (s.low i)) c = s.ord z ∧ Rch E [c] z
    by_cases e : c = up
    · subst e
      rw [setF_same]
      by_cases q : s.low c ≤ s.low i
      · exact ⟨z, h2, by omega, h4⟩
      · obtain ⟨-, z', k2, k3, k4⟩ := h.lowc i hi
        exact ⟨z', k2, by omega, (h.cr c (hmem hcs) i (h.mem hi) (Nat.le_of_lt (h.callsLt hc hcs))).trans k4⟩
    · rw [setF_ne _ e]; exact ⟨z, h2, h3, h4⟩
/-- Left, but not the least of its part. -/
theorem TInv.leave (h : TInv E L n s none) (hc : s.calls = cs ++ [i]) (hn : s.nxt i = (L i).length) (hlow : s.low i ≠ s.ord i) : TInv E L n { s with low := lowUp s cs i, calls := cs } none ∧ cs ≠ [] := by
  have hmem : ∀ {x}, x ∈ cs → x ∈ s.calls := fun hx => by rw [hc]; simp [hx]
  have hi : i ∈ s.calls := by rw [hc]; simp
  have hlt : s.low i < s.ord i := by have := (h.lowc i hi).1; omega
  have notin : ∀ {x}, x ∉ cs → x = i ∨ x ∉ s.calls := fun {x} hx => by
    by_cases e : x = i
    · exact .inl e
    · refine .inr ?_
      rw [hc, List.mem_append, List.mem_singleton, not_or]
      exact ⟨hx, e⟩
  have hne : cs ≠ [] := by
    intro e
    subst e
    have hh := h.first.2 (by rw [hc]; simp)
    rw [hc] at hh
    obtain ⟨-, z, h2, h3, -⟩ := h.lowc i hi
    cases hs : s.stack with
    | nil => rw [hs] at h2; simp at h2
    | cons a r =>
      rw [hs] at hh h2
      simp at hh
      subst hh
      have hp := h.incr
      rw [hs] at hp
      rcases List.mem_cons.1 h2 with rfl | h2
      · omega
      · have := (List.pairwise_cons.1 hp).1 z h2; omega
  refine ⟨⟨h.lt, h.cntb, h.inj, h.stk, h.pord, h.incr, ?_, ⟨fun q => absurd q hne, fun _ => ?_⟩, h.nx, h.unv, fun x hx hxc => ?_, h.vis, h.clos, h.scc, h.root, fun c hcs => h.cr c (hmem hcs), fun c hcs => h.lowNew hc hcs, fun x hx hxc => ?_, fun x hx c hcs hcx hmax y hy hys => ?_⟩, hne⟩
  · have := h.sub
    rw [hc] at this
    exact (List.sublist_append_left cs [i]).trans this
  · have := h.first.2 (by rw [hc]; simp)
    rw [hc] at this
    cases cs with
    | nil => exact absurd rfl hne
    | cons a r => simpa using this
  · rcases notin hxc with rfl | q
    · exact hn
    · exact h.fin x hx q
  · rcases notin hxc with rfl | q
    · obtain ⟨-, z, h2, h3, h4⟩ := h.lowc x hi
      exact ⟨z, h2, by show s.ord z < s.ord x; omega, h4⟩
    · exact h.finlow x hx q
  · refine .inl ?_
    show lowUp s cs i c ≤ s.ord y
    by_cases hix : s.ord i ≤ s.ord x
    · -- the owner was i: now it is the one above
      have own := (h.owner x hx i hi hix (fun c' hc' _ => by
        rw [hc, List.mem_append, List.mem_singleton] at hc'
        rcases hc' with hc' | rfl
        · exact Nat.le_of_lt (h.callsLt hc hc')
        · exact Nat.le_refl _) y hy hys).resolve_right (by simp)
      cases hu : cs.getLast? with
      | none => simp at hu; exact absurd hu hne
      | some up =>
        have hup : up ∈ cs := List.mem_of_getLast? hu
        have h1 := last_max h hc hu hcs
        have h2 := hmax up hup (Nat.le_of_lt (Nat.lt_of_lt_of_le (h.callsLt hc hup) hix))
        replace h2 : s.ord up ≤ s.ord c := h2
        have : c = up := h.inj c up (h.ne (h.mem (hmem hcs))) (by omega)
        subst this
        unfold lowUp
        rw [hu]
        simp only [setF_same]
        omega
    · have own := (h.owner x hx c (hmem hcs) hcx (fun c' hc' hle => by
        rw [hc, List.mem_append, List.mem_singleton] at hc'
        rcases hc' with hc' | rfl
        · exact hmax c' hc' hle
        · exact absurd hle hix) y hy hys).resolve_right (by simp)
      exact Nat.le_trans (lowUp_le c) own
def partS (s : TS) (i : Nat) (seg : List Nat) : Nat → Option Nat := fun x => if x ∈ i :: seg then some i else s.part x
theorem partS_in {x : Nat} (hx : x ∈ i :: seg) : partS s i seg x = some i := if_pos hx
theorem partS_out {x : Nat} (hx : x ∉ i :: seg) : partS s i seg x = s.part x := if_neg hx
/-- Left, the least of its part: what stands above it on the stack is the part. -/
theorem TInv.pop (hL : ∀ i j, j ∈ L i ↔ (i, j) ∈ E) (h : TInv E L n s none) (hc : s.calls = cs ++ [i]) (hn : s.nxt i = (L i).length) (hlow : s.low i = s.ord i) (hst : s.stack = st ++ (i :: seg)) :
    TInv E L n { s with low := lowUp s cs i, calls := cs, stack := st, part := partS s i seg } none := by
  have hmem : ∀ {x}, x ∈ cs → x ∈ s.calls := fun hx => by rw [hc]; simp [hx]
  have hi : i ∈ s.calls := by rw [hc]; simp
  have hpw := h.incr
  rw [hst] at hpw
  obtain ⟨pw1, pw2, pw3⟩ := List.pairwise_append.1 hpw
  have stlt : ∀ {x}, x ∈ st → s.ord x < s.ord i := fun hx => pw3 _ hx i (by simp)
  have segge : ∀ {x}, x ∈ i :: seg → s.ord i ≤ s.ord x := fun {x} hx => by
    rcases List.mem_cons.1 hx with rfl | hx
    · exact Nat.le_refl _
    · exact Nat.le_of_lt ((List.pairwise_cons.1 pw2).1 x hx)
  have instk : ∀ {x}, x ∈ s.stack ↔ x ∈ st ∨ x ∈ i :: seg := fun {x} => by rw [hst, List.mem_append]
  have inst : ∀ {x}, x ∈ s.stack → s.ord x < s.ord i → x ∈ st := fun {x} hx hlt => by
    rcases instk.1 hx with q | q
    · exact q
    · have := segge q; omega
  have inseg : ∀ {x}, x ∈ s.stack → s.ord i ≤ s.ord x → x ∈ i :: seg := fun {x} hx hle => by
    rcases instk.1 hx with q | q
    · have := stlt q; omega
    · exact q
  have stnot : ∀ {x}, x ∈ st → x ∉ i :: seg := fun hx hq => by have := stlt hx; have := segge hq; omega
  have segstk : ∀ {x}, x ∈ i :: seg → x ∈ s.stack := fun hx => instk.2 (.inr hx)
  have segpart : ∀ {x}, x ∈ i :: seg → s.part x = none := fun hx => ((h.stk _).1 (segstk hx)).2
  have cslt : ∀ {c}, c ∈ cs → s.ord c < s.ord i := fun hx => h.callsLt hc hx
  have segfin : ∀ {x}, x ∈ i :: seg → s.nxt x = (L x).length := fun {x} hx => by
    rcases List.mem_cons.1 hx with rfl | hx'
    · exact hn
    · refine h.fin x (h.ne (segstk hx)) fun q => ?_
      rw [hc, List.mem_append, List.mem_singleton] at q
      have := (List.pairwise_cons.1 pw2).1 x hx'
      rcases q with q | rfl
      · have := cslt q; omega
      · omega
  -- edges out of the part
  have F1 : ∀ {x y}, x ∈ i :: seg → y ∈ L x → y ∈ i :: seg ∨ s.part y ≠ none := fun {x y} hx hy => by
    have hyt : y ∈ (L x).take (s.nxt x) := by rw [segfin hx, List.take_length]; exact hy
    have hv := (h.vis x y hyt).resolve_right (by simp)
    cases hp : s.part y with
    | some r => exact .inr (by simp)
    | none =>
      refine .inl ?_
      have hys : y ∈ s.stack := (h.stk y).2 ⟨hv, hp⟩
      have := (h.owner x (segstk hx) i hi (segge hx) (fun c' hc' _ => by
        rw [hc, List.mem_append, List.mem_singleton] at hc'
        rcases hc' with hc' | rfl
        · exact Nat.le_of_lt (cslt hc')
        · exact Nat.le_refl _) y hyt hys).resolve_right (by simp)
      exact inseg hys (by omega)
  have F2 : ∀ {x z}, Rch E [x] z → (x ∈ i :: seg ∨ s.part x ≠ none) → (z ∈ i :: seg ∨ s.part z ≠ none) := fun {x z} hr hx => by
    induction hr with
    | here hs => simp at hs; subst hs; exact hx
    | step _ e ih =>
      rcases ih with q | q
      · exact F1 q ((hL _ _).2 e)
      · exact .inr (h.clos _ q _ ((hL _ _).2 e))
  have F2' : ∀ {x z}, Rch E [x] z → s.part x ≠ none → s.part z ≠ none := fun {x z} hr hx => by
    induction hr with
    | here hs => simp at hs; subst hs; exact hx
    | step _ e ih => exact h.clos _ ih _ ((hL _ _).2 e)
  have F3 : ∀ m x, s.ord x = m → x ∈ i :: seg → Rch E [x] i := by
    intro m
    induction m using Nat.strongRecOn with
    | _ m ih =>
      intro x hm hx
      rcases List.mem_cons.1 hx with rfl | hx'
      · exact .refl
      · have hxc : x ∉ s.calls := fun q => by
          rw [hc, List.mem_append, List.mem_singleton] at q
          have := (List.pairwise_cons.1 pw2).1 x hx'
          rcases q with q | rfl
          · have := cslt q; omega
          · omega
        obtain ⟨z, h1, h2, h3⟩ := h.finlow x (segstk hx) hxc
        rcases F2 h3 (.inl hx) with q | q
        · exact h3.trans (ih (s.ord z) (by omega) z rfl q)
        · exact absurd ((h.stk z).1 h1).2 q
  have F4 : ∀ {x}, x ∈ i :: seg → Rch E [i] x := fun hx => h.cr i hi _ (segstk hx) (segge hx)
  have lowst : ∀ {c}, c ∈ cs → ∃ z ∈ st, lowUp s cs i c = s.ord z ∧ Rch E [c] z := fun {c} hcs => by
    obtain ⟨h1, z, h2, h3, h4⟩ := h.lowNew hc hcs
    exact ⟨z, inst h2 (by have := cslt hcs; omega), h3, h4⟩
  refine ⟨h.lt, h.cntb, h.inj, fun x => ?_, fun x hx => ?_, pw1, ?_, ⟨fun q => ?_, fun q => ?_⟩, h.nx, h.unv, fun x hx hxc => ?_, h.vis, fun x hx y hy => ?_, fun x y r q hx hy => ?_, fun x r hx => ?_, fun c hcs x hx => h.cr c (hmem hcs) x (instk.2 (.inl hx)), fun c hcs => ⟨(h.lowNew hc hcs).1, lowst hcs⟩, fun x hx hxc => ?_, fun x hx c hcs hcx hmax y hy hys => ?_⟩
  · show x ∈ st ↔ s.ord x ≠ 0 ∧ partS s i seg x = none
    constructor
    · intro hx
      rw [partS_out (stnot hx)]
      exact (h.stk x).1 (instk.2 (.inl hx))
    · rintro ⟨h1, h2⟩
      by_cases q : x ∈ i :: seg
      · rw [partS_in q] at h2; cases h2
      · rw [partS_out q] at h2
        exact (instk.1 ((h.stk x).2 ⟨h1, h2⟩)).resolve_right q
  · replace hx : partS s i seg x ≠ none := hx
    by_cases q : x ∈ i :: seg
    · exact h.ne (segstk q)
    · rw [partS_out q] at hx; exact h.pord x hx
  · have h1 := h.sub.filter fun x => decide (s.ord x < s.ord i)
    rw [hc, hst, List.filter_append, List.filter_append] at h1
    have e1 : cs.filter (fun x => decide (s.ord x < s.ord i)) = cs := List.filter_eq_self.2 fun x hx => by simp [cslt hx]
    have e2 : [i].filter (fun x => decide (s.ord x < s.ord i)) = [] := by simp
    have e3 : st.filter (fun x => decide (s.ord x < s.ord i)) = st := List.filter_eq_self.2 fun x hx => by simp [stlt hx]
    have e4 : (i :: seg).filter (fun x => decide (s.ord x < s.ord i)) = [] := List.filter_eq_nil_iff.2 fun x hx => by have := segge hx; simp; omega
    rw [e1, e2, e3, e4, List.append_nil, List.append_nil] at h1
    exact h1
  · replace q : cs = [] := q
    have hh := h.first.2 (by rw [hc]; simp)
    rw [hc, hst, q] at hh
    cases st with
    | nil => rfl
    | cons a r =>
      simp at hh
      have := stlt (x := a) (by simp)
      rw [hh] at this; omega
  · replace q : cs ≠ [] := q
    have hh := h.first.2 (by rw [hc]; simp)
    rw [hc, hst] at hh
    show st.head? = cs.head?
    cases cs with
    | nil => exact absurd rfl q
    | cons c r =>
      cases st with
      | nil =>
        simp at hh
        have := cslt (c := c) (by simp)
        rw [hh] at this; omega
      | cons a r' => simpa using hh
  · replace hxc : x ∉ cs := hxc
    by_cases e : x = i
    · subst e; exact hn
    · refine h.fin x hx ?_
      rw [hc, List.mem_append, List.mem_singleton, not_or]
      exact ⟨hxc, e⟩
  · replace hx : partS s i seg x ≠ none := hx
    show partS s i seg y ≠ none
    have : x ∈ i :: seg ∨ s.part x ≠ none := by
      by_cases q : x ∈ i :: seg
      · exact .inl q
      · rw [partS_out q] at hx; exact .inr hx
    have hy' : y ∈ i :: seg ∨ s.part y ≠ none := by
      rcases this with q | q
      · exact F1 q hy
      · exact .inr (h.clos x q y hy)
    by_cases q : y ∈ i :: seg
    · rw [partS_in q]; simp
    · rw [partS_out q]; exact hy'.resolve_left q
  · replace hx : partS s i seg x = some r := hx
    replace hy : partS s i seg y = some q := hy
    have iroot : ∀ {a b}, s.part a = some b → b ≠ i := fun {a b} ha e => by
      have := h.root a b ha
      rw [e, segpart (by simp)] at this; cases this
    by_cases qx : x ∈ i :: seg <;> by_cases qy : y ∈ i :: seg
    · rw [partS_in qx] at hx; rw [partS_in qy] at hy
      cases hx; cases hy
      exact ⟨fun _ => ⟨(F3 _ x rfl qx).trans (F4 qy), (F3 _ y rfl qy).trans (F4 qx)⟩, fun _ => rfl⟩
    · rw [partS_in qx] at hx; rw [partS_out qy] at hy
      cases hx
      refine ⟨fun e => absurd e.symm (iroot hy), fun ⟨_, e⟩ => ?_⟩
      exact absurd (segpart qx) (F2' e (by rw [hy]; simp))
    · rw [partS_out qx] at hx; rw [partS_in qy] at hy
      cases hy
      refine ⟨fun e => absurd e (iroot hx), fun ⟨e, _⟩ => ?_⟩
      exact absurd (segpart qy) (F2' e (by rw [hx]; simp))
    · rw [partS_out qx] at hx; rw [partS_out qy] at hy
      exact h.scc x y r q hx hy
  · replace hx : partS s i seg x = some r := hx
    show partS s i seg r = some r
    by_cases qx : x ∈ i :: seg
    · rw [partS_in qx] at hx
      cases hx
      exact partS_in (by simp)
    · rw [partS_out qx] at hx
      have := h.root x r hx
      rw [partS_out (fun q => by rw [segpart q] at this; cases this)]
      exact this
  · replace hx : x ∈ st := hx
    replace hxc : x ∉ cs := hxc
    have hxi : x ≠ i := fun e => by have := stlt hx; rw [e] at this; omega
    obtain ⟨z, h1, h2, h3⟩ := h.finlow x (instk.2 (.inl hx)) (by rw [hc, List.mem_append, List.mem_singleton, not_or]; exact ⟨hxc, hxi⟩)
    exact ⟨z, inst h1 (by have := stlt hx; omega), h2, h3⟩
  · refine .inl ?_
    replace hx : x ∈ st := hx
    have own := (h.owner x (instk.2 (.inl hx)) c (hmem hcs) hcx (fun c' hc' hle => by
      rw [hc, List.mem_append, List.mem_singleton] at hc'
      rcases hc' with hc' | rfl
      · exact hmax c' hc' hle
      · have := stlt hx; omega) y hy (instk.2 (.inl hys))).resolve_right (by simp)
    exact Nat.le_trans (lowUp_le c) own
/-- Nothing has been met. -/
theorem TInv.begin : TInv E L n ⟨fun _ => 0, fun _ => 0, fun _ => 0, fun _ => none, [], [], 0⟩ none := by
  refine ⟨fun x h => absurd rfl h, fun x => Nat.le_refl _, fun x y h => absurd rfl h, fun x => by simp, fun x h => absurd rfl h, List.Pairwise.nil, List.Sublist.refl _, ⟨fun _ => rfl, fun h => absurd rfl h⟩, fun x => Nat.zero_le _, fun x _ => rfl, fun x h => absurd rfl h, fun x y h => by simp at h, fun x h => absurd rfl h, fun x y r q h => by simp at h, fun x r h => by simp at h, fun c h => by simp at h, fun c h => by simp at h, fun x h => by simp at h, fun x h => by simp at h⟩
/-- All has been gone through. -/
theorem TInv.done (h : TInv E L n s none) (hc : s.calls = []) {x : Nat} (hx : s.ord x ≠ 0) : ∃ r, s.part x = some r := by
  cases hp : s.part x with
  | some r => exact ⟨r, rfl⟩
  | none =>
    have := (h.stk x).2 ⟨hx, hp⟩
    rw [h.first.1 hc] at this
    simp at this
end
end G
end Go.Proofs.YtknmcmfdbfhadaaDoor
end
section
/- Numbers of classes by their least members, in plain words. -/
set_option linter.unusedVariables false
namespace Go.Proofs.YtknmcmfdbfhadaaDoor
namespace G
/-- No one ahead of it has the same key. -/
def isF (p : Nat → Int) (j : Nat) : Bool := (List.range j).all fun i => p i != p j
theorem isF_iff {p : Nat → Int} {j : Nat} : isF p j = true ↔ ∀ i < j, p i ≠ p j := by
  simp only [isF, List.all_eq_true, List.mem_range, bne_iff_ne]
def leads (p : Nat → Int) (k : Nat) : List Nat := (List.range k).filter (isF p)
theorem leads_len (p : Nat → Int) (k : Nat) : (leads p k).length ≤ k := by
  have := List.length_filter_le (isF p) (List.range k)
  rwa [List.length_range] at this
theorem mem_leads {p : Nat → Int} {k j : Nat} : j ∈ leads p k ↔ j < k ∧ isF p j = true := by simp [leads]
theorem leads_succ (p : Nat → Int) (k : Nat) : leads p (k + 1) = leads p k ++ (if isF p k = true then [k] else []) := by
  unfold leads
  rw [List.range_succ, List.filter_append]
  congr 1
  by_cases h : isF p k = true <;> simp [h]
/-- Each one has a first of its class. -/
theorem first_of (p : Nat → Int) : ∀ k, ∃ j, j ≤ k ∧ p j = p k ∧ isF p j = true := by
  intro k
  induction k using Nat.strongRecOn with
  | _ k ih =>
    by_cases h : isF p k = true
    · exact ⟨k, Nat.le_refl _, rfl, h⟩
    · have : ∃ i, i < k ∧ p i = p k := by
        refine Classical.byContradiction fun hn => h (isF_iff.2 fun i hi e => hn ⟨i, hi, e⟩)
      obtain ⟨i, hi, e⟩ := this
      obtain ⟨j, h1, h2, h3⟩ := ih i hi
      exact ⟨j, by omega, h2.trans e, h3⟩
theorem first_uniq {p : Nat → Int} {i j : Nat} (hi : isF p i = true) (hj : isF p j = true) (h : p i = p j) : i = j := by
  rcases Nat.lt_trichotomy i j with q | q | q
  · exact absurd h (isF_iff.1 hj i q)
  · exact q
  · exact absurd h.symm (isF_iff.1 hi j q)
/-- A class's number: how many firsts stand ahead of its first. -/
noncomputable def numN (p : Nat → Int) (k : Nat) : Nat := (leads p (Classical.choose (first_of p k))).length
theorem numN_eq {p : Nat → Int} {k i : Nat} (hi : isF p i = true) (h : p i = p k) : numN p k = (leads p i).length := by
  have hs := Classical.choose_spec (first_of p k)
  unfold numN
  rw [first_uniq hs.2.2 hi (hs.2.1.trans h.symm)]
theorem numN_le (p : Nat → Int) (k : Nat) : numN p k ≤ k := by
  have hs := Classical.choose_spec (first_of p k)
  exact Nat.le_trans (leads_len p _) hs.1
theorem isF_congr {p q : Nat → Int} {n : Nat} (h : ∀ i j, i < n → j < n → (p i = p j ↔ q i = q j)) {j : Nat} (hj : j < n) : isF p j = isF q j := by
  rw [Bool.eq_iff_iff, isF_iff, isF_iff]
  exact ⟨fun hp i hi e => hp i hi ((h i j (by omega) hj).2 e), fun hp i hi e => hp i hi ((h i j (by omega) hj).1 e)⟩
theorem leads_congr {p q : Nat → Int} {n : Nat} (h : ∀ i j, i < n → j < n → (p i = p j ↔ q i = q j)) {k : Nat} (hk : k ≤ n) : leads p k = leads q k := by
  unfold leads
  refine List.filter_congr fun j hj => isF_congr h (by have := List.mem_range.1 hj; omega)
theorem numN_congr {p q : Nat → Int} {n : Nat} (h : ∀ i j, i < n → j < n → (p i = p j ↔ q i = q j)) {k : Nat} (hk : k < n) : numN p k = numN q k := by
  obtain ⟨i, h1, h2, h3⟩ := first_of p k
  rw [numN_eq h3 h2, numN_eq (by rw [← isF_congr h (show i < n by omega)]; exact h3) ((h i k (by omega) hk).1 h2), leads_congr (k := i) h (by omega)]
/-- Two have the same number, just if they are of one class. -/
theorem numN_inj {p : Nat → Int} {i j : Nat} : numN p i = numN p j ↔ p i = p j := by
  obtain ⟨a, -, a2, a3⟩ := first_of p i
  obtain ⟨b, -, b2, b3⟩ := first_of p j
  rw [numN_eq a3 a2, numN_eq b3 b2]
  have mono : ∀ x y, x < y → isF p x = true → (leads p x).length < (leads p y).length := fun x y hxy hx => by
    have h1 : ∀ d, (leads p (x + 1)).length ≤ (leads p (x + 1 + d)).length := fun d => by
      induction d with
      | zero => exact Nat.le_refl _
      | succ d ih => rw [show x + 1 + (d + 1) = (x + 1 + d) + 1 by omega, leads_succ p (x + 1 + d), List.length_append]; omega
    have h2 := h1 (y - (x + 1))
    rw [show x + 1 + (y - (x + 1)) = y by omega] at h2
    rw [leads_succ, if_pos hx, List.length_append, List.length_singleton] at h2
    omega
  constructor
  · intro h
    have : a = b := by
      rcases Nat.lt_trichotomy a b with q | q | q
      · have := mono a b q a3; omega
      · exact q
      · have := mono b a q b3; omega
    subst this
    exact a2.symm.trans b2
  · intro h
    rw [first_uniq a3 b3 (a2.trans (h.trans b2.symm))]
/-! ### Mutual reach -/
def Mut (E : List (Nat × Nat)) (i j : Nat) : Prop := Rch E [i] j ∧ Rch E [j] i
theorem Mut.refl {E : List (Nat × Nat)} (i : Nat) : Mut E i i := ⟨.here (by simp), .here (by simp)⟩
theorem rch_tr {E : List (Nat × Nat)} {a b c : Nat} (h : Rch E [a] b) (k : Rch E [b] c) : Rch E [a] c :=
  k.mono (fun _ h => h) fun s hs => by simp at hs; subst hs; exact h
theorem Mut.trans {E : List (Nat × Nat)} {i j k : Nat} (h : Mut E i j) (h' : Mut E j k) : Mut E i k := ⟨rch_tr h.1 h'.1, rch_tr h'.2 h.2⟩
theorem Mut.symm {E : List (Nat × Nat)} {i j : Nat} (h : Mut E i j) : Mut E j i := ⟨h.2, h.1⟩
/-- The least node of a node's part. -/
noncomputable def keyE (E : List (Nat × Nat)) (i : Nat) : Int := ((Classical.choose (least ⟨i, Mut.refl (E := E) i⟩) : Nat) : Int)
theorem keyE_iff {E : List (Nat × Nat)} {i j : Nat} : keyE E i = keyE E j ↔ Mut E i j := by
  have hi := Classical.choose_spec (least ⟨i, Mut.refl (E := E) i⟩)
  have hj := Classical.choose_spec (least ⟨j, Mut.refl (E := E) j⟩)
  unfold keyE
  generalize Classical.choose (least ⟨i, Mut.refl (E := E) i⟩) = a at *
  generalize Classical.choose (least ⟨j, Mut.refl (E := E) j⟩) = b at *
  constructor
  · intro h
    have : a = b := by omega
    subst this
    exact hi.1.trans hj.1.symm
  · intro h
    have h1 := hi.2 b (h.trans hj.1)
    have h2 := hj.2 a (h.symm.trans hi.1)
    omega
/-- The number of each node's part. -/
noncomputable def partE (E : List (Nat × Nat)) (i : Nat) : Nat := numN (keyE E) i
theorem partE_of {E : List (Nat × Nat)} {n : Nat} {p : Nat → Int} (h : ∀ i j, i < n → j < n → (p i = p j ↔ Mut E i j)) {k : Nat} (hk : k < n) : numN p k = partE E k :=
  numN_congr (fun i j hi hj => (h i j hi hj).trans keyE_iff.symm) hk
theorem partE_iff {E : List (Nat × Nat)} {i j : Nat} : partE E i = partE E j ↔ Mut E i j := numN_inj.trans keyE_iff
theorem rch_rev {E F : List (Nat × Nat)} (hF : ∀ i j, (i, j) ∈ F ↔ (j, i) ∈ E) {a b : Nat} : Rch F [a] b ↔ Rch E [b] a := by
  have key : ∀ {E F : List (Nat × Nat)}, (∀ i j, (i, j) ∈ F ↔ (j, i) ∈ E) → ∀ {a b : Nat}, Rch F [a] b → Rch E [b] a := fun {E F} hF {a b} h => by
    induction h with
    | here h => simp at h; subst h; exact .here (by simp)
    | step _ e ih => exact rch_tr (.step (.here (by simp)) ((hF _ _).1 e)) ih
  exact ⟨key hF, key (fun i j => (hF j i).symm)⟩
theorem mut_rev {E F : List (Nat × Nat)} (hF : ∀ i j, (i, j) ∈ F ↔ (j, i) ∈ E) {a b : Nat} : Mut F a b ↔ Mut E a b :=
  ⟨fun h => ⟨(rch_rev hF).1 h.2, (rch_rev hF).1 h.1⟩, fun h => ⟨(rch_rev hF).2 h.2, (rch_rev hF).2 h.1⟩⟩
end G
end Go.Proofs.YtknmcmfdbfhadaaDoor
end
