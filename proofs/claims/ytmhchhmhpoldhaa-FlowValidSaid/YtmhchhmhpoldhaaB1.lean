/- Joined by my own program, in build order: Glob, Basic, BasicRead, Clones, GP, GW, SP, Round, Shelf, FW, FP, RP, SP2, Sorts, SortC, FP2, DelL. -/
import Derived.Test.YtmhchhmhpoldhaaChecked
import Derived.WalkKit
import Derived.ProofKit
import Derived.Lib.Hide
import Derived.Deep.QuietTactic
import Derived.SizedLaws
import Derived.Shelf.SlicesE.Clone
import Derived.Test.YtmhchhmhpoldhaaProg
import Derived.OrdersIn
import Derived.OrdersHeld
import Derived.TacticsIn
import Derived.Deep.Quiet
import Derived.RangeFuncCalls
import Derived.Shelf.Small.Bits
import Derived.Shelf.Small.Wraps
import Derived.Shelf.Strconv.Itoa0
import Derived.Shelf.Sort.Plain
import Derived.Shelf.Slices.Turned
import Derived.Ground.Names2Prog
import Derived.Shelf.Slices.Clone
import Derived.Shelf.Slices.CompactI
import Derived.Shelf.Slices.SearchI
import Derived.Shelf.Slices.Cells
import Derived.Shelf.Slices.In.SortNone
import Derived.Ground.SlgnProg
import Derived.Shelf.SlicesE.Compact
import Derived.Ground.SlgfProg
import Derived.Shelf.SlicesE.IndexFunc
import Derived.Shelf.SlicesE.DeleteFunc
import Derived.Shelf.SlSortCmp.NoneTotal
import Derived.Shelf.SlSortCmp.QuietGrown
import Derived.Handy
import Derived.StillTailTactics
set_option linter.unusedVariables false
set_option linter.unusedSimpArgs false
section
namespace Go.Proofs.Ytmhchhmhpoldhaa
namespace V
open Go.RowKit
def GlobOk (_ : World) : Prop := True
theorem GlobOk.keep {w w' : World} (h : GlobOk w) (_ : Below w.heap.size w w') : GlobOk w' := h
end V
end Go.Proofs.Ytmhchhmhpoldhaa
end
section
namespace Go.Proofs.Ytmhchhmhpoldhaa
open Go.RowKit
def cellsAt (w : World) (b : Nat) : Nat → List Value → Prop
 | _, [] => True
 | o, v :: r => w.cell? ⟨b, o, none⟩ = some v ∧ cellsAt w b (o + 1) r
theorem cellsAt_of_block {w w' : World} {b : Nat} (h : w'.heap[b]? = w.heap[b]?) : ∀ {cs : List Value} {o : Nat}, cellsAt w b o cs → cellsAt w' b o cs
 | [], _, _ => trivial
 | _ :: _, _, ⟨h1, h2⟩ => ⟨(World.cell?_of_block (w := w) h).trans h1, cellsAt_of_block h h2⟩
def maxS : Nat := 140737488351232
def RSl {α : Type} (sz : Nat) (R : List Value → α → Prop) (w : World) (I : Nat → Prop) (v : Value) (l : List α) : Prop :=
 ∃ a n cap, v = .slice a n cap ∧ l.length = n ∧ n ≤ cap ∧ cap ≤ maxS ∧
  ∀ i x, l[i]? = some x → ∃ b off cs, a = some ⟨b, off, none⟩ ∧ I b ∧ cellsAt w b (off + i * sz) cs ∧ R cs x
theorem RSl.mono {α : Type} {sz : Nat} {R R' : List Value → α → Prop} {w w' : World} {I I' : Nat → Prop} {v : Value} {l : List α}
  (h : RSl sz R w I v l) (hI : ∀ b, I b → I' b) (hw : ∀ b, I b → w'.heap[b]? = w.heap[b]?) (hR : ∀ cs x, x ∈ l → R cs x → R' cs x) : RSl sz R' w' I' v l := by
 obtain ⟨a, n, cap, hv, hn, h1, h2, h3⟩ := h
 refine ⟨a, n, cap, hv, hn, h1, h2, fun i x hi => ?_⟩
 obtain ⟨b, off, cs, ha, hb, hc, hr⟩ := h3 i x hi
 exact ⟨b, off, cs, ha, hI b hb, cellsAt_of_block (hw b hb) hc, hR _ _ (List.mem_of_getElem? hi) hr⟩
theorem RSl.shape {α : Type} {sz : Nat} {R : List Value → α → Prop} {w : World} {I : Nat → Prop} {v : Value} {l : List α} (h : RSl sz R w I v l) :
  ∃ a n cap, v = .slice a n cap := let ⟨a, n, cap, hv, _⟩ := h; ⟨a, n, cap, hv⟩
theorem cell_lt {w : World} {a : Addr} {v : Value} (h : w.cell? a = some v) : a.block < w.heap.size := by
 unfold World.cell? at h
 split at h
 ·rename_i h'; exact (Array.getElem?_eq_some_iff.1 h').1
 ·cases h
theorem next {w1 w2 : World} {b o : Nat} {v : Value} (hb : Below w1.heap.size w1 w2) (h : w1.cell? ⟨b, o, none⟩ = some v) : w2.cell? ⟨b, o, none⟩ = some v :=
 (hb.cell (p := ⟨b, o, none⟩) (cell_lt h)).trans h
theorem len4 {α : Type} {l : List α} (h : l.length = 4) : ∃ a b c d, l = [a, b, c, d] := by
 match l, h with | [a, b, c, d], _ => exact ⟨a, b, c, d, rfl⟩
structure WB (B : Nat) (w : World) where
 val : World
 prop : Below B w val
instance {B : Nat} {w : World} : Nonempty (WB B w) := ⟨⟨w, Below.refl _ _⟩⟩
def RInt (cs : List Value) (x : Int) : Prop := cs = [.int .i64 x] ∧ (Lit.int .i64 x).wf = true
end Go.Proofs.Ytmhchhmhpoldhaa
end
section
namespace Go.Proofs.Ytmhchhmhpoldhaa
open Go.RowKit
theorem list_of {α : Type} (p : Nat → α → Prop) : ∀ (n : Nat), (∀ i, i < n → ∃ x, p i x) → ∃ l : List α, l.length = n ∧ ∀ i x, l[i]? = some x → p i x
 | 0, _ => ⟨[], rfl, fun i x h => by simp at h⟩
 | n + 1, h => by
  obtain ⟨l, hl, hp⟩ := list_of p n (fun i hi => h i (by omega))
  obtain ⟨y, hy⟩ := h n (by omega)
  refine ⟨l ++ [y], by simp [hl], fun i x hx => ?_⟩
  rw [List.getElem?_append] at hx
  split at hx
  ·exact hp i x hx
  ·rename_i hlt
   have : i = n := by
    rcases Nat.lt_or_ge (i - l.length) 1 with h1 | h1
    ·omega
    ·rw [List.getElem?_eq_none (by simpa using h1)] at hx; cases hx
   subst this
   have h0 : i - l.length = 0 := by omega
   rw [h0] at hx
   simp at hx
   subst hx; exact hy
theorem cellsAt_of {w : World} {b : Nat} : ∀ {cs : List Value} {o : Nat}, (∀ i, i < cs.length → w.cell? ⟨b, o + i, none⟩ = cs[i]?) → cellsAt w b o cs
 | [], _, _ => trivial
 | v :: r, o, h => ⟨by simpa using h 0 (by simp), cellsAt_of fun i hi => by have := h (i + 1) (by simp; omega); simpa [Nat.add_assoc, Nat.add_comm 1 i] using this⟩
theorem add_block (a : Addr) (k : Nat) : (a.add k).block = a.block := by unfold Addr.add; split <;> rfl
theorem cellsAt_of_cells {w : World} {base : Nat} {a : Addr} {k n : Nat} {cs : List Value} (hn : 0 < n) (h : w.cells? base (a.add k) n = some cs) :
  ∃ b off, a = ⟨b, off, a.spot⟩ ∧ (a.spot = none ∨ k ≠ 0) ∧ b < w.heap.size ∧ cellsAt w b (off + k) cs ∧ cs.length = n := by
 obtain ⟨_, hlen, hc⟩ := World.cells?_some h
 obtain ⟨b, off, spot⟩ := a
 have h0 := hc 0 hn
 have hc0 : ∃ v, cs[0]? = some v := ⟨cs[0], by simp⟩
 obtain ⟨v, hv⟩ := hc0
 rw [hv] at h0
 have hlt := cell_lt h0
 have hb : ((Addr.mk b off spot).add k).add 0 = (Addr.mk b off spot).add k := by simp [Addr.add]
 have hs : spot = none ∨ k ≠ 0 := by
  by_cases hk : k = 0
  ·left
   subst hk
   have := World.cell?_spot h0
   simpa [Addr.add] using this
  ·right; exact hk
 refine ⟨b, off, rfl, hs, ?_, cellsAt_of fun i hi => ?_, hlen⟩
 ·have : (((Addr.mk b off spot).add k).add 0).block = b := by rw [add_block, add_block]
  omega
 ·rw [hlen] at hi
  have := hc i hi
  rw [← this]
  congr 1
  by_cases hk : k = 0
  ·subst hk
   rcases hs with rfl | hs
   ·by_cases h1 : i = 0 <;> simp [Addr.add, h1]
   ·exact absurd rfl hs
  ·by_cases h1 : i = 0 <;> simp [Addr.add, hk, h1]
section
variable {H : Type} {enc : TypeId × Value → H} {P : Go.Program} {w : World} {held : Bool}
def Fits (P : Go.Program) (t : TypeId) (d : DataW H) : Prop := ∀ n ∈ d.weights P t, n ≤ reachBytes
theorem weights_mem_all {P : Go.Program} {e : TypeId} : ∀ {l : List (DataW H)} {d : DataW H}, d ∈ l → ∀ n ∈ d.weights P e, n ∈ DataW.weightsAll P e l
 | [], _, h, _, _ => by cases h
 | x :: r, d, h, n, hn => by
  rw [DataW.weightsAll, List.mem_append]
  rcases List.mem_cons.1 h with rfl | h
  ·exact .inl hn
  ·exact .inr (weights_mem_all h n hn)
theorem read_slice {α : Type} {t e : TypeId} {sz fuel : Nat} {cs : List Value} {x : DataW H × List MemPlace} {R : List Value → α → Prop} (ht : P.underlying t = some (.slice e)) (hsz : P.cellsOf e = sz) (hpos : 0 < sz)
  (hbytes : 0 < P.bytesOf e) (hfit : Fits P t x.1) (hR : ∀ n cs' y, n < fuel → DataW.trod enc P w 0 (fun _ => true) held n e cs' = some y → Fits P e y.1 → ∃ a : α, R cs' a) (h : DataW.trod enc P w 0 (fun _ => true) held fuel t cs = some x) :
  ∃ v, ∃ l : List α, cs = [v] ∧ RSl sz R w (· < w.heap.size) v l := by
 rcases DataW.trod_slice ht h with ⟨rfl, _⟩ | ⟨a, len, cap, elems, rest, n, hf, rfl, hxe, _, hl, hm, hlen, hel, hsp, _⟩
 ·exact ⟨_, [], rfl, none, 0, 0, rfl, rfl, Nat.le_refl _, by unfold maxS; omega, fun i x h => by simp at h⟩
 ·have _h0 := hm
  have hwt : x.1.weights P t = ((elems.map (·.1)).length + (rest.map (·.1)).length) * P.bytesOf e :: (DataW.weightsAll P e (elems.map (·.1)) ++ DataW.weightsAll P e (rest.map (·.1))) := by
   rw [hxe]; simp only [DataW.weights, ht]
  have hcap : cap ≤ maxS := by
   have h1 := hfit _ (by rw [hwt]; exact List.mem_cons_self ..)
   have h2 := (hsp rfl).1
   have h3 : (elems.map (·.1)).length + (rest.map (·.1)).length = cap := by simp only [List.length_map]; omega
   rw [h3] at h1
   have h4 : cap * 1 ≤ cap * P.bytesOf e := Nat.mul_le_mul_left _ hbytes
   unfold reachBytes at h1
   unfold maxS
   omega
  have hfe : ∀ z, z ∈ elems → Fits P e z.1 := fun z hz k hk => hfit k (by
   rw [hwt]
   exact List.mem_cons_of_mem _ (List.mem_append_left _ (weights_mem_all (List.mem_map_of_mem hz) k hk)))
  have hall : ∀ i, i < len → ∃ y : α, ∃ b off cs', a = ⟨b, off, none⟩ ∧ b < w.heap.size ∧ cellsAt w b (off + i * sz) cs' ∧ R cs' y := by
   intro i hi
   have h1 := hel i hi
   rw [hsz] at h1
   have h2 : ∃ z, elems[i]? = some z := ⟨elems[i], by simp⟩
   obtain ⟨z, hz⟩ := h2
   rw [hz] at h1
   cases hcell : w.cells? 0 (a.add (i * sz)) sz with
   | none => rw [hcell] at h1; simp at h1
   | some cs' =>
    rw [hcell] at h1
    have h1' : DataW.trod enc P w 0 (fun _ => true) held n e cs' = some z := by simpa using h1
    obtain ⟨b, off, ha, _, hb, hc, _⟩ := cellsAt_of_cells hpos hcell
    -- the address has no spot: element 0's cells are read, too
    have h00 := hel 0 (by omega)
    have h02 : ∃ z, elems[0]? = some z := ⟨elems[0], by simp⟩
    obtain ⟨z0, hz0⟩ := h02
    rw [hz0, hsz] at h00
    cases hcell0 : w.cells? 0 (a.add (0 * sz)) sz with
    | none => rw [hcell0] at h00; simp at h00
    | some cs0 =>
     obtain ⟨_, _, _, hs0, _⟩ := cellsAt_of_cells hpos hcell0
     have hsp : a.spot = none := by rcases hs0 with h | h; exact h; simp at h
     obtain ⟨y, hy⟩ := hR n cs' z (by omega) h1' (hfe z (List.mem_of_getElem? hz))
     exact ⟨y, b, off, cs', by rw [ha, hsp], hb, hc, hy⟩
  obtain ⟨l, hll, hp⟩ := list_of _ len hall
  refine ⟨_, l, rfl, some a, len, cap, rfl, hll, hl, hcap, fun i y hy => ?_⟩
  obtain ⟨b, off, cs', ha, hb, hc, hr⟩ := hp i y hy
  exact ⟨b, off, cs', by rw [ha], hb, hc, hr⟩
end
section
variable {H : Type} {enc : TypeId × Value → H} {w : World} {held : Bool}
theorem read_struct {P : Go.Program} {t : TypeId} {fl : List (TypeId × Nat)} {fuel : Nat} {cs : List Value} {x : DataW H × List MemPlace}
  (hf : (P.underlying t).map (fun d => match d with | .struct fs => fs.toList.map (fun f => (f.type, f.offset)) | _ => []) = some fl) (hne : fl ≠ []) (hfit : Fits P t x.1)
  (h : DataW.trod enc P w 0 (fun _ => true) held fuel t cs = some x) : cs.length = P.cellsOf t ∧ ∃ n, n < fuel ∧ ∀ k ∈ fl, ∃ y, DataW.trod enc P w 0 (fun _ => true) held n k.1 ((cs.drop k.2).take (P.cellsOf k.1)) = some y ∧ Fits P k.1 y.1 := by
 cases hu : P.underlying t with
 | none => rw [hu] at hf; simp at hf
 | some d =>
  rw [hu] at hf
  simp only [Option.map_some, Option.some.injEq] at hf
  cases d with
  | struct fs =>
   simp only at hf
   obtain ⟨xs, n, hfu, hxe, hl, hlen, hall⟩ := DataW.trod_struct hu h
   refine ⟨hl, n, by omega, fun k hk => ?_⟩
   rw [← hf] at hk
   obtain ⟨f, hfm, rfl⟩ := List.mem_map.1 hk
   obtain ⟨i, hi⟩ := List.mem_iff_getElem?.1 hfm
   have hi' : fs[i]? = some f := by rw [← Array.getElem?_toList]; exact hi
   have := hall i f hi'
   have hlt : i < xs.length := by
    rw [hlen]
    exact (Array.getElem?_eq_some_iff.1 hi').1
   refine ⟨xs[i], by simpa [List.getElem?_eq_getElem hlt] using this, fun m hm => hfit m ?_⟩
   rw [hxe]
   simp only [DataW.weights, hu]
   exact DataW.weights_mem_each (j := i) (by rw [List.getElem?_map, hi]; rfl) (by rw [List.getElem?_map, List.getElem?_eq_getElem hlt]; rfl) m hm
  | _ => simp only at hf; exact absurd hf.symm hne
theorem cellsOf_one (t : TypeId) (ht : Try.prog.cellsOf t = 1) (cs : List Value) (k : Nat) (v : Value) (h : cs[k]? = some v) : (cs.drop k).take (Try.prog.cellsOf t) = [v] := by
 rw [ht]
 have hk : k < cs.length := (List.getElem?_eq_some_iff.1 h).1
 rw [List.drop_eq_getElem_cons hk]
 simp only [List.take_succ_cons, List.take_zero]
 rw [List.getElem?_eq_getElem hk] at h
 simpa using h
theorem c_int : Try.prog.cellsOf 3 = 1 := by kernel_rfl
theorem read_int {n : Nat} {cs : List Value} {y : DataW H × List MemPlace} (h : DataW.trod enc Try.prog w 0 (fun _ => true) held n 3 cs = some y) : ∃ a : Int, RInt cs a := by
 obtain ⟨s0, e0, -, l0⟩ := DataW.trod_int Try.underlying3 h
 exact ⟨s0, e0, l0⟩
theorem read_ints {n : Nat} {cs : List Value} {y : DataW H × List MemPlace} (hfit : Fits Try.prog 23 y.1) (h : DataW.trod enc Try.prog w 0 (fun _ => true) held n 23 cs = some y) : ∃ v l, cs = [v] ∧ RSl 1 RInt w (· < w.heap.size) v l :=
 read_slice Try.underlying23 c_int (by decide) (of_decide_eq_true (by kernel_rfl)) hfit (fun _ _ _ _ h _ => read_int h) h
end
end Go.Proofs.Ytmhchhmhpoldhaa
end
section
namespace Go.Proofs
open Go.Shelf
def Try.laysClone30_ren : Go.Shelf.Ren := ⟨fun | 41 => 30 | n => n, fun | 22 => 23 | 23 => 3 | 4 => 4 | n => n, fun | n => n⟩
theorem Try.laysClone30 : Go.Proofs.SlLaysE0.n41 Try.prog Try.laysClone30_ren := {
 mixed := by kernel_rfl
 f41 := ⟨Try.f30.name, by decide, Try.func30.trans (congrArg some (by kernel_rfl))⟩
 t4 := Try.underlying4
 a4 := Try.isAgg4
 z4 := Try.sizeOf4
 v4 := Try.zeroValue4
 t22 := Try.underlying23
 a22 := Try.isAgg23
 z22 := Try.sizeOf23
 v22 := Try.zeroValue23 }
def Try.laysClone40_ren : Go.Shelf.Ren := ⟨fun | 41 => 40 | n => n, fun | 22 => 22 | 23 => 54 | 4 => 4 | n => n, fun | n => n⟩
theorem Try.laysClone40 : Go.Proofs.SlLaysE0.n41 Try.prog Try.laysClone40_ren := {
 mixed := by kernel_rfl
 f41 := ⟨Try.f40.name, by decide, Try.func40.trans (congrArg some (by kernel_rfl))⟩
 t4 := Try.underlying4
 a4 := Try.isAgg4
 z4 := Try.sizeOf4
 v4 := Try.zeroValue4
 t22 := Try.underlying22
 a22 := Try.isAgg22
 z22 := Try.sizeOf22
 v22 := Try.zeroValue22 }
end Go.Proofs
end
section
namespace Go.Proofs.Ytmhchhmhpoldhaa
namespace G
inductive Rch (E : List (Nat × Nat)) (src : List Nat) : Nat → Prop
 | here {s : Nat} (h : s ∈ src) : Rch E src s
 | step {i j : Nat} (h : Rch E src i) (e : (i, j) ∈ E) : Rch E src j
theorem Rch.mono {E E' : List (Nat × Nat)} {src src' : List Nat} (hE : ∀ e ∈ E, e ∈ E') (hs : ∀ s ∈ src, Rch E' src' s) {i : Nat} (h : Rch E src i) : Rch E' src' i := by
 induction h with
 | here h => exact hs _ h
 | step _ e ih => exact .step ih (hE _ e)
theorem Rch.lt {E : List (Nat × Nat)} {src : List Nat} {n i : Nat} (hE : ∀ e ∈ E, e.1 < n ∧ e.2 < n) (hs : ∀ s ∈ src, s < n) (h : Rch E src i) : i < n := by
 cases h with
 | here h => exact hs _ h
 | step _ e => exact (hE _ e).2
def outs (E : List (Nat × Nat)) (i : Nat) : List Nat := (E.filter fun e => e.1 = i).map (·.2)
theorem mem_outs {E : List (Nat × Nat)} {i j : Nat} : j ∈ outs E i ↔ (i, j) ∈ E := by
 simp only [outs, List.mem_map, List.mem_filter, decide_eq_true_eq]
 constructor
 ·rintro ⟨⟨a, b⟩, ⟨h, h1⟩, h2⟩
  simp only at h1 h2
  subst h1 h2
  exact h
 ·intro h
  exact ⟨(i, j), ⟨h, rfl⟩, rfl⟩
theorem outs_snoc (E : List (Nat × Nat)) (f t i : Nat) : outs (E ++ [(f, t)]) i = if i = f then outs E i ++ [t] else outs E i := by
 unfold outs
 rw [List.filter_append, List.map_append]
 by_cases h : i = f
 ·subst h; simp
 ·simp [h, Ne.symm h]
theorem outs_len (E : List (Nat × Nat)) (i : Nat) : (outs E i).length ≤ E.length := by
 simp only [outs, List.length_map]; exact List.length_filter_le _ _
def mark (R : Nat → Bool) (k : Nat) : Nat → Bool := fun j => R j || decide (j = k)
def left (R : Nat → Bool) : Nat → Nat
 | 0 => 0
 | n + 1 => left R n + (if R n = true then 0 else 1)
theorem left_mark (R : Nat → Bool) (k : Nat) (hk : R k = false) : ∀ n, left (mark R k) n + (if k < n then 1 else 0) = left R n
 | 0 => by simp [left]
 | n + 1 => by
  have ih := left_mark R k hk n
  simp only [left]
  by_cases h : n = k
  ·subst h
   have e1 : mark R n n = true := by simp [mark]
   rw [e1, hk] at *
   simp at ih ⊢
   omega
  ·have e1 : mark R k n = R n := by simp [mark, h]
   rw [e1]
   by_cases hkn : k < n
   ·rw [if_pos hkn] at ih
    rw [if_pos (show k < n + 1 by omega)]
    omega
   ·rw [if_neg hkn] at ih
    rw [if_neg (show ¬ k < n + 1 by omega)]
    omega
theorem left_le (R : Nat → Bool) : ∀ n, left R n ≤ n
 | 0 => Nat.le_refl _
 | n + 1 => by have := left_le R n; simp only [left]; split <;> omega
theorem mark_true {R : Nat → Bool} {k i : Nat} : mark R k i = true ↔ R i = true ∨ i = k := by simp [mark]
structure RInv (E : List (Nat × Nat)) (src : List Nat) (n : Nat) (work : List Nat) (R : Nat → Bool) : Prop where
 lt : ∀ i, R i = true → i < n
 sub : ∀ i ∈ work, R i = true
 rch : ∀ i, R i = true → Rch E src i
 start : ∀ s ∈ src, R s = true
 next : ∀ i, R i = true → i ∈ work ∨ ∀ j, (i, j) ∈ E → R j = true
structure RMid (E : List (Nat × Nat)) (src : List Nat) (n : Nat) (work : List Nat) (R : Nat → Bool) (i : Nat) (rest : List Nat) : Prop where
 lt : ∀ i, R i = true → i < n
 sub : ∀ i ∈ work, R i = true
 rch : ∀ i, R i = true → Rch E src i
 start : ∀ s ∈ src, R s = true
 at_ : R i = true
 next : ∀ a, R a = true → a ∈ work ∨ (∀ j, (a, j) ∈ E → R j = true) ∨ (a = i ∧ ∀ j, (i, j) ∈ E → R j = true ∨ j ∈ rest)
section
variable {E : List (Nat × Nat)} {src : List Nat} {n : Nat} {work ws : List Nat} {R : Nat → Bool} {i k : Nat} {rest L : List Nat}
theorem RInv.done (h : RInv E src n [] R) (i : Nat) : R i = true ↔ Rch E src i := by
 refine ⟨h.rch i, fun hr => ?_⟩
 induction hr with
 | here hs => exact h.start _ hs
 | step _ e ih => exact ((h.next _ ih).resolve_left (by simp)) _ e
theorem RInv.take (h : RInv E src n (ws ++ [i]) R) (hL : ∀ j, (i, j) ∈ E → j ∈ L) : RMid E src n ws R i L :=
 ⟨h.lt, fun a ha => h.sub a (by simp [ha]), h.rch, h.start, h.sub i (by simp), fun a ha => by
  rcases h.next a ha with q | q
  ·rw [List.mem_append] at q
   rcases q with q | q
   ·exact .inl q
   ·rw [List.mem_singleton] at q
    exact .inr (.inr ⟨q, fun j hj => .inr (hL j hj)⟩)
  ·exact .inr (.inl q)⟩
theorem RMid.old (h : RMid E src n ws R i (k :: rest)) (hk : R k = true) : RMid E src n ws R i rest :=
 ⟨h.lt, h.sub, h.rch, h.start, h.at_, fun a ha => by
  rcases h.next a ha with q | q | ⟨q, q2⟩
  ·exact .inl q
  ·exact .inr (.inl q)
  ·refine .inr (.inr ⟨q, fun j hj => ?_⟩)
   rcases q2 j hj with z | z
   ·exact .inl z
   ·rcases List.mem_cons.1 z with rfl | z
    ·exact .inl hk
    ·exact .inr z⟩
theorem RMid.new (h : RMid E src n ws R i (k :: rest)) (hk : k < n) (he : (i, k) ∈ E) : RMid E src n (ws ++ [k]) (mark R k) i rest :=
 ⟨fun a ha => by rcases mark_true.1 ha with q | rfl; exact h.lt a q; exact hk,
  fun a ha => by
  rw [List.mem_append, List.mem_singleton] at ha
  exact mark_true.2 (ha.imp (h.sub a) id),
  fun a ha => by
  rcases mark_true.1 ha with q | rfl
  ·exact h.rch a q
  ·exact .step (h.rch i h.at_) he,
  fun s hs => mark_true.2 (.inl (h.start s hs)), mark_true.2 (.inl h.at_), fun a ha => by
  rcases mark_true.1 ha with q | rfl
  ·rcases h.next a q with q | q | ⟨q, q2⟩
   ·exact .inl (by simp [q])
   ·exact .inr (.inl fun j hj => mark_true.2 (.inl (q j hj)))
   ·refine .inr (.inr ⟨q, fun j hj => ?_⟩)
    rcases q2 j hj with z | z
    ·exact .inl (mark_true.2 (.inl z))
    ·rcases List.mem_cons.1 z with rfl | z
     ·exact .inl (mark_true.2 (.inr rfl))
     ·exact .inr z
  ·exact .inl (by simp)⟩
theorem RMid.done (h : RMid E src n ws R i []) : RInv E src n ws R :=
 ⟨h.lt, h.sub, h.rch, h.start, fun a ha => by
  rcases h.next a ha with q | q | ⟨rfl, q2⟩
  ·exact .inl q
  ·exact .inr q
  ·exact .inr fun j hj => (q2 j hj).resolve_right (by simp)⟩
end
structure MInv (E : List (Nat × Nat)) (src : List Nat) (n : Nat) (work : List Nat) (R : Nat → Bool) : Prop where
 lt : ∀ i ∈ work, i < n
 reach : ∀ i ∈ work, Rch E src i
 marked : ∀ i, R i = true → Rch E src i
 next : ∀ i, R i = true → ∀ j, (i, j) ∈ E → R j = true ∨ j ∈ work
 start : ∀ s ∈ src, R s = true ∨ s ∈ work
section
variable {E : List (Nat × Nat)} {src : List Nat} {n i : Nat} {ws : List Nat} {R : Nat → Bool}
theorem MInv.done (h : MInv E src n [] R) (i : Nat) : R i = true ↔ Rch E src i := by
 refine ⟨h.marked i, fun hr => ?_⟩
 induction hr with
 | here hs => exact (h.start _ hs).resolve_right (by simp)
 | step _ e ih => exact (h.next _ ih _ e).resolve_right (by simp)
theorem MInv.skip (h : MInv E src n (ws ++ [i]) R) (hR : R i = true) : MInv E src n ws R := by
 have back : ∀ j, j ∈ ws ++ [i] → R j = true ∨ j ∈ ws := fun j hj => by
  rw [List.mem_append, List.mem_singleton] at hj
  rcases hj with hj | rfl
  ·exact .inr hj
  ·exact .inl hR
 exact ⟨fun a ha => h.lt a (by simp [ha]), fun a ha => h.reach a (by simp [ha]), h.marked, fun a ha j hj => (h.next a ha j hj).elim .inl (back j), fun s hs => (h.start s hs).elim .inl (back s)⟩
theorem MInv.take (hE : ∀ e ∈ E, e.1 < n ∧ e.2 < n) (h : MInv E src n (ws ++ [i]) R) : MInv E src n (ws ++ outs E i) (mark R i) := by
 have hi : Rch E src i := h.reach i (by simp)
 have back : ∀ j, j ∈ ws ++ [i] → mark R i j = true ∨ j ∈ ws ++ outs E i := fun j hj => by
  rw [List.mem_append, List.mem_singleton] at hj
  rcases hj with hj | rfl
  ·exact .inr (by simp [hj])
  ·exact .inl (mark_true.2 (.inr rfl))
 refine ⟨fun a ha => ?_, fun a ha => ?_, fun a ha => ?_, fun a ha j hj => ?_, fun s hs => (h.start s hs).elim (fun q => .inl (mark_true.2 (.inl q))) (back s)⟩
 ·rw [List.mem_append] at ha
  rcases ha with ha | ha
  ·exact h.lt a (by simp [ha])
  ·exact (hE _ (mem_outs.1 ha)).2
 ·rw [List.mem_append] at ha
  rcases ha with ha | ha
  ·exact h.reach a (by simp [ha])
  ·exact .step hi (mem_outs.1 ha)
 ·rcases mark_true.1 ha with q | rfl
  ·exact h.marked a q
  ·exact hi
 ·rcases mark_true.1 ha with q | rfl
  ·exact (h.next a q j hj).elim (fun q => .inl (mark_true.2 (.inl q))) (back j)
  ·exact .inr (by rw [List.mem_append]; exact .inr (mem_outs.2 hj))
end
open Classical in
noncomputable def reachB (E : List (Nat × Nat)) (src : List Nat) (i : Nat) : Bool := decide (Rch E src i)
theorem reachB_iff {E : List (Nat × Nat)} {src : List Nat} {i : Nat} : reachB E src i = true ↔ Rch E src i := by simp [reachB]
end G
end Go.Proofs.Ytmhchhmhpoldhaa
end
section
namespace Go.Proofs.Ytmhchhmhpoldhaa
namespace G
inductive Way (E : List (Nat × Nat)) (t : Nat) : Nat → Nat → Prop
 | nil : Way E t t 0
 | cons {i j k : Nat} (e : (i, j) ∈ E) (h : Way E t j k) : Way E t i (k + 1)
def Dst (E : List (Nat × Nat)) (t i k : Nat) : Prop := Way E t i k ∧ ∀ m, m < k → ¬ Way E t i m
section
variable {E : List (Nat × Nat)} {t n : Nat}
theorem Dst.uniq {i k m : Nat} (h : Dst E t i k) (h' : Dst E t i m) : k = m := by
 rcases Nat.lt_trichotomy k m with q | q | q
 ·exact absurd h.1 (h'.2 k q)
 ·exact q
 ·exact absurd h'.1 (h.2 m q)
theorem dst_of {i k : Nat} (h : Way E t i k) : ∃ m, m ≤ k ∧ Dst E t i m := by
 induction k using Nat.strongRecOn with
 | _ k ih =>
  by_cases hx : ∃ m, m < k ∧ Way E t i m
  ·obtain ⟨m, hm, hw⟩ := hx
   obtain ⟨m', h1, h2⟩ := ih m hm hw
   exact ⟨m', by omega, h2⟩
  ·exact ⟨k, Nat.le_refl _, h, fun m hm hw => hx ⟨m, hm, hw⟩⟩
theorem way_zero {i : Nat} : Way E t i 0 ↔ i = t := ⟨fun h => by cases h; rfl, fun h => by subst h; exact .nil⟩
theorem dst_zero {i : Nat} : Dst E t i 0 ↔ i = t := ⟨fun h => way_zero.1 h.1, fun h => ⟨way_zero.2 h, fun m hm => by omega⟩⟩
theorem way_succ {i k : Nat} : Way E t i (k + 1) ↔ ∃ j, (i, j) ∈ E ∧ Way E t j k := ⟨fun h => by cases h with | cons e h => exact ⟨_, e, h⟩, fun ⟨_, e, h⟩ => .cons e h⟩
theorem Dst.next {i k : Nat} (h : Dst E t i (k + 1)) : ∃ j, (i, j) ∈ E ∧ Dst E t j k := by
 obtain ⟨j, e, hw⟩ := way_succ.1 h.1
 exact ⟨j, e, hw, fun m hm hw' => h.2 (m + 1) (by omega) (.cons e hw')⟩
theorem Dst.edge {i j k m : Nat} (h : Dst E t i m) (e : (i, j) ∈ E) (hj : Dst E t j k) : m ≤ k + 1 := by
 refine Nat.le_of_not_lt fun q => h.2 (k + 1) q (.cons e hj.1)
theorem way_lt (hE : ∀ e ∈ E, e.1 < n ∧ e.2 < n) (ht : t < n) {i k : Nat} (h : Way E t i k) : i < n := by
 cases h with
 | nil => exact ht
 | cons e _ => exact (hE _ e).1
theorem dst_row (hE : ∀ e ∈ E, e.1 < n ∧ e.2 < n) (ht : t < n) : ∀ {k i : Nat}, Dst E t i k → ∃ l : List Nat, l.length = k + 1 ∧ l.Nodup ∧ (∀ x ∈ l, x < n) ∧ ∀ x ∈ l, ∃ m, m ≤ k ∧ Dst E t x m
 | 0, i, h => ⟨[i], rfl, by simp, fun x hx => by simp at hx; subst hx; exact way_lt hE ht h.1, fun x hx => by simp at hx; subst hx; exact ⟨0, Nat.le_refl _, h⟩⟩
 | k + 1, i, h => by
  obtain ⟨j, e, hj⟩ := h.next
  obtain ⟨l, h1, h2, h3, h4⟩ := dst_row hE ht hj
  refine ⟨i :: l, by simp [h1], List.nodup_cons.2 ⟨fun hi => ?_, h2⟩, fun x hx => ?_, fun x hx => ?_⟩
  ·obtain ⟨m, hm, hd⟩ := h4 i hi
   have := h.uniq hd; omega
  ·rcases List.mem_cons.1 hx with rfl | hx
   ·exact (hE _ e).1
   ·exact h3 x hx
  ·rcases List.mem_cons.1 hx with rfl | hx
   ·exact ⟨k + 1, Nat.le_refl _, h⟩
   ·obtain ⟨m, hm, hd⟩ := h4 x hx
    exact ⟨m, by omega, hd⟩
theorem nodup_le : ∀ {n : Nat} {l : List Nat}, l.Nodup → (∀ x ∈ l, x < n) → l.length ≤ n
 | 0, [], _, _ => Nat.le_refl _
 | 0, x :: l, _, h => absurd (h x (by simp)) (by omega)
 | n + 1, l, hn, h => by
  have h1 : (l.erase n).Nodup := hn.erase n
  have h2 := nodup_le (n := n) h1 (fun x hx => by
   have := h x (List.mem_of_mem_erase hx)
   have hne : x ≠ n := fun e => by subst e; exact (List.Nodup.not_mem_erase hn) hx
   omega)
  have h3 : l.length ≤ (l.erase n).length + 1 := by
   rw [List.length_erase]; split <;> omega
  omega
theorem dst_lt (hE : ∀ e ∈ E, e.1 < n ∧ e.2 < n) (ht : t < n) {k i : Nat} (h : Dst E t i k) : k < n := by
 obtain ⟨l, h1, h2, h3, -⟩ := dst_row hE ht h
 have := nodup_le h2 h3
 omega
end
theorem least {p : Nat → Prop} (h : ∃ j, p j) : ∃ j, p j ∧ ∀ m, p m → j ≤ m := by
 obtain ⟨j, hj⟩ := h
 induction j using Nat.strongRecOn with
 | _ j ih =>
  by_cases hx : ∃ m, m < j ∧ p m
  ·obtain ⟨m, hm, hp⟩ := hx
   exact ih m hm hp
  ·exact ⟨j, hj, fun m hm => Nat.le_of_not_lt fun q => hx ⟨m, q, hm⟩⟩
structure BInv (E : List (Nat × Nat)) (t n : Nat) (work : List Nat) (F : Nat → Nat) : Prop where
 lt : ∀ i, F i ≠ 0 → i < n
 sub : ∀ i ∈ work, F i ≠ 0
 way : ∀ i v, F i = v + 1 → Way E t i v
 start : F t = 1
 next : ∀ i, F i ≠ 0 → i ∈ work ∨ ∀ k, (k, i) ∈ E → F k ≠ 0 ∧ F k ≤ F i + 1
 rise : work.Pairwise fun a b => F a ≤ F b
 top : ∀ h r, work = h :: r → ∀ a, F a ≤ F h + 1
structure BMid (E : List (Nat × Nat)) (t n : Nat) (i : Nat) (ws : List Nat) (F : Nat → Nat) (rest : List Nat) : Prop where
 lt : ∀ i, F i ≠ 0 → i < n
 sub : ∀ a ∈ i :: ws, F a ≠ 0
 way : ∀ i v, F i = v + 1 → Way E t i v
 start : F t = 1
 next : ∀ a, F a ≠ 0 → a ∈ ws ∨ (∀ k, (k, a) ∈ E → F k ≠ 0 ∧ F k ≤ F a + 1) ∨ (a = i ∧ ∀ k, (k, i) ∈ E → F k ≠ 0 ∨ k ∈ rest)
 rise : (i :: ws).Pairwise fun a b => F a ≤ F b
 top : ∀ a, F a ≤ F i + 1
def setF (F : Nat → Nat) (k v : Nat) : Nat → Nat := fun j => if j = k then v else F j
section
variable {E : List (Nat × Nat)} {t n i k : Nat} {work ws : List Nat} {F : Nat → Nat} {rest L : List Nat}
theorem BInv.first (ht : t < n) : BInv E t n [t] (setF (fun _ => 0) t 1) := by
 have h0 : ∀ {i : Nat}, setF (fun _ => 0) t 1 i ≠ 0 → i = t := fun {i} h => by
  unfold setF at h; split at h
  ·assumption
  ·exact absurd rfl h
 have h1 : setF (fun _ => 0) t 1 t = 1 := by simp [setF]
 refine ⟨fun i h => by rw [h0 h]; exact ht, fun i h => by simp at h; subst h; rw [h1]; decide, fun i v h => ?_, h1, fun i h => .inl (by simp [h0 h]), by simp, fun h r e a => ?_⟩
 ·have : i = t := h0 (by rw [h]; omega)
  subst this
  rw [h1] at h
  obtain rfl : v = 0 := by omega
  exact .nil
 ·cases e
  have : setF (fun _ => 0) t 1 a ≤ 1 := by unfold setF; split <;> simp
  rw [h1]; omega
theorem BInv.take (h : BInv E t n (i :: ws) F) (hL : ∀ k, (k, i) ∈ E → k ∈ L) : BMid E t n i ws F L :=
 ⟨h.lt, h.sub, h.way, h.start, fun a ha => by
  rcases h.next a ha with q | q
  ·rcases List.mem_cons.1 q with rfl | q
   ·exact .inr (.inr ⟨rfl, fun k hk => .inr (hL k hk)⟩)
   ·exact .inl q
  ·exact .inr (.inl q), h.rise, fun a => h.top i ws rfl a⟩
theorem BMid.old (h : BMid E t n i ws F (k :: rest)) (hk : F k ≠ 0) : BMid E t n i ws F rest :=
 ⟨h.lt, h.sub, h.way, h.start, fun a ha => by
  rcases h.next a ha with q | q | ⟨rfl, q⟩
  ·exact .inl q
  ·exact .inr (.inl q)
  ·refine .inr (.inr ⟨rfl, fun j hj => ?_⟩)
   rcases q j hj with z | z
   ·exact .inl z
   ·rcases List.mem_cons.1 z with rfl | z
    ·exact .inl hk
    ·exact .inr z, h.rise, h.top⟩
theorem BMid.new (h : BMid E t n i ws F (k :: rest)) (hk : F k = 0) (hkn : k < n) (he : (k, i) ∈ E) : BMid E t n i (ws ++ [k]) (setF F k (F i + 1)) rest := by
 have hi : F i ≠ 0 := h.sub i (by simp)
 have hik : i ≠ k := fun e => by subst e; exact hi hk
 have ei : setF F k (F i + 1) i = F i := by simp [setF, hik]
 have ek : setF F k (F i + 1) k = F i + 1 := by simp [setF]
 have eo : ∀ {a : Nat}, F a ≠ 0 → setF F k (F i + 1) a = F a := fun {a} ha => by
  unfold setF; rw [if_neg (fun e => by subst e; exact ha hk)]
 have cases_ : ∀ {a : Nat}, setF F k (F i + 1) a ≠ 0 → a = k ∨ F a ≠ 0 := fun {a} ha => by
  unfold setF at ha; split at ha
  ·rename_i e; exact .inl e
  ·exact .inr ha
 have mono : ∀ {a : Nat}, F a ≠ 0 → setF F k (F i + 1) a ≠ 0 := fun {a} ha => by rw [eo ha]; exact ha
 refine ⟨fun a ha => ?_, fun a ha => ?_, fun a v hv => ?_, ?_, fun a ha => ?_, ?_, fun a => ?_⟩
 ·rcases cases_ ha with rfl | q
  ·exact hkn
  ·exact h.lt a q
 ·rw [← List.cons_append, List.mem_append, List.mem_singleton] at ha
  rcases ha with q | rfl
  ·exact mono (h.sub a q)
  ·rw [ek]; omega
 ·rcases cases_ (a := a) (by rw [hv]; omega) with rfl | q
  ·rw [ek] at hv
   obtain ⟨u, hu⟩ : ∃ u, F i = u + 1 := ⟨F i - 1, by omega⟩
   obtain rfl : v = u + 1 := by omega
   exact .cons he (h.way i u hu)
  ·rw [eo q] at hv; exact h.way a v hv
 ·rw [eo (by rw [h.start]; decide)]; exact h.start
 ·rcases cases_ ha with rfl | q
  ·exact .inl (by simp)
  ·rcases h.next a q with z | z | ⟨rfl, z⟩
   ·exact .inl (by simp [z])
   ·refine .inr (.inl fun m hm => ?_)
    obtain ⟨z1, z2⟩ := z m hm
    rw [eo z1, eo q]; exact ⟨z1, z2⟩
   ·refine .inr (.inr ⟨rfl, fun m hm => ?_⟩)
    rcases z m hm with z | z
    ·exact .inl (mono z)
    ·rcases List.mem_cons.1 z with rfl | z
     ·exact .inl (by rw [ek]; omega)
     ·exact .inr z
 ·rw [← List.cons_append, List.pairwise_append]
  refine ⟨h.rise.imp_of_mem fun {a b} ha hb hab => ?_, by simp, fun a ha b hb => ?_⟩
  ·rw [eo (h.sub a ha), eo (h.sub b hb)]; exact hab
  ·rw [List.mem_singleton] at hb
   subst hb
   rw [ek, eo (h.sub a ha)]
   exact h.top a
 ·rw [ei]
  unfold setF
  split
  ·exact Nat.le_refl _
  ·exact h.top a
theorem BMid.done (h : BMid E t n i ws F []) : BInv E t n ws F :=
 ⟨h.lt, fun a ha => h.sub a (by simp [ha]), h.way, h.start, fun a ha => by
  rcases h.next a ha with q | q | ⟨rfl, q⟩
  ·exact .inl q
  ·exact .inr q
  ·refine .inr fun k hk => ⟨(q k hk).resolve_right (by simp), h.top k⟩,
  (List.pairwise_cons.1 h.rise).2, fun b r e a => by
  have h1 := (List.pairwise_cons.1 h.rise).1 b (by simp [e])
  have := h.top a
  omega⟩
theorem BInv.met (h : BInv E t n [] F) {i v : Nat} (hw : Way E t i v) : F i ≠ 0 ∧ F i ≤ v + 1 := by
 induction hw with
 | nil => rw [h.start]; exact ⟨by decide, Nat.le_refl _⟩
 | cons e _ ih =>
  obtain ⟨h1, h2⟩ := ih
  obtain ⟨h3, h4⟩ := (h.next _ h1).resolve_left (by simp) _ e
  exact ⟨h3, by omega⟩
theorem BInv.done (h : BInv E t n [] F) (i v : Nat) : F i = v + 1 ↔ Dst E t i v := by
 constructor
 ·intro hv
  refine ⟨h.way i v hv, fun m hm hw => ?_⟩
  have := (h.met hw).2; omega
 ·intro hd
  obtain ⟨h1, h2⟩ := h.met hd.1
  obtain ⟨u, hu⟩ : ∃ u, F i = u + 1 := ⟨F i - 1, by omega⟩
  have := hd.2 u
  by_cases q : u < v
  ·exact absurd (h.way i u hu) (this q)
  ·omega
theorem BInv.none (h : BInv E t n [] F) (i : Nat) : F i = 0 ↔ ¬ ∃ v, Way E t i v := by
 constructor
 ·rintro h0 ⟨v, hv⟩
  exact (h.met hv).1 h0
 ·intro hn
  refine Decidable.byContradiction fun h0 => hn ?_
  exact ⟨F i - 1, h.way i _ (by omega)⟩
end
end G
end Go.Proofs.Ytmhchhmhpoldhaa
end
section
namespace Go.Proofs.Ytmhchhmhpoldhaa
namespace G
structure SE where
 f : Nat
 t : Nat
 k : Nat
 s : Nat
def plE (E : List SE) : List (Nat × Nat) := (E.filter fun e => e.k == 1 || e.k == 2).map fun e => (e.f, e.t)
theorem mem_plE {E : List SE} {a b : Nat} : (a, b) ∈ plE E ↔ ∃ e ∈ E, (e.k = 1 ∨ e.k = 2) ∧ e.f = a ∧ e.t = b := by
 simp only [plE, List.mem_map, List.mem_filter, Bool.or_eq_true, beq_iff_eq, Prod.mk.injEq]
 constructor
 ·rintro ⟨e, ⟨h1, h2⟩, h3, h4⟩; exact ⟨e, h1, h2, h3, h4⟩
 ·rintro ⟨e, h1, h2, h3, h4⟩; exact ⟨e, ⟨h1, h2⟩, h3, h4⟩
inductive SL (E : List SE) : Bool → Nat → Nat → Prop
 | refl (v : Nat) : SL E false v v
 | edge {v a b : Nat} (h : SL E false v a) (e : (a, b) ∈ plE E) : SL E false v b
 | over {v a b : Nat} (h : SL E false v a) (h' : SL E true a b) : SL E false v b
 | sum {c r : SE} (hc : c ∈ E) (kc : c.k = 4) (hr : r ∈ E) (kr : r.k = 5) (hs : c.s = r.s) (h : SL E false c.t r.f) : SL E true c.f r.t
theorem SL.sub {E : List SE} {S F : Nat × Nat → Prop} (h0 : ∀ c ∈ E, c.k = 4 → S (c.t, c.t)) (h1 : ∀ v a b, S (v, a) → (a, b) ∈ plE E → S (v, b)) (h2 : ∀ v a b, S (v, a) → F (a, b) → S (v, b))
  (h3 : ∀ c ∈ E, c.k = 4 → ∀ r ∈ E, r.k = 5 → c.s = r.s → S (c.t, r.f) → F (c.f, r.t)) {q : Bool} {a b : Nat} (h : SL E q a b) : (q = true → F (a, b)) ∧ (q = false → (∃ c ∈ E, c.k = 4 ∧ c.t = a) → S (a, b)) := by
 induction h with
 | refl v => exact ⟨(fun h => by cases h), fun _ ⟨c, h, k, e⟩ => by subst e; exact h0 c h k⟩
 | edge _ e ih => exact ⟨(fun h => by cases h), fun _ hc => h1 _ _ _ (ih.2 rfl hc) e⟩
 | over _ _ ih ih' => exact ⟨(fun h => by cases h), fun _ hc => h2 _ _ _ (ih.2 rfl hc) (ih'.1 rfl)⟩
 | sum hc kc hr kr hs _ ih => exact ⟨fun _ => h3 _ hc kc _ hr kr hs (ih.2 rfl ⟨_, hc, kc, rfl⟩), (fun h => by cases h)⟩
theorem SL.trans {E : List SE} {q : Bool} {a b c : Nat} (h : SL E false a b) (h' : SL E q b c) : q = false → SL E false a c := by
 intro hq
 subst hq
 generalize hb : false = q at h'
 induction h' with
 | refl => exact h
 | edge _ e ih => exact .edge (ih h hb) e
 | over _ h2 ih _ => exact .over (ih h hb) h2
 | sum => cases hb
theorem SL.more {E E' : List SE} (hE : ∀ e ∈ E, e ∈ E') {q : Bool} {a b : Nat} (h : SL E q a b) : SL E' q a b := by
 induction h with
 | refl v => exact .refl v
 | edge _ e ih =>
  refine .edge ih ?_
  obtain ⟨x, h1, h2⟩ := mem_plE.1 e
  exact mem_plE.2 ⟨x, hE x h1, h2⟩
 | over _ _ ih ih' => exact .over ih ih'
 | sum hc kc hr kr hs _ ih => exact .sum (hE _ hc) kc (hE _ hr) kr hs ih
theorem SL.of_rch {E : List SE} {K : List (Nat × Nat)} (hK : ∀ p ∈ K, SL E true p.1 p.2) {a b : Nat} (h : Rch (plE E ++ K) [a] b) : SL E false a b := by
 induction h with
 | here h => simp at h; subst h; exact .refl _
 | step _ e ih =>
  rcases List.mem_append.1 e with e | e
  ·exact .edge ih e
  ·exact .over ih (hK _ e)
theorem SL.to_rch {E : List SE} {K : List (Nat × Nat)} (hK : ∀ c ∈ E, c.k = 4 → ∀ r ∈ E, r.k = 5 → c.s = r.s → Rch (plE E ++ K) [c.t] r.f → (c.f, r.t) ∈ K) {q : Bool} {a b : Nat} (h : SL E q a b) : (q = true → (a, b) ∈ K) ∧ (q = false → Rch (plE E ++ K) [a] b) := by
 induction h with
 | refl v => exact ⟨(fun h => by cases h), fun _ => .here (by simp)⟩
 | edge _ e ih => exact ⟨(fun h => by cases h), fun _ => .step (ih.2 rfl) (List.mem_append_left _ e)⟩
 | over _ _ ih ih' => exact ⟨(fun h => by cases h), fun _ => .step (ih.2 rfl) (List.mem_append_right _ (ih'.1 rfl))⟩
 | sum hc kc hr kr hs _ ih => exact ⟨fun _ => hK _ hc kc _ hr kr hs (ih.2 rfl), (fun h => by cases h)⟩
theorem SL.lt {E : List SE} {N : Nat} (hE : ∀ e ∈ E, e.f < N ∧ e.t < N) {q : Bool} {a b : Nat} (h : SL E q a b) : (q = true → a < N ∧ b < N) ∧ (q = false → a < N → b < N) := by
 induction h with
 | refl v => exact ⟨(fun h => by cases h), fun _ h => h⟩
 | edge _ e ih => exact ⟨(fun h => by cases h), fun _ _ => by obtain ⟨x, h1, -, -, h4⟩ := mem_plE.1 e; subst h4; exact (hE x h1).2⟩
 | over _ _ ih ih' => exact ⟨(fun h => by cases h), fun _ _ => (ih'.1 rfl).2⟩
 | sum hc kc hr kr hs _ ih => exact ⟨fun _ => ⟨(hE _ hc).1, (hE _ hr).2⟩, (fun h => by cases h)⟩
def wayS (S : List (Nat × Nat)) (p : Nat × Nat) : List (Nat × Nat) := if p ∈ S then S else S ++ [p]
def wayW (S W : List (Nat × Nat)) (p : Nat × Nat) : List (Nat × Nat) := if p ∈ S then W else W ++ [p]
theorem wayS_sub {S : List (Nat × Nat)} {p q : Nat × Nat} (h : q ∈ S) : q ∈ wayS S p := by
 unfold wayS; split
 ·exact h
 ·exact List.mem_append_left _ h
theorem wayS_mem (S : List (Nat × Nat)) (p : Nat × Nat) : p ∈ wayS S p := by
 unfold wayS; split
 ·assumption
 ·simp
theorem way_old {S W : List (Nat × Nat)} {p q : Nat × Nat} (h : q ∈ wayS S p) (h' : q ∉ wayW S W p) : q ∈ S ∧ q ∉ W := by
 unfold wayS at h
 unfold wayW at h'
 split at h
 ·rename_i hp
  rw [if_pos hp] at h'
  exact ⟨h, h'⟩
 ·rename_i hp
  rw [if_neg hp] at h'
  simp only [List.mem_append, List.mem_singleton, not_or] at h h'
  exact ⟨h.resolve_right h'.2, h'.1⟩
structure Base (E : List SE) (N : Nat) (S F W : List (Nat × Nat)) : Prop where
 sS : ∀ p ∈ S, SL E false p.1 p.2
 sF : ∀ p ∈ F, SL E true p.1 p.2
 bS : ∀ p ∈ S, p.1 < N ∧ p.2 < N
 bF : ∀ p ∈ F, p.1 < N ∧ p.2 < N
 nS : S.Nodup
 nF : F.Nodup
 sub : ∀ p ∈ W, p ∈ S
 nW : W.Nodup
section
variable {E : List SE} {N : Nat} {S F W : List (Nat × Nat)} {p : Nat × Nat}
theorem Base.way (h : Base E N S F W) (hp : SL E false p.1 p.2) (hb : p.1 < N ∧ p.2 < N) : Base E N (wayS S p) F (wayW S W p) := by
 unfold wayS wayW
 split
 ·exact h
 ·rename_i hn
  refine ⟨fun q hq => ?_, h.sF, fun q hq => ?_, h.bF, ?_, h.nF, fun q hq => ?_, ?_⟩
  ·rcases List.mem_append.1 hq with hq | hq
   ·exact h.sS q hq
   ·rw [List.mem_singleton.1 hq]; exact hp
  ·rcases List.mem_append.1 hq with hq | hq
   ·exact h.bS q hq
   ·rw [List.mem_singleton.1 hq]; exact hb
  ·rw [List.nodup_append]
   exact ⟨h.nS, by simp, fun a ha b hb e => by rw [List.mem_singleton.1 hb] at e; subst e; exact hn ha⟩
  ·rcases List.mem_append.1 hq with hq | hq
   ·exact List.mem_append_left _ (h.sub q hq)
   ·exact List.mem_append_right _ hq
  ·rw [List.nodup_append]
   exact ⟨h.nW, by simp, fun a ha b hb e => by rw [List.mem_singleton.1 hb] at e; subst e; exact hn (h.sub _ ha)⟩
theorem pairs_len {L : List (Nat × Nat)} (hn : L.Nodup) (hb : ∀ p ∈ L, p.1 < N ∧ p.2 < N) : L.length ≤ N * N := by
 have hinj : (L.map fun p => p.1 * N + p.2).Nodup := by
  refine List.pairwise_map.2 (hn.imp_of_mem fun {a b} ha hb' hab e => hab ?_)
  have h1 := hb a ha
  have h2 := hb b hb'
  have e1 : a.1 = b.1 := by
   have k1 : (a.1 * N + a.2) / N = a.1 := by rw [Nat.mul_comm, Nat.mul_add_div (by omega), Nat.div_eq_of_lt h1.2, Nat.add_zero]
   have k2 : (b.1 * N + b.2) / N = b.1 := by rw [Nat.mul_comm, Nat.mul_add_div (by omega), Nat.div_eq_of_lt h2.2, Nat.add_zero]
   rw [← k1, ← k2, e]
  have e2 : a.2 = b.2 := by rw [e1] at e; omega
  exact Prod.ext e1 e2
 have hlt : ∀ x ∈ L.map (fun p => p.1 * N + p.2), x < N * N := fun x hx => by
  obtain ⟨p, hp, rfl⟩ := List.mem_map.1 hx
  have := hb p hp
  calc p.1 * N + p.2 < p.1 * N + N := by omega
   _ = (p.1 + 1) * N := by rw [Nat.add_mul, Nat.one_mul]
   _ ≤ N * N := Nat.mul_le_mul_right _ (by omega)
 have := nodup_le hinj hlt
 rwa [List.length_map] at this
theorem Base.lenS (h : Base E N S F W) : S.length ≤ N * N := pairs_len h.nS h.bS
theorem Base.lenF (h : Base E N S F W) : F.length ≤ N * N := pairs_len h.nF h.bF
theorem Base.lenW (h : Base E N S F W) : W.length ≤ N * N := pairs_len h.nW fun p hp => h.bS p (h.sub p hp)
def toDo (N : Nat) (S W : List (Nat × Nat)) : Nat := 2 * (N * N - S.length) + W.length
theorem Base.toDo_way (h : Base E N S F W) (hp : SL E false p.1 p.2) (hb : p.1 < N ∧ p.2 < N) : toDo N (wayS S p) (wayW S W p) ≤ toDo N S W := by
 have h' := (h.way hp hb).lenS
 unfold toDo
 unfold wayS wayW at *
 split
 ·exact Nat.le_refl _
 ·rename_i hn
  rw [if_neg hn] at h'
  simp only [List.length_append, List.length_singleton] at h' ⊢
  omega
def D1 (E : List SE) (S W : List (Nat × Nat)) (X : Nat × Nat → Prop) : Prop := ∀ p ∈ S, p ∉ W → ¬ X p → ∀ b, (p.2, b) ∈ plE E → (p.1, b) ∈ S
def D2 (S F W : List (Nat × Nat)) (Y : Nat × Nat → Nat → Prop) : Prop := ∀ p ∈ S, p ∉ W → ∀ b, (p.2, b) ∈ F → ¬ Y p b → (p.1, b) ∈ S
def D3 (E : List SE) (S F W : List (Nat × Nat)) (X : Nat × Nat → Prop) : Prop := ∀ p ∈ S, p ∉ W → ¬ X p → ∀ c ∈ E, c.k = 4 → c.t = p.1 → ∀ r ∈ E, r.k = 5 → r.f = p.2 → c.s = r.s → (c.f, r.t) ∈ F
theorem D1.way {X : Nat × Nat → Prop} (h : D1 E S W X) : D1 E (wayS S p) (wayW S W p) X := fun q hq hq' hx b hb => by
 obtain ⟨h1, h2⟩ := way_old hq hq'
 exact wayS_sub (h q h1 h2 hx b hb)
theorem D2.way {Y : Nat × Nat → Nat → Prop} (h : D2 S F W Y) : D2 (wayS S p) F (wayW S W p) Y := fun q hq hq' b hb hy => by
 obtain ⟨h1, h2⟩ := way_old hq hq'
 exact wayS_sub (h q h1 h2 b hb hy)
theorem D3.way {X : Nat × Nat → Prop} (h : D3 E S F W X) : D3 E (wayS S p) F (wayW S W p) X := fun q hq hq' hx c hc kc ec r hr kr er hs => by
 obtain ⟨h1, h2⟩ := way_old hq hq'
 exact h q h1 h2 hx c hc kc ec r hr kr er hs
theorem found_all (h : Base E N S F []) (h0 : ∀ c ∈ E, c.k = 4 → (c.t, c.t) ∈ S) (h1 : D1 E S [] fun _ => False) (h2 : D2 S F [] fun _ _ => False) (h3 : D3 E S F [] fun _ => False) (a b : Nat) : (a, b) ∈ F ↔ SL E true a b :=
 ⟨fun hm => h.sF _ hm, fun hs => (SL.sub (S := (· ∈ S)) (F := (· ∈ F)) h0 (fun v a b hv hb => h1 _ hv (by simp) (fun h => h) b hb) (fun v a b hv hb => h2 _ hv (by simp) b hb (fun h => h))
  (fun c hc kc r hr kr hs hv => h3 _ hv (by simp) (fun h => h) c hc kc rfl r hr kr rfl hs) hs).1 rfl⟩
end
def lexLt (p q : Nat × Nat) : Prop := p.1 < q.1 ∨ (p.1 = q.1 ∧ p.2 < q.2)
theorem lex_irrefl (p : Nat × Nat) : ¬ lexLt p p := by unfold lexLt; omega
theorem lex_trans {p q r : Nat × Nat} (h : lexLt p q) (k : lexLt q r) : lexLt p r := by unfold lexLt at *; omega
theorem lex_asymm {p q : Nat × Nat} (h : lexLt p q) : ¬ lexLt q p := by unfold lexLt at *; omega
theorem lex_total {p q : Nat × Nat} (h : p ≠ q) : lexLt p q ∨ lexLt q p := by
 obtain ⟨a, b⟩ := p
 obtain ⟨c, d⟩ := q
 simp only [ne_eq, Prod.mk.injEq] at h
 simp only [lexLt]
 omega
theorem rising_ext : ∀ {l l' : List (Nat × Nat)}, l.Pairwise lexLt → l'.Pairwise lexLt → (∀ p, p ∈ l ↔ p ∈ l') → l = l'
 | [], [], _, _, _ => rfl
 | [], x :: l', _, _, h => absurd ((h x).2 (by simp)) (by simp)
 | x :: l, [], _, _, h => absurd ((h x).1 (by simp)) (by simp)
 | x :: l, y :: l', hl, hl', h => by
  rw [List.pairwise_cons] at hl hl'
  have e : x = y := Classical.byContradiction fun hne => by
   have h1 : lexLt y x := hl'.1 x (((List.mem_cons.1 ((h x).1 (by simp))).resolve_left hne))
   have h2 : lexLt x y := hl.1 y (((List.mem_cons.1 ((h y).2 (by simp))).resolve_left (Ne.symm hne)))
   exact lex_asymm h1 h2
  subst e
  congr 1
  refine rising_ext hl.2 hl'.2 fun p => ?_
  constructor
  ·intro hp
   rcases List.mem_cons.1 ((h p).1 (List.mem_cons_of_mem _ hp)) with e | hp'
   ·subst e; exact absurd (hl.1 _ hp) (lex_irrefl _)
   ·exact hp'
  ·intro hp
   rcases List.mem_cons.1 ((h p).2 (List.mem_cons_of_mem _ hp)) with e | hp'
   ·subst e; exact absurd (hl'.1 _ hp) (lex_irrefl _)
   ·exact hp'
open Classical in
noncomputable def sumL (E : List SE) (N : Nat) : List (Nat × Nat) := (List.range N).flatMap fun a => ((List.range N).filter fun d => decide (SL E true a d)).map fun d => (a, d)
theorem mem_sumL {E : List SE} {N a d : Nat} : (a, d) ∈ sumL E N ↔ a < N ∧ d < N ∧ SL E true a d := by
 simp only [sumL, List.mem_flatMap, List.mem_map, List.mem_filter, List.mem_range, decide_eq_true_eq, Prod.mk.injEq]
 constructor
 ·rintro ⟨x, hx, y, ⟨hy, hs⟩, rfl, rfl⟩; exact ⟨hx, hy, hs⟩
 ·rintro ⟨h1, h2, h3⟩; exact ⟨a, h1, d, ⟨h2, h3⟩, rfl, rfl⟩
theorem range_rising (N : Nat) : (List.range N).Pairwise (· < ·) := List.pairwise_lt_range
theorem sumL_rising (E : List SE) (N : Nat) : (sumL E N).Pairwise lexLt := by
 unfold sumL
 rw [List.pairwise_flatMap]
 refine ⟨fun a _ => ?_, (range_rising N).imp fun {a b} hab p hp q hq => ?_⟩
 ·rw [List.pairwise_map]
  exact ((range_rising N).filter _).imp fun {x y} h => .inr ⟨rfl, h⟩
 ·obtain ⟨x, -, rfl⟩ := List.mem_map.1 hp
  obtain ⟨y, -, rfl⟩ := List.mem_map.1 hq
  exact .inl hab
theorem sumL_ext {E : List SE} {N : Nat} (hE : ∀ e ∈ E, e.f < N ∧ e.t < N) {l : List (Nat × Nat)} (hl : l.Pairwise lexLt) (h : ∀ a d, (a, d) ∈ l ↔ SL E true a d) : l = sumL E N :=
 rising_ext hl (sumL_rising E N) fun ⟨a, d⟩ => by
  rw [h, mem_sumL]
  exact ⟨fun hs => ⟨((SL.lt hE hs).1 rfl).1, ((SL.lt hE hs).1 rfl).2, hs⟩, fun hs => hs.2.2⟩
end G
end Go.Proofs.Ytmhchhmhpoldhaa
end
section
namespace Go.Proofs.Ytmhchhmhpoldhaa
open Go.RowKit Go
def noDefer (ops : Array Oper) : Bool := ops.all fun o => match o.op with | .defer _ => false | _ => true
theorem noDefer_spec {ops : Array Oper} (h : noDefer ops = true) {i : Nat} {o : Oper} (hi : ops[i]? = some o) (c : Call) : o.op ≠ .defer c := by
 intro e
 have hm := Array.all_eq_true'.1 h o (Array.mem_of_getElem? hi)
 rw [e] at hm
 cases hm
section
variable {P : Go.Program} {l n : Nat} {ops : Array Oper} {Q : Exit → Act → World → Prop} {md : Region.Mode}
theorem rows_round {row : String} {args : Array Value} {w : World} {R : Value → World → Prop} (h : Rows P row args w R) : RowsIn (Fence.wide.inRound l) n P row args w R :=
 fun c cs _ => let ⟨v, w', r, s⟩ := h c cs; ⟨v, w', r, stepsIn_wide.2 s⟩
theorem oper_round {o : Oper} {a : Act} {w : World} {K : Act → World → Prop} (hd : ∀ c, o.op ≠ .defer c) (h : o.wp P a w K Q) : o.wpIn (Fence.wide.inRound l) n P a w K Q := by
 unfold Oper.wp at h
 unfold Oper.wpIn
 refine ⟨fun _ _ => trivial, ?_⟩
 rw [Fence.inRound_round, Oper.semAt_some l a.eval o hd]
 generalize (execOp a.eval o).run P w = r at *
 cases r with
 | ok x w' =>
  cases x with
  | value v => exact h
  | skip => exact h
  | defer d => exact h
  | enter f args => exact ⟨fun k => (by cases k), (callsIn_wide (n := n - 1)).2 h⟩
  | row row args => exact ⟨fun k => (by cases k), rows_round h⟩
  | _ => exact h.elim
 | halt x w' => cases x <;> first | exact h | exact h.elim
theorem wpOp_round {i : Nat} {a : Act} {w : World} {K : Act → World → Prop} (hL : ¬ LetsOut Q) (hd : noDefer ops = true) (h : wpOp P ops Q i K a w) : wpOpIn (Fence.wide.inRound l) n P ops Q i K a w := by
 unfold wpOp at h
 unfold wpOpIn
 cases hi : ops[i]? with
 | none => simp only [hi] at h ⊢; exact h
 | some o =>
  simp only [hi] at h ⊢
  split
  ·rename_i hw; simp only [hw, if_true] at h; exact oper_round (noDefer_spec hd hi) (h.resolve_right fun k => hL k.2)
  ·rename_i hw; simp only [hw] at h; exact ⟨fun _ _ => trivial, h⟩
theorem wpAny_round (hL : ¬ LetsOut Q) (hd : noDefer ops = true) : ∀ (f : Nat) (listed : Array Bool) (a : Act) (w : World), wpAny P md ops Q f listed a w → wpAnyIn (Fence.wide.inRound l) n P md ops Q f listed a w
 | 0, _, _, _, h => h
 | f + 1, _, _, _, h => ⟨h.1, fun i hi => wpOpIn_mono (fun a' w' h' => wpAny_round hL hd f _ a' w' h') (wpOp_round hL hd (h.2 i hi))⟩
theorem region_round {id : Nat} {a : Act} {w : World} (hL : ¬ LetsOut Q) (hm : P.follows .mixedOrders = true) (hd : noDefer ops = true)
  (h : wpAny P .any ops Q ops.size (Array.replicate ops.size false) a { w with drawn := w.drawn + 1 }) : (Code.region id ops true).wpIn (Fence.wide.inRound l) n P Q a w :=
 wpIn_region_any hm (wpAny_round hL hd _ _ _ _ h)
end
end Go.Proofs.Ytmhchhmhpoldhaa
end
section
namespace Go.Proofs
open Go.Shelf
def Try.lays122_ren : Go.Shelf.Ren := ⟨fun | 122 => 55 | 215 => 67 | n => n, fun | 3 => 3 | 4 => 4 | n => n, fun | n => n⟩
theorem Try.lays122 : Go.Proofs.Lays.n122 Try.prog Try.lays122_ren := {
 mixed := by kernel_rfl
 f122 := Try.func55.trans (congrArg some (by kernel_rfl))
 f215 := Try.func67.trans (congrArg some (by kernel_rfl))
 t3 := Try.underlying3
 a3 := Try.isAgg3
 z3 := Try.sizeOf3
 v3 := Try.zeroValue3
 t4 := Try.underlying4
 a4 := Try.isAgg4
 z4 := Try.sizeOf4
 v4 := Try.zeroValue4 }
open Go.RowKit in
theorem Try.cmp_Compare_int (x y : Int) (w : World) :
  Calls Try.prog 55 #[.int .i64 x, .int .i64 y] w fun e w' => e = .returned (.int .i64 (Lib.compareInt x y)) ∧ w' = w := Any.cmp_Compare_int Try.lays122 x y w
def Try.lays189_ren : Go.Shelf.Ren := ⟨fun | 189 => 61 | 125 => 66 | 257 => 70 | 128 => 80 | 129 => 81 | 294 => 82 | 295 => 83 | 296 => 84 | 297 => 85 | 298 => 86 | 299 => 87 | 216 => 88 | 300 => 89 | 301 => 90 | 328 => 96 | 329 => 92 | 330 => 93 | 331 => 97 | 332 => 98 | 215 => 67 | 343 => 100 | n => n, fun | 28 => 23 | 3 => 3 | 46 => 105 | 0 => 0 | 51 => 119 | 53 => 121 | 4 => 4 | 183 => 112 | 182 => 111 | 131 => 116 | 5 => 5 | 9 => 9 | 218 => 128 | 222 => 132 | 228 => 136 | 229 => 137 | n => n, fun | n => n⟩
theorem Try.lays189 : Go.Proofs.Lays.n189 Try.prog Try.lays189_ren := {
 mixed := by kernel_rfl
 f125 := Try.func66.trans (congrArg some (by kernel_rfl))
 f128 := Try.func80.trans (congrArg some (by kernel_rfl))
 f129 := Try.func81.trans (congrArg some (by kernel_rfl))
 f189 := Try.func61.trans (congrArg some (by kernel_rfl))
 f215 := Try.func67.trans (congrArg some (by kernel_rfl))
 f216 := Try.func88.trans (congrArg some (by kernel_rfl))
 f257 := Try.func70.trans (congrArg some (by kernel_rfl))
 f294 := Try.func82.trans (congrArg some (by kernel_rfl))
 f295 := Try.func83.trans (congrArg some (by kernel_rfl))
 f296 := Try.func84.trans (congrArg some (by kernel_rfl))
 f297 := Try.func85.trans (congrArg some (by kernel_rfl))
 f298 := Try.func86.trans (congrArg some (by kernel_rfl))
 f299 := Try.func87.trans (congrArg some (by kernel_rfl))
 f300 := Try.func89.trans (congrArg some (by kernel_rfl))
 f301 := Try.func90.trans (congrArg some (by kernel_rfl))
 f328 := Try.func96.trans (congrArg some (by kernel_rfl))
 f329 := Try.func92.trans (congrArg some (by kernel_rfl))
 f330 := Try.func93.trans (congrArg some (by kernel_rfl))
 f331 := Try.func97.trans (congrArg some (by kernel_rfl))
 f332 := Try.func98.trans (congrArg some (by kernel_rfl))
 f343 := Try.func100.trans (congrArg some (by kernel_rfl))
 t0 := Try.underlying0
 a0 := Try.isAgg0
 z0 := Try.sizeOf0
 v0 := Try.zeroValue0
 t3 := Try.underlying3
 a3 := Try.isAgg3
 z3 := Try.sizeOf3
 v3 := Try.zeroValue3
 t4 := Try.underlying4
 a4 := Try.isAgg4
 z4 := Try.sizeOf4
 v4 := Try.zeroValue4
 t5 := Try.underlying5
 a5 := Try.isAgg5
 z5 := Try.sizeOf5
 v5 := Try.zeroValue5
 t9 := Try.underlying9
 a9 := Try.isAgg9
 z9 := Try.sizeOf9
 v9 := Try.zeroValue9
 t28 := Try.underlying23
 a28 := Try.isAgg23
 z28 := Try.sizeOf23
 v28 := Try.zeroValue23
 t46 := Try.underlying105
 a46 := Try.isAgg105
 z46 := Try.sizeOf105
 v46 := Try.zeroValue105
 t51 := Try.underlying119
 a51 := Try.isAgg119
 z51 := Try.sizeOf119
 v51 := Try.zeroValue119
 t53 := Try.underlying121
 a53 := Try.isAgg121
 z53 := Try.sizeOf121
 v53 := Try.zeroValue121
 t131 := Try.underlying116
 a131 := Try.isAgg116
 z131 := Try.sizeOf116
 v131 := Try.zeroValue116
 t182 := Try.underlying111
 a182 := Try.isAgg111
 z182 := Try.sizeOf111
 v182 := Try.zeroValue111
 t183 := Try.underlying112
 a183 := Try.isAgg112
 z183 := Try.sizeOf112
 v183 := Try.zeroValue112
 t218 := Try.underlying128
 a218 := Try.isAgg128
 z218 := Try.sizeOf128
 v218 := Try.zeroValue128
 t222 := Try.underlying132
 a222 := Try.isAgg132
 z222 := Try.sizeOf132
 v222 := Try.zeroValue132
 t228 := Try.underlying136
 a228 := Try.isAgg136
 z228 := Try.sizeOf136
 v228 := Try.zeroValue136
 t229 := Try.underlying137
 a229 := Try.isAgg137
 z229 := Try.sizeOf137
 v229 := Try.zeroValue137 }
open Go.Sort Go.RowKit in
theorem Try.slices_Sort_int (blk off cap : Nat) (zs : List Int) (w : World) (hH : Holds (Value.int .i64) w blk off zs.toArray) (hblk : blk < w.heap.size) (hsz : zs.length < 4611686018427387904) :
  Calls Try.prog 61 #[.slice (some ⟨blk, off, none⟩) zs.length cap] w fun e w' =>
   e = .returned (.tuple #[]) ∧ ∃ n os, w' = grow (putRow (Value.int .i64) (Sort.ahead w n) blk off (zs.mergeSort fun x y => decide (x ≤ y)).toArray) os := Any.slices_Sort_int Try.lays189 blk off cap zs w hH hblk hsz
def Try.laysNm220_ren : Go.Shelf.Ren := ⟨fun | 20 => 62 | n => n, fun | 22 => 23 | 3 => 3 | 4 => 4 | 0 => 0 | n => n, fun | n => n⟩
theorem Try.laysNm220 : Go.Proofs.Lays2.n20 Try.prog Try.laysNm220_ren := {
 mixed := by kernel_rfl
 f20 := Try.func62.trans (congrArg some (by kernel_rfl))
 t0 := Try.underlying0
 a0 := Try.isAgg0
 z0 := Try.sizeOf0
 v0 := Try.zeroValue0
 t3 := Try.underlying3
 a3 := Try.isAgg3
 z3 := Try.sizeOf3
 v3 := Try.zeroValue3
 t4 := Try.underlying4
 a4 := Try.isAgg4
 z4 := Try.sizeOf4
 v4 := Try.zeroValue4
 t22 := Try.underlying23
 a22 := Try.isAgg23
 z22 := Try.sizeOf23
 v22 := Try.zeroValue23
 i3 := by kernel_rfl }
open Go.RowKit Go.Lib Go.Sort in
theorem Try.slices_Compact_int (blk off cap : Nat) (zs : List Int) (w : World) (hH : Holds (Value.int .i64) w blk off zs.toArray) (hsz : zs.length ≤ 9223372036854775807) (hcap : zs.length ≤ cap) :
  Calls Try.prog 62 #[.slice (some ⟨blk, off, none⟩) zs.length cap] w fun e w' => e = .returned (.slice (some ⟨blk, off, none⟩) (Lib.compact zs).length cap) ∧ ∃ q, w' = putRow (Value.int .i64) (Sort.ahead w q) blk off (Lib.compact zs ++ List.replicate (zs.length - (Lib.compact zs).length) 0).toArray := Any.slices_Compact_int Try.laysNm220 blk off cap zs w hH hsz hcap
open Go.RowKit Go.Lib Go.Sort in
theorem Try.slices_Compact_int_empty (a : Option Addr) (cap : Nat) (w : World) :
  Calls Try.prog 62 #[.slice a 0 cap] w fun e w' => e = .returned (.slice a 0 cap) ∧ w' = w := Any.slices_Compact_int_empty Try.laysNm220 a cap w
open Go.RowKit Go.Sort in
theorem Try.slices_Sort_int_none (p : Option Addr) (cap : Nat) (w : World) :
  Calls Try.prog 61 #[.slice p 0 cap] w fun e w' => e = .returned (.tuple #[]) ∧ w' = w := Any.slices_Sort_int_none Try.lays189 p cap w
def Try.laysSlH10_f57_ren : Go.Shelf.Ren := ⟨fun | 10 => 57 | 6 => 49 | n => n, fun | 22 => 23 | 23 => 3 | 25 => 63 | 3 => 3 | 4 => 4 | 0 => 0 | n => n, fun | n => n⟩
theorem Try.laysSlH10_f57 : Go.Proofs.SlLaysH.n10 Try.prog Try.laysSlH10_f57_ren := {
 mixed := by kernel_rfl
 f6 := ⟨Try.f49.name, by decide, Try.func49.trans (congrArg some (by kernel_rfl))⟩
 f10 := ⟨Try.f57.name, by decide, Try.func57.trans (congrArg some (by kernel_rfl))⟩
 t0 := Try.underlying0
 a0 := Try.isAgg0
 z0 := Try.sizeOf0
 v0 := Try.zeroValue0
 t3 := Try.underlying3
 a3 := Try.isAgg3
 z3 := Try.sizeOf3
 v3 := Try.zeroValue3
 t4 := Try.underlying4
 a4 := Try.isAgg4
 z4 := Try.sizeOf4
 v4 := Try.zeroValue4
 t22 := Try.underlying23
 a22 := Try.isAgg23
 z22 := Try.sizeOf23
 v22 := Try.zeroValue23
 a23 := Try.isAgg3
 z23 := Try.sizeOf3
 t25 := Try.underlying63
 a25 := Try.isAgg63
 z25 := Try.sizeOf63
 v25 := Try.zeroValue63 }
open Go.RowKit Go.Lib Go.Sort in
theorem Try.slices_DeleteFunc {α : Type} [Inhabited α] (enc : α → Value) (hO : OneCell enc) (p : α → Bool) (g : Nat) (lb : Array Value) (eg : ∀ args w, (callFunc g args).run Try.prog w = .ok (.enter g args) w) (zr : α) (v23 : ∀ w, (zeroValue 3).run Try.prog w = .ok (enc zr) w) (blk off cap : Nat) (d : Array α) (w : World) (hp : PredAt Try.prog g lb enc p w) (hpo : PredOver Try.prog g lb enc p blk off d.size w) (hH : Holds enc w blk off d) (hsz : d.size ≤ 9223372036854775807) (hcap : d.size ≤ cap) :
  Calls Try.prog 57 #[.slice (some ⟨blk, off, none⟩) d.size cap, .func (.func g) #[] lb] w fun e w' => e = .returned (.slice (some ⟨blk, off, none⟩) (d.toList.filter fun x => !p x).length cap) ∧ ∃ q, w' = putRow enc (Sort.ahead w q) blk off ((d.toList.filter fun x => !p x) ++ List.replicate (d.size - (d.toList.filter fun x => !p x).length) zr).toArray := AnyE.slices_DeleteFunc Try.laysSlH10_f57 enc hO p g lb eg zr v23 blk off cap d w hp hpo hH hsz hcap
end Go.Proofs
end
section
namespace Go.Proofs.Ytmhchhmhpoldhaa
namespace G
namespace Ms
inductive Way (E : List (Nat × Nat)) (T : List Nat) : Nat → Nat → Prop
 | nil {i : Nat} (h : i ∈ T) : Way E T i 0
 | cons {i j k : Nat} (e : (i, j) ∈ E) (h : Way E T j k) : Way E T i (k + 1)
def Dst (E : List (Nat × Nat)) (T : List Nat) (i k : Nat) : Prop := Way E T i k ∧ ∀ m, m < k → ¬ Way E T i m
section
variable {E : List (Nat × Nat)} {T : List Nat} {n : Nat}
theorem Dst.uniq {i k m : Nat} (h : Dst E T i k) (h' : Dst E T i m) : k = m := by
 rcases Nat.lt_trichotomy k m with q | q | q
 ·exact absurd h.1 (h'.2 k q)
 ·exact q
 ·exact absurd h'.1 (h.2 m q)
theorem dst_of {i k : Nat} (h : Way E T i k) : ∃ m, m ≤ k ∧ Dst E T i m := by
 induction k using Nat.strongRecOn with
 | _ k ih =>
  by_cases hx : ∃ m, m < k ∧ Way E T i m
  ·obtain ⟨m, hm, hw⟩ := hx
   obtain ⟨m', h1, h2⟩ := ih m hm hw
   exact ⟨m', by omega, h2⟩
  ·exact ⟨k, Nat.le_refl _, h, fun m hm hw => hx ⟨m, hm, hw⟩⟩
theorem way_zero {i : Nat} : Way E T i 0 ↔ i ∈ T := ⟨fun h => by cases h; assumption, .nil⟩
theorem dst_zero {i : Nat} : Dst E T i 0 ↔ i ∈ T := ⟨fun h => way_zero.1 h.1, fun h => ⟨way_zero.2 h, fun m hm => by omega⟩⟩
theorem way_succ {i k : Nat} : Way E T i (k + 1) ↔ ∃ j, (i, j) ∈ E ∧ Way E T j k := ⟨fun h => by cases h with | cons e h => exact ⟨_, e, h⟩, fun ⟨_, e, h⟩ => .cons e h⟩
theorem Dst.next {i k : Nat} (h : Dst E T i (k + 1)) : ∃ j, (i, j) ∈ E ∧ Dst E T j k := by
 obtain ⟨j, e, hw⟩ := way_succ.1 h.1
 exact ⟨j, e, hw, fun m hm hw' => h.2 (m + 1) (by omega) (.cons e hw')⟩
theorem Dst.edge {i j k m : Nat} (h : Dst E T i m) (e : (i, j) ∈ E) (hj : Dst E T j k) : m ≤ k + 1 := by
 refine Nat.le_of_not_lt fun q => h.2 (k + 1) q (.cons e hj.1)
theorem way_lt (hE : ∀ e ∈ E, e.1 < n ∧ e.2 < n) (ht : ∀ t ∈ T, t < n) {i k : Nat} (h : Way E T i k) : i < n := by
 cases h with
 | nil h => exact ht _ h
 | cons e _ => exact (hE _ e).1
theorem dst_row (hE : ∀ e ∈ E, e.1 < n ∧ e.2 < n) (ht : ∀ t ∈ T, t < n) : ∀ {k i : Nat}, Dst E T i k → ∃ l : List Nat, l.length = k + 1 ∧ l.Nodup ∧ (∀ x ∈ l, x < n) ∧ ∀ x ∈ l, ∃ m, m ≤ k ∧ Dst E T x m
 | 0, i, h => ⟨[i], rfl, by simp, fun x hx => by simp at hx; subst hx; exact way_lt hE ht h.1, fun x hx => by simp at hx; subst hx; exact ⟨0, Nat.le_refl _, h⟩⟩
 | k + 1, i, h => by
  obtain ⟨j, e, hj⟩ := h.next
  obtain ⟨l, h1, h2, h3, h4⟩ := dst_row hE ht hj
  refine ⟨i :: l, by simp [h1], List.nodup_cons.2 ⟨fun hi => ?_, h2⟩, fun x hx => ?_, fun x hx => ?_⟩
  ·obtain ⟨m, hm, hd⟩ := h4 i hi
   have := h.uniq hd; omega
  ·rcases List.mem_cons.1 hx with rfl | hx
   ·exact (hE _ e).1
   ·exact h3 x hx
  ·rcases List.mem_cons.1 hx with rfl | hx
   ·exact ⟨k + 1, Nat.le_refl _, h⟩
   ·obtain ⟨m, hm, hd⟩ := h4 x hx
    exact ⟨m, by omega, hd⟩
theorem dst_lt (hE : ∀ e ∈ E, e.1 < n ∧ e.2 < n) (ht : ∀ t ∈ T, t < n) {k i : Nat} (h : Dst E T i k) : k < n := by
 obtain ⟨l, h1, h2, h3, -⟩ := dst_row hE ht h
 have := nodup_le h2 h3
 omega
end
structure BInv (E : List (Nat × Nat)) (T : List Nat) (n : Nat) (work : List Nat) (F : Nat → Nat) : Prop where
 lt : ∀ i, F i ≠ 0 → i < n
 sub : ∀ i ∈ work, F i ≠ 0
 way : ∀ i v, F i = v + 1 → Way E T i v
 start : ∀ t ∈ T, F t = 1
 next : ∀ i, F i ≠ 0 → i ∈ work ∨ ∀ k, (k, i) ∈ E → F k ≠ 0 ∧ F k ≤ F i + 1
 rise : work.Pairwise fun a b => F a ≤ F b
 top : ∀ h r, work = h :: r → ∀ a, F a ≤ F h + 1
structure BMid (E : List (Nat × Nat)) (T : List Nat) (n : Nat) (i : Nat) (ws : List Nat) (F : Nat → Nat) (rest : List Nat) : Prop where
 lt : ∀ i, F i ≠ 0 → i < n
 sub : ∀ a ∈ i :: ws, F a ≠ 0
 way : ∀ i v, F i = v + 1 → Way E T i v
 start : ∀ t ∈ T, F t = 1
 next : ∀ a, F a ≠ 0 → a ∈ ws ∨ (∀ k, (k, a) ∈ E → F k ≠ 0 ∧ F k ≤ F a + 1) ∨ (a = i ∧ ∀ k, (k, i) ∈ E → F k ≠ 0 ∨ k ∈ rest)
 rise : (i :: ws).Pairwise fun a b => F a ≤ F b
 top : ∀ a, F a ≤ F i + 1
section
variable {E : List (Nat × Nat)} {T : List Nat} {n i k : Nat} {work ws : List Nat} {F : Nat → Nat} {rest L : List Nat}
theorem BInv.first {W : List Nat} {F : Nat → Nat} (hW : ∀ x, x ∈ W ↔ x ∈ T) (hF : ∀ x, F x = if x ∈ T then 1 else 0) (ht : ∀ t ∈ T, t < n) : BInv E T n W F := by
 have h1 : ∀ {i : Nat}, i ∈ T → F i = 1 := fun {i} h => by rw [hF, if_pos h]
 have h0 : ∀ {i : Nat}, F i ≠ 0 → i ∈ T := fun {i} h => Classical.byContradiction fun hn => h (by rw [hF, if_neg hn])
 have le : ∀ i, F i ≤ 1 := fun i => by rw [hF]; split <;> omega
 refine ⟨fun i h => ht i (h0 h), fun i h => by rw [h1 ((hW i).1 h)]; decide, fun i v h => ?_, fun t h => h1 h, fun i h => .inl ((hW i).2 (h0 h)), ?_, fun h r e a => ?_⟩
 ·have hi := h0 (i := i) (by rw [h]; omega)
  rw [h1 hi] at h
  obtain rfl : v = 0 := by omega
  exact .nil hi
 ·refine List.pairwise_iff_getElem.2 fun a b ha hb _ => ?_
  rw [h1 ((hW _).1 (List.getElem_mem ha)), h1 ((hW _).1 (List.getElem_mem hb))]; exact Nat.le_refl _
 ·have := le a
  rw [h1 ((hW h).1 (by rw [e]; simp))]; omega
theorem BInv.take (h : BInv E T n (i :: ws) F) (hL : ∀ k, (k, i) ∈ E → k ∈ L) : BMid E T n i ws F L :=
 ⟨h.lt, h.sub, h.way, h.start, fun a ha => by
  rcases h.next a ha with q | q
  ·rcases List.mem_cons.1 q with rfl | q
   ·exact .inr (.inr ⟨rfl, fun k hk => .inr (hL k hk)⟩)
   ·exact .inl q
  ·exact .inr (.inl q), h.rise, fun a => h.top i ws rfl a⟩
theorem BMid.old (h : BMid E T n i ws F (k :: rest)) (hk : F k ≠ 0) : BMid E T n i ws F rest :=
 ⟨h.lt, h.sub, h.way, h.start, fun a ha => by
  rcases h.next a ha with q | q | ⟨rfl, q⟩
  ·exact .inl q
  ·exact .inr (.inl q)
  ·refine .inr (.inr ⟨rfl, fun j hj => ?_⟩)
   rcases q j hj with z | z
   ·exact .inl z
   ·rcases List.mem_cons.1 z with rfl | z
    ·exact .inl hk
    ·exact .inr z, h.rise, h.top⟩
theorem BMid.new (h : BMid E T n i ws F (k :: rest)) (hk : F k = 0) (hkn : k < n) (he : (k, i) ∈ E) : BMid E T n i (ws ++ [k]) (setF F k (F i + 1)) rest := by
 have hi : F i ≠ 0 := h.sub i (by simp)
 have hik : i ≠ k := fun e => by subst e; exact hi hk
 have ei : setF F k (F i + 1) i = F i := by simp [setF, hik]
 have ek : setF F k (F i + 1) k = F i + 1 := by simp [setF]
 have eo : ∀ {a : Nat}, F a ≠ 0 → setF F k (F i + 1) a = F a := fun {a} ha => by
  unfold setF; rw [if_neg (fun e => by subst e; exact ha hk)]
 have cases_ : ∀ {a : Nat}, setF F k (F i + 1) a ≠ 0 → a = k ∨ F a ≠ 0 := fun {a} ha => by
  unfold setF at ha; split at ha
  ·rename_i e; exact .inl e
  ·exact .inr ha
 have mono : ∀ {a : Nat}, F a ≠ 0 → setF F k (F i + 1) a ≠ 0 := fun {a} ha => by rw [eo ha]; exact ha
 refine ⟨fun a ha => ?_, fun a ha => ?_, fun a v hv => ?_, ?_, fun a ha => ?_, ?_, fun a => ?_⟩
 ·rcases cases_ ha with rfl | q
  ·exact hkn
  ·exact h.lt a q
 ·rw [← List.cons_append, List.mem_append, List.mem_singleton] at ha
  rcases ha with q | rfl
  ·exact mono (h.sub a q)
  ·rw [ek]; omega
 ·rcases cases_ (a := a) (by rw [hv]; omega) with rfl | q
  ·rw [ek] at hv
   obtain ⟨u, hu⟩ : ∃ u, F i = u + 1 := ⟨F i - 1, by omega⟩
   obtain rfl : v = u + 1 := by omega
   exact .cons he (h.way i u hu)
  ·rw [eo q] at hv; exact h.way a v hv
 ·exact fun t ht => by rw [eo (by rw [h.start t ht]; decide)]; exact h.start t ht
 ·rcases cases_ ha with rfl | q
  ·exact .inl (by simp)
  ·rcases h.next a q with z | z | ⟨rfl, z⟩
   ·exact .inl (by simp [z])
   ·refine .inr (.inl fun m hm => ?_)
    obtain ⟨z1, z2⟩ := z m hm
    rw [eo z1, eo q]; exact ⟨z1, z2⟩
   ·refine .inr (.inr ⟨rfl, fun m hm => ?_⟩)
    rcases z m hm with z | z
    ·exact .inl (mono z)
    ·rcases List.mem_cons.1 z with rfl | z
     ·exact .inl (by rw [ek]; omega)
     ·exact .inr z
 ·rw [← List.cons_append, List.pairwise_append]
  refine ⟨h.rise.imp_of_mem fun {a b} ha hb hab => ?_, by simp, fun a ha b hb => ?_⟩
  ·rw [eo (h.sub a ha), eo (h.sub b hb)]; exact hab
  ·rw [List.mem_singleton] at hb
   subst hb
   rw [ek, eo (h.sub a ha)]
   exact h.top a
 ·rw [ei]
  unfold setF
  split
  ·exact Nat.le_refl _
  ·exact h.top a
theorem BMid.done (h : BMid E T n i ws F []) : BInv E T n ws F :=
 ⟨h.lt, fun a ha => h.sub a (by simp [ha]), h.way, h.start, fun a ha => by
  rcases h.next a ha with q | q | ⟨rfl, q⟩
  ·exact .inl q
  ·exact .inr q
  ·refine .inr fun k hk => ⟨(q k hk).resolve_right (by simp), h.top k⟩,
  (List.pairwise_cons.1 h.rise).2, fun b r e a => by
  have h1 := (List.pairwise_cons.1 h.rise).1 b (by simp [e])
  have := h.top a
  omega⟩
theorem BInv.met (h : BInv E T n [] F) {i v : Nat} (hw : Way E T i v) : F i ≠ 0 ∧ F i ≤ v + 1 := by
 induction hw with
 | nil ht => rw [h.start _ ht]; exact ⟨by decide, Nat.le_refl _⟩
 | cons e _ ih =>
  obtain ⟨h1, h2⟩ := ih
  obtain ⟨h3, h4⟩ := (h.next _ h1).resolve_left (by simp) _ e
  exact ⟨h3, by omega⟩
theorem BInv.done (h : BInv E T n [] F) (i v : Nat) : F i = v + 1 ↔ Dst E T i v := by
 constructor
 ·intro hv
  refine ⟨h.way i v hv, fun m hm hw => ?_⟩
  have := (h.met hw).2; omega
 ·intro hd
  obtain ⟨h1, h2⟩ := h.met hd.1
  obtain ⟨u, hu⟩ : ∃ u, F i = u + 1 := ⟨F i - 1, by omega⟩
  have := hd.2 u
  by_cases q : u < v
  ·exact absurd (h.way i u hu) (this q)
  ·omega
theorem BInv.none (h : BInv E T n [] F) (i : Nat) : F i = 0 ↔ ¬ ∃ v, Way E T i v := by
 constructor
 ·rintro h0 ⟨v, hv⟩
  exact (h.met hv).1 h0
 ·intro hn
  refine Decidable.byContradiction fun h0 => hn ?_
  exact ⟨F i - 1, h.way i _ (by omega)⟩
end
end Ms
end G
end Go.Proofs.Ytmhchhmhpoldhaa
end
section
namespace Go.Proofs.Ytmhchhmhpoldhaa
namespace G
def stepE (e : SE) : List (Nat × Nat) :=
 if e.k = 1 ∨ e.k = 2 then [(2 * e.f, 2 * e.t), (2 * e.f + 1, 2 * e.t + 1)]
 else if e.k = 5 then [(2 * e.f, 2 * e.t)]
 else if e.k = 4 then [(2 * e.f, 2 * e.t + 1), (2 * e.f + 1, 2 * e.t + 1)]
 else [(2 * e.f, 2 * e.t), (2 * e.f + 1, 2 * e.t)]
def stp (E : List SE) : List (Nat × Nat) := E.flatMap stepE
def turnL (S : List (Nat × Nat)) : List (Nat × Nat) := S.map fun e => (e.2, e.1)
theorem mem_turn {S : List (Nat × Nat)} {a b : Nat} : (a, b) ∈ turnL S ↔ (b, a) ∈ S := by
 simp only [turnL, List.mem_map, Prod.mk.injEq]
 constructor
 ·rintro ⟨⟨x, y⟩, h, rfl, rfl⟩; exact h
 ·intro h; exact ⟨_, h, rfl, rfl⟩
theorem turn_turn (S : List (Nat × Nat)) : turnL (turnL S) = S := by
 unfold turnL; rw [List.map_map]; exact (List.map_congr_left fun _ _ => rfl).trans (List.map_id _)
theorem stepE_len (e : SE) : (stepE e).length ≤ 2 := by unfold stepE; split <;> (try split) <;> (try split) <;> simp
theorem stp_len (E : List SE) : (stp E).length ≤ 2 * E.length := by
 unfold stp
 induction E with
 | nil => simp
 | cons e l ih => rw [List.flatMap_cons, List.length_append, List.length_cons]; have := stepE_len e; omega
theorem stepE_half {e : SE} {a b : Nat} (h : (a, b) ∈ stepE e) : a / 2 = e.f ∧ b / 2 = e.t := by
 unfold stepE at h
 split at h
 ·simp at h; omega
 ·split at h
  ·simp at h; omega
  ·split at h
   ·simp at h; omega
   ·simp at h; omega
theorem stp_lt {E : List SE} {n : Nat} (hE : ∀ e ∈ E, e.f < n ∧ e.t < n) : ∀ e ∈ stp E, e.1 < 2 * n ∧ e.2 < 2 * n := fun ⟨a, b⟩ h => by
 obtain ⟨e, he, h⟩ := List.mem_flatMap.1 h
 have h1 := stepE_half h
 have h2 := hE e he
 simp only
 omega
open Classical in
noncomputable def lst (P : Nat → Prop) : Nat := if h : ∃ q, P q then Classical.choose (least h) else 0
theorem lst_spec {P : Nat → Prop} (h : ∃ q, P q) : P (lst P) ∧ ∀ q, P q → lst P ≤ q := by
 unfold lst; rw [dif_pos h]; exact Classical.choose_spec (least h)
theorem lst_eq {P : Nat → Prop} {q : Nat} (h : P q) (hm : ∀ x, P x → q ≤ x) : lst P = q := by
 obtain ⟨h1, h2⟩ := lst_spec ⟨q, h⟩
 have := h2 q h
 have := hm _ h1
 omega
section
variable (S : List (Nat × Nat)) (T : List Nat)
def cand (v : Nat) (P : Nat → Prop) (q : Nat) : Prop := ∃ i, P i ∧ i / 2 = q ∧ Ms.Dst S T i v
def sts (v : Nat) (P : Nat → Prop) (i : Nat) : Prop := P i ∧ i / 2 = lst (cand S T v P) ∧ Ms.Dst S T i v
def succP (P : Nat → Prop) (j : Nat) : Prop := ∃ i, P i ∧ (i, j) ∈ S
noncomputable def pathP : Nat → (Nat → Prop) → List Nat
 | 0, P => [lst (cand S T 0 P)]
 | v + 1, P => lst (cand S T (v + 1) P) :: pathP v (succP S (sts S T (v + 1) P))
noncomputable def tailP (Q : Nat → Prop) : Nat → List Nat
 | 0 => []
 | v + 1 => pathP S T v (succP S Q)
variable {S T}
theorem pathP_tail (v : Nat) (P : Nat → Prop) : pathP S T v P = lst (cand S T v P) :: tailP S T (sts S T v P) v := by cases v <;> rfl
theorem pathP_congr {P Q : Nat → Prop} (h : ∀ i, P i ↔ Q i) (v : Nat) : pathP S T v P = pathP S T v Q := by rw [show P = Q from funext fun i => propext (h i)]
theorem tailP_congr {P Q : Nat → Prop} (h : ∀ i, P i ↔ Q i) (v : Nat) : tailP S T P v = tailP S T Q v := by rw [show P = Q from funext fun i => propext (h i)]
theorem cand_some {v : Nat} {P : Nat → Prop} (h : ∃ i, P i ∧ Ms.Dst S T i v) : ∃ i, sts S T v P i := by
 obtain ⟨i, h1, h2⟩ := h
 obtain ⟨⟨j, j1, j2, j3⟩, -⟩ := lst_spec (P := cand S T v P) ⟨_, i, h1, rfl, h2⟩
 exact ⟨j, j1, j2, j3⟩
theorem sts_next {v : Nat} {P : Nat → Prop} (h : ∃ i, sts S T (v + 1) P i) : ∃ j, succP S (sts S T (v + 1) P) j ∧ Ms.Dst S T j v := by
 obtain ⟨i, hi⟩ := h
 obtain ⟨j, e, hd⟩ := hi.2.2.next
 exact ⟨j, ⟨i, hi, e⟩, hd⟩
theorem pathP_len : ∀ (v : Nat) (P : Nat → Prop), (pathP S T v P).length = v + 1
 | 0, _ => rfl
 | v + 1, P => by simp [pathP, pathP_len v]
variable (S)
def vSet : List Int → (Nat → Prop) → Nat → Prop
 | [], P => P
 | k :: r, P => vSet r fun j => ((j / 2 : Nat) : Int) = k ∧ ∃ i, P i ∧ (i, j) ∈ S
variable {S}
theorem vSet_snoc (r : List Int) (k : Int) (P : Nat → Prop) (j : Nat) : vSet S (r ++ [k]) P j ↔ ((j / 2 : Nat) : Int) = k ∧ ∃ i, vSet S r P i ∧ (i, j) ∈ S := by
 induction r generalizing P with
 | nil => exact Iff.rfl
 | cons x r ih => exact ih _
theorem vSet_last {r : List Int} {k : Int} {P : Nat → Prop} {j : Nat} (h : vSet S (r ++ [k]) P j) : ((j / 2 : Nat) : Int) = k := ((vSet_snoc r k P j).1 h).1
end
end G
end Go.Proofs.Ytmhchhmhpoldhaa
end
section
namespace Go.Proofs.Ytmhchhmhpoldhaa
namespace G
def Mat (E : List SE) (K : List (Nat × Nat)) (c r : SE) : Prop := c.k = 4 ∧ r.k = 5 ∧ c.s = r.s ∧ Rch (plE E ++ K) [c.t] r.f
open Classical in
noncomputable def stepR (E : List SE) (K : List (Nat × Nat)) (c : SE) (N : List (Nat × Nat)) (r : SE) : List (Nat × Nat) := if Mat E K c r ∧ (c.f, r.t) ∉ K ++ N then N ++ [(c.f, r.t)] else N
noncomputable def stepC (E : List SE) (K : List (Nat × Nat)) (N : List (Nat × Nat)) (c : SE) : List (Nat × Nat) := if c.k = 4 then E.foldl (stepR E K c) N else N
noncomputable def roundN (E : List SE) (K : List (Nat × Nat)) : List (Nat × Nat) := E.foldl (stepC E K) []
structure NInv (E : List SE) (K N : List (Nat × Nat)) : Prop where
 nd : (K ++ N).Nodup
 ok : ∀ p ∈ N, ∃ c ∈ E, ∃ r ∈ E, Mat E K c r ∧ p = (c.f, r.t)
section
variable {E : List SE} {K : List (Nat × Nat)}
theorem NInv.stepR {c r : SE} {N : List (Nat × Nat)} (h : NInv E K N) (hc : c ∈ E) (hr : r ∈ E) : NInv E K (stepR E K c N r) ∧ (∀ p ∈ N, p ∈ G.stepR E K c N r) ∧ (Mat E K c r → (c.f, r.t) ∈ K ++ G.stepR E K c N r) := by
 unfold G.stepR
 split
 ·rename_i hm
  refine ⟨⟨?_, fun p hp => ?_⟩, fun p hp => List.mem_append_left _ hp, fun _ => by simp⟩
  ·rw [← List.append_assoc, List.nodup_append]
   exact ⟨h.nd, by simp, fun a ha b hb e => by rw [List.mem_singleton.1 hb] at e; subst e; exact hm.2 ha⟩
  ·rcases List.mem_append.1 hp with hp | hp
   ·exact h.ok p hp
   ·exact ⟨c, hc, r, hr, hm.1, List.mem_singleton.1 hp⟩
 ·rename_i hm
  exact ⟨h, fun p hp => hp, fun hM => Classical.byContradiction fun hn => hm ⟨hM, hn⟩⟩
theorem NInv.foldR {c : SE} (hc : c ∈ E) : ∀ {l : List SE} {N : List (Nat × Nat)}, (∀ r ∈ l, r ∈ E) → NInv E K N → NInv E K (l.foldl (G.stepR E K c) N) ∧ (∀ p ∈ N, p ∈ l.foldl (G.stepR E K c) N) ∧ ∀ r ∈ l, Mat E K c r → (c.f, r.t) ∈ K ++ l.foldl (G.stepR E K c) N
 | [], N, _, h => ⟨h, fun p hp => hp, fun r hr => by cases hr⟩
 | r :: l, N, hl, h => by
  obtain ⟨h1, h2, h3⟩ := h.stepR hc (hl r (by simp))
  obtain ⟨k1, k2, k3⟩ := NInv.foldR hc (l := l) (fun x hx => hl x (List.mem_cons_of_mem _ hx)) h1
  refine ⟨k1, fun p hp => k2 p (h2 p hp), fun x hx hM => ?_⟩
  rcases List.mem_cons.1 hx with rfl | hx
  ·rcases List.mem_append.1 (h3 hM) with q | q
   ·exact List.mem_append_left _ q
   ·exact List.mem_append_right _ (k2 _ q)
  ·exact k3 x hx hM
theorem NInv.foldC : ∀ {l : List SE} {N : List (Nat × Nat)}, (∀ c ∈ l, c ∈ E) → NInv E K N → NInv E K (l.foldl (stepC E K) N) ∧ (∀ p ∈ N, p ∈ l.foldl (stepC E K) N) ∧ ∀ c ∈ l, ∀ r ∈ E, Mat E K c r → (c.f, r.t) ∈ K ++ l.foldl (stepC E K) N
 | [], N, _, h => ⟨h, fun p hp => hp, fun r hr => by cases hr⟩
 | c :: l, N, hl, h => by
  have step : NInv E K (stepC E K N c) ∧ (∀ p ∈ N, p ∈ stepC E K N c) ∧ ∀ r ∈ E, Mat E K c r → (c.f, r.t) ∈ K ++ stepC E K N c := by
   unfold stepC
   split
   ·exact h.foldR (hl c (by simp)) (fun x hx => hx)
   ·rename_i hk
    exact ⟨h, fun p hp => hp, fun r _ hM => absurd hM.1 hk⟩
  obtain ⟨h1, h2, h3⟩ := step
  obtain ⟨k1, k2, k3⟩ := NInv.foldC (l := l) (fun x hx => hl x (List.mem_cons_of_mem _ hx)) h1
  refine ⟨k1, fun p hp => k2 p (h2 p hp), fun x hx r hr hM => ?_⟩
  rcases List.mem_cons.1 hx with rfl | hx
  ·rcases List.mem_append.1 (h3 r hr hM) with q | q
   ·exact List.mem_append_left _ q
   ·exact List.mem_append_right _ (k2 _ q)
  ·exact k3 x hx r hr hM
theorem roundN_inv (hK : K.Nodup) : NInv E K (roundN E K) ∧ ∀ c ∈ E, ∀ r ∈ E, Mat E K c r → (c.f, r.t) ∈ K ++ roundN E K := by
 have h := NInv.foldC (E := E) (K := K) (l := E) (N := []) (fun c hc => hc) ⟨by simpa using hK, fun p hp => by cases hp⟩
 exact ⟨h.1, h.2.2⟩
theorem rounds_done (hs : ∀ p ∈ K, SL E true p.1 p.2) (hK : K.Nodup) (h0 : roundN E K = []) (a b : Nat) : (a, b) ∈ K ↔ SL E true a b := by
 have h := (roundN_inv (E := E) hK).2
 rw [h0, List.append_nil] at h
 exact ⟨fun hm => hs _ hm, fun hS => (SL.to_rch (K := K) (fun c hc kc r hr kr e hR => h c hc r hr ⟨kc, kr, e, hR⟩) hS).1 rfl⟩
theorem rounds_sound (hs : ∀ p ∈ K, SL E true p.1 p.2) (hK : K.Nodup) : ∀ p ∈ K ++ roundN E K, SL E true p.1 p.2 := fun p hp => by
 rcases List.mem_append.1 hp with hp | hp
 ·exact hs p hp
 ·obtain ⟨c, hc, r, hr, ⟨h1, h2, h3, h4⟩, rfl⟩ := (roundN_inv (E := E) hK).1.ok p hp
  exact .sum hc h1 hr h2 h3 (SL.of_rch hs h4)
theorem NInv.len {N : List (Nat × Nat)} {n : Nat} (h : NInv E K N) (hE : ∀ e ∈ E, e.f < n ∧ e.t < n) (hK : ∀ p ∈ K, p.1 < n ∧ p.2 < n) : (K ++ N).length ≤ n * n :=
 pairs_len h.nd fun p hp => by
  rcases List.mem_append.1 hp with hp | hp
  ·exact hK p hp
  ·obtain ⟨c, hc, r, hr, -, rfl⟩ := h.ok p hp
   exact ⟨(hE c hc).1, (hE r hr).2⟩
end
theorem insert_rising {O : List (Nat × Nat)} {e : Nat × Nat} {k : Nat} (hO : O.Pairwise lexLt) (hn : e ∉ O) (h1 : ∀ x ∈ O.take k, lexLt x e) (h2 : ∀ x, O[k]? = some x → ¬ lexLt x e) :
  (O.take k ++ [e] ++ O.drop k).Pairwise lexLt ∧ ∀ p, p ∈ O.take k ++ [e] ++ O.drop k ↔ p ∈ O ∨ p = e := by
 have hsplit : O.take k ++ O.drop k = O := List.take_append_drop k O
 have hd : ∀ x ∈ O.drop k, lexLt e x := fun x hx => by
  have hk : k < O.length := by
   rcases Nat.lt_or_ge k O.length with q | q
   ·exact q
   ·rw [List.drop_eq_nil_of_le q] at hx; cases hx
  obtain ⟨y, hy⟩ : ∃ y, O[k]? = some y := ⟨_, List.getElem?_eq_getElem hk⟩
  have hy2 := h2 y hy
  have hym : y ∈ O := List.mem_of_getElem? hy
  have hey : lexLt e y := (lex_total (p := e) (q := y) (fun q => hn (q ▸ hym))).resolve_right hy2
  have hdr : O.drop k = y :: O.drop (k + 1) := by
   rw [List.drop_eq_getElem_cons hk]
   congr 1
   exact (List.getElem?_eq_some_iff.1 hy).2
  have hpw : (O.drop k).Pairwise lexLt := List.Pairwise.sublist (List.drop_sublist _ _) hO
  rw [hdr] at hx hpw
  rcases List.mem_cons.1 hx with rfl | hx
  ·exact hey
  ·exact lex_trans hey ((List.pairwise_cons.1 hpw).1 x hx)
 refine ⟨?_, fun p => ?_⟩
 ·rw [← hsplit, List.pairwise_append] at hO
  obtain ⟨p1, p2, p3⟩ := hO
  rw [List.append_assoc, List.pairwise_append]
  refine ⟨p1, List.pairwise_cons.2 ⟨hd, p2⟩, fun x hx y hy => ?_⟩
  rcases List.mem_cons.1 hy with rfl | hy
  ·exact h1 x hx
  ·exact p3 x hx y hy
 ·constructor
  ·intro hp
   rcases List.mem_append.1 hp with hp | hp
   ·rcases List.mem_append.1 hp with hp | hp
    ·exact .inl (List.mem_of_mem_take hp)
    ·exact .inr (List.mem_singleton.1 hp)
   ·exact .inl (List.mem_of_mem_drop hp)
  ·rintro (hp | rfl)
   ·rw [← hsplit] at hp
    rcases List.mem_append.1 hp with hp | hp
    ·exact List.mem_append_left _ (List.mem_append_left _ hp)
    ·exact List.mem_append_right _ hp
   ·exact List.mem_append_left _ (List.mem_append_right _ (by simp))
end G
end Go.Proofs.Ytmhchhmhpoldhaa
end
section
namespace Go.Proofs.Ytmhchhmhpoldhaa
namespace G
structure Jv (E : List SE) (N : Nat) (S F W : List (Nat × Nat)) (X1 : Nat × Nat → Prop) (Y : Nat × Nat → Nat → Prop) (X3 : Nat × Nat → Prop) : Prop where
 base : Base E N S F W
 h0 : ∀ c ∈ E, c.k = 4 → (c.t, c.t) ∈ S
 d1 : D1 E S W X1
 d2 : D2 S F W Y
 d3 : D3 E S F W X3
def no1 : Nat × Nat → Prop := fun _ => False
def no2 : Nat × Nat → Nat → Prop := fun _ _ => False
section
variable {E : List SE} {N : Nat} {S F W : List (Nat × Nat)} {X1 X3 : Nat × Nat → Prop} {Y : Nat × Nat → Nat → Prop} {p w : Nat × Nat}
theorem Jv.way (h : Jv E N S F W X1 Y X3) (hp : SL E false p.1 p.2) (hb : p.1 < N ∧ p.2 < N) : Jv E N (wayS S p) F (wayW S W p) X1 Y X3 :=
 ⟨h.base.way hp hb, fun c hc k => wayS_sub (h.h0 c hc k), h.d1.way, h.d2.way, h.d3.way⟩
theorem Jv.pop (h : Jv E N S F (W ++ [w]) no1 no2 no1) : Jv E N S F W (· = w) (fun p _ => p = w) (· = w) ∧ w ∈ S ∧ toDo N S W + 1 = toDo N S (W ++ [w]) := by
 have hw : ∀ {p : Nat × Nat}, p ∉ W → ¬ p = w → p ∉ W ++ [w] := fun {p} h1 h2 h3 => by
  rcases List.mem_append.1 h3 with q | q
  ·exact h1 q
  ·exact h2 (List.mem_singleton.1 q)
 refine ⟨⟨⟨h.base.sS, h.base.sF, h.base.bS, h.base.bF, h.base.nS, h.base.nF, fun p hp => h.base.sub p (List.mem_append_left _ hp), (List.nodup_append.1 h.base.nW).1⟩, h.h0, ?_, ?_, ?_⟩, h.base.sub w (by simp), ?_⟩
 ·exact fun p hp hn hx b hb => h.d1 p hp (hw hn hx) (fun h => h) b hb
 ·exact fun p hp hn b hb hx => h.d2 p hp (hw hn hx) b hb (fun h => h)
 ·exact fun p hp hn hx c hc kc ec r hr kr er hs => h.d3 p hp (hw hn hx) (fun h => h) c hc kc ec r hr kr er hs
 ·simp [toDo]; omega
theorem Jv.done1 (h : Jv E N S F W (· = w) Y X3) (hd : ∀ b, (w.2, b) ∈ plE E → (w.1, b) ∈ S) : Jv E N S F W no1 Y X3 :=
 ⟨h.base, h.h0, fun p hp hn _ b hb => by
  by_cases e : p = w
  ·subst e; exact hd b hb
  ·exact h.d1 p hp hn e b hb, h.d2, h.d3⟩
theorem Jv.done2 (h : Jv E N S F W X1 (fun p _ => p = w) X3) (hd : ∀ b, (w.2, b) ∈ F → (w.1, b) ∈ S) : Jv E N S F W X1 no2 X3 :=
 ⟨h.base, h.h0, h.d1, fun p hp hn b hb _ => by
  by_cases e : p = w
  ·subst e; exact hd b hb
  ·exact h.d2 p hp hn b hb e, h.d3⟩
theorem Jv.done3 (h : Jv E N S F W X1 Y (· = w)) (hd : ∀ c ∈ E, c.k = 4 → c.t = w.1 → ∀ r ∈ E, r.k = 5 → r.f = w.2 → c.s = r.s → (c.f, r.t) ∈ F) : Jv E N S F W X1 Y no1 :=
 ⟨h.base, h.h0, h.d1, h.d2, fun p hp hn _ c hc kc ec r hr kr er hs => by
  by_cases e : p = w
  ·subst e; exact hd c hc kc ec r hr kr er hs
  ·exact h.d3 p hp hn e c hc kc ec r hr kr er hs⟩
theorem Jv.new (h : Jv E N S F W no1 no2 X3) {s : Nat × Nat} (hs : SL E true s.1 s.2) (hb : s.1 < N ∧ s.2 < N) (hn : s ∉ F) : Jv E N S (F ++ [s]) W no1 (fun p b => (p.2, b) = s) X3 := by
 refine ⟨⟨h.base.sS, fun p hp => ?_, h.base.bS, fun p hp => ?_, h.base.nS, ?_, h.base.sub, h.base.nW⟩, h.h0, h.d1, fun p hp hn b hb hy => ?_, fun p hp hn hx c hc kc ec r hr kr er hs => List.mem_append_left _ (h.d3 p hp hn hx c hc kc ec r hr kr er hs)⟩
 ·rcases List.mem_append.1 hp with hp | hp
  ·exact h.base.sF p hp
  ·rw [List.mem_singleton.1 hp]; exact hs
 ·rcases List.mem_append.1 hp with hp | hp
  ·exact h.base.bF p hp
  ·rw [List.mem_singleton.1 hp]; exact hb
 ·rw [List.nodup_append]
  exact ⟨h.base.nF, by simp, fun a ha b hb e => by rw [List.mem_singleton.1 hb] at e; subst e; exact hn ha⟩
 ·rcases List.mem_append.1 hb with hb | hb
  ·exact h.d2 p hp hn b hb (fun h => h)
  ·exact absurd (List.mem_singleton.1 hb) hy
theorem Jv.over (h : Jv E N S F W no1 (fun p b => (p.2, b) = w) X3) {S0 : List (Nat × Nat)} (hS : ∀ p ∈ S, p ∈ S0 ∨ p ∈ W) (hd : ∀ p ∈ S0, p.2 = w.1 → (p.1, w.2) ∈ S) : Jv E N S F W no1 no2 X3 :=
 ⟨h.base, h.h0, h.d1, fun p hp hn b hb _ => by
  by_cases e : (p.2, b) = w
  ·have e1 : p.2 = w.1 := congrArg Prod.fst e
   have e2 : b = w.2 := congrArg Prod.snd e
   rw [e2]
   exact hd p ((hS p hp).resolve_right hn) e1
  ·exact h.d2 p hp hn b hb e, h.d3⟩
theorem wayS_new {S0 : List (Nat × Nat)} (h : ∀ q ∈ S, q ∈ S0 ∨ q ∈ W) : ∀ q ∈ wayS S p, q ∈ S0 ∨ q ∈ wayW S W p := fun q hq => by
 unfold wayS at hq
 unfold wayW
 split at hq
 ·rename_i hp; rw [if_pos hp]; exact h q hq
 ·rename_i hp
  rw [if_neg hp]
  rcases List.mem_append.1 hq with hq | hq
  ·exact (h q hq).imp id (List.mem_append_left _)
  ·exact .inr (List.mem_append_right _ hq)
theorem Jv.start (hE : ∀ e ∈ E, e.f < N ∧ e.t < N) (hb : Base E N S [] W) (hSW : ∀ p ∈ S, p ∈ W) (h0 : ∀ c ∈ E, c.k = 4 → (c.t, c.t) ∈ S) : Jv E N S [] W no1 no2 no1 :=
 ⟨hb, h0, fun p hp hn => absurd (hSW p hp) hn, fun p hp hn => absurd (hSW p hp) hn, fun p hp hn => absurd (hSW p hp) hn⟩
theorem base_nil : Base E N [] [] [] := ⟨fun _ h => (by cases h), fun _ h => (by cases h), fun _ h => (by cases h), fun _ h => (by cases h), .nil, .nil, fun _ h => (by cases h), .nil⟩
theorem Jv.all (h : Jv E N S F [] no1 no2 no1) (a b : Nat) : (a, b) ∈ F ↔ SL E true a b := found_all h.base h.h0 h.d1 h.d2 h.d3 a b
end
end G
end Go.Proofs.Ytmhchhmhpoldhaa
end
section
namespace Go.Proofs
open Go.Shelf
def Try.laysSort52_ren : Go.Shelf.Ren := ⟨fun | 6 => 52 | 15 => 66 | 14 => 65 | 28 => 80 | 29 => 81 | 20 => 72 | 21 => 73 | 22 => 74 | 23 => 75 | 24 => 76 | 25 => 77 | 26 => 78 | 27 => 79 | 46 => 91 | 47 => 92 | 48 => 93 | 49 => 94 | 50 => 95 | 57 => 99 | n => n, fun | 22 => 67 | 24 => 72 | 25 => 95 | 3 => 3 | 39 => 105 | 0 => 0 | 53 => 119 | 55 => 121 | 4 => 4 | 46 => 112 | 45 => 111 | 50 => 116 | 5 => 5 | 9 => 9 | 66 => 128 | 70 => 132 | 76 => 136 | 77 => 137 | n => n, fun | n => n⟩
theorem Try.laysSort52 : Go.Proofs.SlLaysF0.n6 Try.prog Try.laysSort52_ren := {
 mixed := by kernel_rfl
 f6 := ⟨Try.f52.name, by decide, Try.func52.trans (congrArg some (by kernel_rfl))⟩
 f14 := ⟨Try.f65.name, by decide, Try.func65.trans (congrArg some (by kernel_rfl))⟩
 f15 := Try.func66.trans (congrArg some (by kernel_rfl))
 f20 := ⟨Try.f72.name, by decide, Try.func72.trans (congrArg some (by kernel_rfl))⟩
 f21 := ⟨Try.f73.name, by decide, Try.func73.trans (congrArg some (by kernel_rfl))⟩
 f22 := ⟨Try.f74.name, by decide, Try.func74.trans (congrArg some (by kernel_rfl))⟩
 f23 := ⟨Try.f75.name, by decide, Try.func75.trans (congrArg some (by kernel_rfl))⟩
 f24 := ⟨Try.f76.name, by decide, Try.func76.trans (congrArg some (by kernel_rfl))⟩
 f25 := ⟨Try.f77.name, by decide, Try.func77.trans (congrArg some (by kernel_rfl))⟩
 f26 := ⟨Try.f78.name, by decide, Try.func78.trans (congrArg some (by kernel_rfl))⟩
 f27 := ⟨Try.f79.name, by decide, Try.func79.trans (congrArg some (by kernel_rfl))⟩
 f28 := Try.func80.trans (congrArg some (by kernel_rfl))
 f29 := Try.func81.trans (congrArg some (by kernel_rfl))
 f46 := ⟨Try.f91.name, by decide, Try.func91.trans (congrArg some (by kernel_rfl))⟩
 f47 := Try.func92.trans (congrArg some (by kernel_rfl))
 f48 := Try.func93.trans (congrArg some (by kernel_rfl))
 f49 := ⟨Try.f94.name, by decide, Try.func94.trans (congrArg some (by kernel_rfl))⟩
 f50 := ⟨Try.f95.name, by decide, Try.func95.trans (congrArg some (by kernel_rfl))⟩
 f57 := ⟨Try.f99.name, by decide, Try.func99.trans (congrArg some (by kernel_rfl))⟩
 t0 := Try.underlying0
 a0 := Try.isAgg0
 z0 := Try.sizeOf0
 v0 := Try.zeroValue0
 t3 := Try.underlying3
 a3 := Try.isAgg3
 z3 := Try.sizeOf3
 v3 := Try.zeroValue3
 t4 := Try.underlying4
 a4 := Try.isAgg4
 z4 := Try.sizeOf4
 v4 := Try.zeroValue4
 t5 := Try.underlying5
 a5 := Try.isAgg5
 z5 := Try.sizeOf5
 v5 := Try.zeroValue5
 t9 := Try.underlying9
 a9 := Try.isAgg9
 z9 := Try.sizeOf9
 v9 := Try.zeroValue9
 t22 := Try.underlying67
 a22 := Try.isAgg67
 z22 := Try.sizeOf67
 v22 := Try.zeroValue67
 t25 := Try.underlying95
 a25 := Try.isAgg95
 z25 := Try.sizeOf95
 v25 := Try.zeroValue95
 t39 := Try.underlying105
 a39 := Try.isAgg105
 z39 := Try.sizeOf105
 v39 := Try.zeroValue105
 t45 := Try.underlying111
 a45 := Try.isAgg111
 z45 := Try.sizeOf111
 v45 := Try.zeroValue111
 t46 := Try.underlying112
 a46 := Try.isAgg112
 z46 := Try.sizeOf112
 v46 := Try.zeroValue112
 t50 := Try.underlying116
 a50 := Try.isAgg116
 z50 := Try.sizeOf116
 v50 := Try.zeroValue116
 t53 := Try.underlying119
 a53 := Try.isAgg119
 z53 := Try.sizeOf119
 v53 := Try.zeroValue119
 t55 := Try.underlying121
 a55 := Try.isAgg121
 z55 := Try.sizeOf121
 v55 := Try.zeroValue121
 t66 := Try.underlying128
 a66 := Try.isAgg128
 z66 := Try.sizeOf128
 v66 := Try.zeroValue128
 t70 := Try.underlying132
 a70 := Try.isAgg132
 z70 := Try.sizeOf132
 v70 := Try.zeroValue132
 t76 := Try.underlying136
 a76 := Try.isAgg136
 z76 := Try.sizeOf136
 v76 := Try.zeroValue136
 t77 := Try.underlying137
 a77 := Try.isAgg137
 z77 := Try.sizeOf137
 v77 := Try.zeroValue137 }
end Go.Proofs
end
section
namespace Go.Proofs.Ytmhchhmhpoldhaa
open Go.RowKit
theorem or_any (b off c : Nat) (x y : Int) (w : World) (h0 : w.cell? ⟨b, off, none⟩ = some (.int .i64 x)) (h1 : w.cell? ⟨b, off + 1, none⟩ = some (.int .i64 y)) :
  Calls Try.prog 54 #[.slice (some ⟨b, off, none⟩) 2 c] w fun e w' => e = .returned (.int .i64 (if x = 0 then y else x)) ∧ w = w' := by
 by_cases hx : x = 0
 ·subst hx
  by_cases hy : y = 0
  ·subst hy
   go_enter Try.func54, Try.ntmps54
   go_wp2
   refine wp_loop_rounds 3 ?_
   rw [rounds_succ]
   go_wp2
   rw [rounds_succ]
   go_wp2
   rw [rounds_succ]
   go_wp2
   go_ret
   exact ⟨rfl, rfl⟩
  ·have hy' : (y != 0) = true := by simp [hy]
   go_enter Try.func54, Try.ntmps54
   go_wp2
   refine wp_loop_rounds 3 ?_
   rw [rounds_succ]
   go_wp2
   rw [rounds_succ]
   go_wp2
   all_goals first | (go_ret; exact ⟨rfl, rfl⟩) | skip
 ·have hx' : (x != 0) = true := by simp [hx]
  go_enter Try.func54, Try.ntmps54
  go_wp2
  refine wp_loop_rounds 3 ?_
  rw [rounds_succ]
  go_wp2
  all_goals first | (go_ret; exact ⟨rfl, rfl⟩) | skip
def cmpE (p q : Int × Int) : Int := if Lib.compareInt p.1 q.1 = 0 then Lib.compareInt p.2 q.2 else Lib.compareInt p.1 q.1
set_option maxHeartbeats 2000000 in
set_option maxRecDepth 100000 in
theorem cmpE_any (a b c d : Int) (W : World) : Calls Try.prog 53 #[.agg #[.int .i64 a, .int .i64 b], .agg #[.int .i64 c, .int .i64 d]] W fun e w' => e = .returned (.int .i64 (cmpE (a, b) (c, d))) ∧ ∃ q os', w' = Sort.grow (W.drewN q) os' := by
 have hc := fun W' => Try.cmp_Compare_int a c W'
 have hd := fun W' => Try.cmp_Compare_int b d W'
 obtain ⟨r, hr⟩ : ∃ r, r = Lib.compareInt a c := ⟨_, rfl⟩
 obtain ⟨s, hs⟩ : ∃ s, s = Lib.compareInt b d := ⟨_, rfl⟩
 have he : cmpE (a, b) (c, d) = if r = 0 then s else r := by rw [hr, hs]; rfl
 rw [he]
 obtain ⟨z, hzz⟩ : ∃ z, z = if r = 0 then s else r := ⟨_, rfl⟩
 rw [← hzz]
 rw [← hr] at hc
 rw [← hs] at hd
 clear hr hs he
 go_enter Try.func53, Try.ntmps53
 go_wp2_with fail
 refine wp_region_still_tail 10 (by kernel_rfl) (by kernel_rfl) ?_
 generalize hV : ({ ((W.alloc (.cells #[.int .i64 a, .int .i64 b] 72)).alloc (.cells #[.int .i64 c, .int .i64 d] 72)) with drawn := _ } : World) = V
 have hh : V.heap = (W.heap.push (.cells #[.int .i64 a, .int .i64 b] 72)).push (.cells #[.int .i64 c, .int .i64 d] 72) := by rw [← hV]; rfl
 have q1 : V.heap[W.heap.size]? = some (.cells #[.int .i64 a, .int .i64 b] 72) := by rw [hh, Array.getElem?_push, if_neg (by simp), Array.getElem?_push_size]
 have q2 : V.heap[W.heap.size + 1]? = some (.cells #[.int .i64 c, .int .i64 d] 72) := by
  rw [hh]
  have := Array.getElem?_push_size (xs := W.heap.push (.cells #[.int .i64 a, .int .i64 b] 72)) (x := .cells #[.int .i64 c, .int .i64 d] 72)
  rwa [Array.size_push] at this
 have c0 : V.cell? ⟨W.heap.size, 0, none⟩ = some (.int .i64 a) := by simp only [World.cell?, q1, q2]; rfl
 have c1 : V.cell? ⟨W.heap.size, 1, none⟩ = some (.int .i64 b) := by simp only [World.cell?, q1, q2]; rfl
 have c2 : V.cell? ⟨W.heap.size + 1, 0, none⟩ = some (.int .i64 c) := by simp only [World.cell?, q1, q2]; rfl
 have c3 : V.cell? ⟨W.heap.size + 1, 1, none⟩ = some (.int .i64 d) := by simp only [World.cell?, q1, q2]; rfl
 have hg : ∃ os', V = Sort.grow (W.drewN 1) os' := ⟨#[.cells #[.int .i64 a, .int .i64 b] 72, .cells #[.int .i64 c, .int .i64 d] 72], by rw [← hV, Sort.alloc_eq_grow, Sort.alloc_eq_grow, Sort.grow_grow]; rfl⟩
 clear hV hh q1 q2
 simp only [List.take_succ_cons, List.take_zero, List.drop_succ_cons, List.drop_zero]
 still_step
 still_step
 still_step
 still_step
 still_call (hc _)
 still_step
 still_step
 still_step
 still_step
 still_call (hd _)
 refine wpStill_nil ?_
 clear hc hd c0 c1 c2 c3
 have hz : Calls Try.prog 54 #[.slice (some ⟨V.heap.size, 0, none⟩) 2 2] (V.alloc (.cells #[.int .i64 r, .int .i64 s] 3)) fun e w' => e = .returned (.int .i64 z) ∧ V.alloc (.cells #[.int .i64 r, .int .i64 s] 3) = w' := by
  have hp : (V.alloc (.cells #[.int .i64 r, .int .i64 s] 3)).heap = V.heap.push (.cells #[.int .i64 r, .int .i64 s] 3) := rfl
  rw [hzz]
  exact or_any V.heap.size 0 2 r s _ (by simp [World.cell?, hp]) (by simp [World.cell?, hp])
 clear hzz
 go_wp2_with (go_at_call 54; refine hz.mono ?_; rintro e w' ⟨rfl, rfl⟩)
 go_ret
 obtain ⟨os', hg⟩ := hg
 refine ⟨rfl, 1, os' ++ #[.cells #[.int .i64 r, .int .i64 s] 3], ?_⟩
 rw [hg, Sort.alloc_eq_grow, Sort.grow_grow]
end Go.Proofs.Ytmhchhmhpoldhaa
end
section
namespace Go.Proofs.Ytmhchhmhpoldhaa
namespace G
section
variable {S : List (Nat × Nat)} {T : List Nat}
theorem far_table {F : Nat → Nat} (h1 : ∀ t ∈ T, F t = 1) (h2 : ∀ i, F i = 1 → i ∈ T) (h3 : ∀ i v, F i = v + 2 → ∃ k, (i, k) ∈ S ∧ F k = v + 1) (h4 : ∀ e ∈ S, F e.2 ≠ 0 → F e.1 ≠ 0 ∧ F e.1 ≤ F e.2 + 1) (i v : Nat) : F i = v + 1 ↔ Ms.Dst S T i v := by
 have up : ∀ v i, F i = v + 1 → Ms.Way S T i v := fun v => by
  induction v with
  | zero => exact fun i h => .nil (h2 i h)
  | succ v ih => exact fun i h => by obtain ⟨k, e, hk⟩ := h3 i v h; exact .cons e (ih k hk)
 have lo : ∀ {i v}, Ms.Way S T i v → F i ≠ 0 ∧ F i ≤ v + 1 := fun {i v} h => by
  induction h with
  | nil ht => rw [h1 _ ht]; exact ⟨by decide, Nat.le_refl _⟩
  | cons e _ ih => obtain ⟨q1, q2⟩ := h4 _ e ih.1; exact ⟨q1, by simp only at q2; omega⟩
 constructor
 ·intro h
  exact ⟨up v i h, fun m hm hw => by have := (lo hw).2; omega⟩
 ·intro hd
  obtain ⟨q1, q2⟩ := lo hd.1
  obtain ⟨u, hu⟩ : ∃ u, F i = u + 1 := ⟨F i - 1, by omega⟩
  by_cases q : u < v
  ·exact absurd (up u i hu) (hd.2 u q)
  ·omega
theorem far_none {F : Nat → Nat} (h1 : ∀ t ∈ T, F t = 1) (h4 : ∀ e ∈ S, F e.2 ≠ 0 → F e.1 ≠ 0 ∧ F e.1 ≤ F e.2 + 1) {i : Nat} (h : F i = 0) (v : Nat) : ¬ Ms.Way S T i v := fun hw => by
 have lo : ∀ {i v}, Ms.Way S T i v → F i ≠ 0 := fun {i v} h => by
  induction h with
  | nil ht => rw [h1 _ ht]; decide
  | cons e _ ih => exact (h4 _ e ih).1
 exact lo hw h
theorem way_rchS {i v : Nat} (h : Ms.Way S T i v) : ∃ t ∈ T, Rch S [i] t := by
 induction h with
 | nil ht => exact ⟨_, ht, .here (by simp)⟩
 | cons e _ ih =>
  obtain ⟨t, ht, hr⟩ := ih
  exact ⟨t, ht, hr.mono (fun e he => he) fun s hs => by simp at hs; subst hs; exact .step (.here (by simp)) e⟩
theorem Ms.Way.snoc' {i j v : Nat} (h : Ms.Way S [j] i v) {t : Nat} (e : (j, t) ∈ S) (ht : t ∈ T) : ∃ v, Ms.Way S T i v := by
 generalize hJ : [j] = J at h
 induction h with
 | nil hi => subst hJ; simp at hi; subst hi; exact ⟨1, .cons e (.nil ht)⟩
 | cons e' _ ih => obtain ⟨v, hv⟩ := ih; exact ⟨v + 1, .cons e' hv⟩
theorem rch_wayS {i t : Nat} (h : Rch S [i] t) (ht : t ∈ T) : ∃ v, Ms.Way S T i v := by
 have key : ∀ {t}, Rch S [i] t → ∃ v, Ms.Way S [t] i v := fun {t} h => by
  induction h with
  | here h => simp at h; subst h; exact ⟨0, .nil (by simp)⟩
  | step _ e ih => obtain ⟨v, hv⟩ := ih; exact Ms.Way.snoc' hv e (by simp)
 obtain ⟨v, hv⟩ := key h
 refine ⟨v, ?_⟩
 clear key h
 generalize hJ : [t] = J at hv
 induction hv with
 | nil hi => subst hJ; simp at hi; subst hi; exact .nil ht
 | cons e' _ ih => exact .cons e' ih
theorem rch_one {src : List Nat} {j : Nat} : Rch S src j ↔ ∃ i ∈ src, Rch S [i] j := by
 constructor
 ·intro h
  induction h with
  | here h => exact ⟨_, h, .here (by simp)⟩
  | step _ e ih => obtain ⟨i, hi, hr⟩ := ih; exact ⟨i, hi, .step hr e⟩
 ·rintro ⟨i, hi, hr⟩
  exact hr.mono (fun e he => he) fun s hs => by simp at hs; subst hs; exact .here hi
end
def ph1 (l : List Nat) : List Nat := l.map fun i => 2 * i
def ends2 (t : Nat) : List Nat := [2 * t, 2 * t + 1]
theorem mem_ends2 {t i : Nat} : i ∈ ends2 t ↔ i / 2 = t := by simp [ends2]; omega
def Reached (S : List (Nat × Nat)) (src : List Nat) (i : Nat) : Prop := Rch S (ph1 src) (2 * i) ∨ Rch S (ph1 src) (2 * i + 1)
theorem reached_iff {S : List (Nat × Nat)} {src : List Nat} {t : Nat} : Reached S src t ↔ ∃ i ∈ ph1 src, ∃ v, Ms.Dst S (ends2 t) i v := by
 constructor
 ·intro h
  have : ∃ j ∈ ends2 t, Rch S (ph1 src) j := h.elim (fun h => ⟨_, by simp [ends2], h⟩) fun h => ⟨_, by simp [ends2], h⟩
  obtain ⟨j, hj, hr⟩ := this
  obtain ⟨i, hi, hr⟩ := rch_one.1 hr
  obtain ⟨v, hv⟩ := rch_wayS hr hj
  obtain ⟨m, -, hm⟩ := Ms.dst_of hv
  exact ⟨i, hi, m, hm⟩
 ·rintro ⟨i, hi, v, hv⟩
  obtain ⟨j, hj, hr⟩ := way_rchS hv.1
  have hr := rch_one.2 ⟨i, hi, hr⟩
  simp [ends2] at hj
  rcases hj with rfl | rfl
  ·exact .inl hr
  ·exact .inr hr
noncomputable def many (S : List (Nat × Nat)) (src : List Nat) (t : Nat) : Nat := lst fun v => ∃ i ∈ ph1 src, Ms.Dst S (ends2 t) i v
noncomputable def pathF (S : List (Nat × Nat)) (src : List Nat) (t : Nat) : List Nat := pathP S (ends2 t) (many S src t) (· ∈ ph1 src)
theorem many_spec {S : List (Nat × Nat)} {src : List Nat} {t : Nat} (h : Reached S src t) : (∃ i ∈ ph1 src, Ms.Dst S (ends2 t) i (many S src t)) ∧ ∀ v, (∃ i ∈ ph1 src, Ms.Dst S (ends2 t) i v) → many S src t ≤ v := by
 obtain ⟨i, hi, v, hv⟩ := reached_iff.1 h
 exact lst_spec (P := fun v => ∃ i ∈ ph1 src, Ms.Dst S (ends2 t) i v) ⟨v, i, hi, hv⟩
def ValidF (S : List (Nat × Nat)) (src : List Nat) : List Int → Prop
 | [] => False
 | p :: r => ∃ a ∈ src, (a : Int) = p ∧ ∃ j, vSet S r (fun i => i = 2 * a) j
end G
end Go.Proofs.Ytmhchhmhpoldhaa
end
section
namespace Go.Proofs
open Go.Shelf
def Try.laysDel_ren : Go.Shelf.Ren := ⟨fun | 10 => 57 | 6 => 49 | n => n, fun | 22 => 23 | 23 => 3 | 25 => 63 | 3 => 3 | 4 => 4 | 0 => 0 | n => n, fun | n => n⟩
theorem Try.laysDel : Go.Proofs.SlLaysH.n10 Try.prog Try.laysDel_ren := {
 mixed := by kernel_rfl
 f6 := ⟨Try.f49.name, by decide, Try.func49.trans (congrArg some (by kernel_rfl))⟩
 f10 := ⟨Try.f57.name, by decide, Try.func57.trans (congrArg some (by kernel_rfl))⟩
 t0 := Try.underlying0
 a0 := Try.isAgg0
 z0 := Try.sizeOf0
 v0 := Try.zeroValue0
 t3 := Try.underlying3
 a3 := Try.isAgg3
 z3 := Try.sizeOf3
 v3 := Try.zeroValue3
 t4 := Try.underlying4
 a4 := Try.isAgg4
 z4 := Try.sizeOf4
 v4 := Try.zeroValue4
 t22 := Try.underlying23
 a22 := Try.isAgg23
 z22 := Try.sizeOf23
 v22 := Try.zeroValue23
 a23 := Try.isAgg3
 z23 := Try.sizeOf3
 t25 := Try.underlying63
 a25 := Try.isAgg63
 z25 := Try.sizeOf63
 v25 := Try.zeroValue63 }
end Go.Proofs
end
