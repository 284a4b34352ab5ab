/- Joined by my own program, in build order: Read. -/
import Derived.Test.YthhpcjoaogmhbaaGreatDoorG1
import Derived.SizedLaws
set_option linter.unusedVariables false
set_option linter.unusedSimpArgs false
section
namespace Go.Proofs.YthhpcjoaogmhbaaGreatDoor
open Go.RowKit
theorem Jf {α : Type} (p : Nat → α → Prop) : ∀ (n : Nat), (∀ i, i < n → ∃ x, p i x) → ∃ l : List α, l.length = n ∧ ∀ i x, l[i]? = some x → p i x
 | 0, _ => ⟨[], rfl, fun i x h => by simp at h⟩
 | n + 1, h => by
   obtain ⟨l, hl, hp⟩ := Jf p n (fun i hi => h i (by omega))
   obtain ⟨y, hy⟩ := h n (by omega)
   refine ⟨l ++ [y], by simp [hl], fun i x hx => ?_⟩
   rw [List.getElem?_append] at hx
   split at hx
   ·exact hp i x hx
   ·rename_i hlt
    have : i = n := by
     rcases Nat.lt_or_ge (i - l.length) 1 with h1 | h1
     ·omega
     ·rw [List.getElem?_eq_none (by simpa using h1)] at hx; cases hx
    subst this
    have h0 : i - l.length = 0 := by omega
    rw [h0] at hx
    simp at hx
    subst hx; exact hy
theorem mW {w : World} {b : Nat} : ∀ {cs : List Value} {o : Nat}, (∀ i, i < cs.length → w.cell? ⟨b, o + i, none⟩ = cs[i]?) → gL w b o cs
 | [], _, _ => trivial
 | v :: r, o, h => ⟨by simpa using h 0 (by simp), mW fun i hi => by have := h (i + 1) (by simp; omega); simpa [Nat.add_assoc, Nat.add_comm 1 i] using this⟩
theorem add_block (a : Addr) (k : Nat) : (a.add k).block = a.block := by unfold Addr.add; split <;> rfl
theorem oI {w : World} {base : Nat} {a : Addr} {k n : Nat} {cs : List Value} (hn : 0 < n) (h : w.cells? base (a.add k) n = some cs) :
 ∃ b off, a = ⟨b, off, a.spot⟩ ∧ (a.spot = none ∨ k ≠ 0) ∧ b < w.heap.size ∧ gL w b (off + k) cs ∧ cs.length = n := by
 obtain ⟨_, hlen, hc⟩ := World.cells?_some h
 obtain ⟨b, off, spot⟩ := a
 have h0 := hc 0 hn
 have hc0 : ∃ v, cs[0]? = some v := ⟨cs[0], by simp⟩
 obtain ⟨v, hv⟩ := hc0
 rw [hv] at h0
 have hlt := vZ h0
 have hb : ((Addr.mk b off spot).add k).add 0 = (Addr.mk b off spot).add k := by simp [Addr.add]
 have hs : spot = none ∨ k ≠ 0 := by
  by_cases hk : k = 0
  ·left
   subst hk
   have := World.cell?_spot h0
   simpa [Addr.add] using this
  ·right; exact hk
 refine ⟨b, off, rfl, hs, ?_, mW fun i hi => ?_, hlen⟩
 ·have : (((Addr.mk b off spot).add k).add 0).block = b := by rw [add_block, add_block]
  omega
 ·rw [hlen] at hi
  have := hc i hi
  rw [← this]
  congr 1
  by_cases hk : k = 0
  ·subst hk
   rcases hs with rfl | hs
   ·by_cases h1 : i = 0 <;> simp [Addr.add, h1]
   ·exact absurd rfl hs
  ·by_cases h1 : i = 0 <;> simp [Addr.add, hk, h1]
section
variable {H : Type} {enc : TypeId × Value → H} {P : Go.Program} {w : World} {held : Bool}
def Fits (P : Go.Program) (t : TypeId) (d : DataW H) : Prop := ∀ n ∈ d.weights P t, n ≤ reachBytes
theorem qc {P : Go.Program} {e : TypeId} : ∀ {l : List (DataW H)} {d : DataW H}, d ∈ l → ∀ n ∈ d.weights P e, n ∈ DataW.weightsAll P e l
 | [], _, h, _, _ => by cases h
 | x :: r, d, h, n, hn => by
   rw [DataW.weightsAll, List.mem_append]
   rcases List.mem_cons.1 h with rfl | h
   ·exact .inl hn
   ·exact .inr (qc h n hn)
theorem jB {α : Type} {t e : TypeId} {sz fuel : Nat} {cs : List Value} {x : DataW H × List MemPlace} {R : List Value → α → Prop} (ht : P.underlying t = some (.slice e)) (hsz : P.cellsOf e = sz) (hpos : 0 < sz)
 (hbytes : 0 < P.bytesOf e) (hfit : Fits P t x.1) (hR : ∀ n cs' y, n < fuel → DataW.trod enc P w 0 (fun _ => true) held n e cs' = some y → Fits P e y.1 → ∃ a : α, R cs' a) (h : DataW.trod enc P w 0 (fun _ => true) held fuel t cs = some x) :
 ∃ v, ∃ l : List α, cs = [v] ∧ RSl sz R w (· < w.heap.size) v l := by
 rcases DataW.trod_slice ht h with ⟨rfl, _⟩ | ⟨a, len, cap, elems, rest, n, hf, rfl, hxe, _, hl, hm, hlen, hel, hsp, _⟩
 ·exact ⟨_, [], rfl, none, 0, 0, rfl, rfl, Nat.le_refl _, by unfold l8; omega, fun i x h => by simp at h⟩
 ·have _h0 := hm
  have hwt : x.1.weights P t = ((elems.map (·.1)).length + (rest.map (·.1)).length) * P.bytesOf e :: (DataW.weightsAll P e (elems.map (·.1)) ++ DataW.weightsAll P e (rest.map (·.1))) := by
   rw [hxe]; simp only [DataW.weights, ht]
  have hcap : cap ≤ l8 := by
   have h1 := hfit _ (by rw [hwt]; exact List.mem_cons_self ..)
   have h2 := (hsp rfl).1
   have h3 : (elems.map (·.1)).length + (rest.map (·.1)).length = cap := by simp only [List.length_map]; omega
   rw [h3] at h1
   have h4 : cap * 1 ≤ cap * P.bytesOf e := Nat.mul_le_mul_left _ hbytes
   unfold reachBytes at h1
   unfold l8
   omega
  have hfe : ∀ z, z ∈ elems → Fits P e z.1 := fun z hz k hk => hfit k (by
   rw [hwt]
   exact List.mem_cons_of_mem _ (List.mem_append_left _ (qc (List.mem_map_of_mem hz) k hk)))
  have hall : ∀ i, i < len → ∃ y : α, ∃ b off cs', a = ⟨b, off, none⟩ ∧ b < w.heap.size ∧ gL w b (off + i * sz) cs' ∧ R cs' y := by
   intro i hi
   have h1 := hel i hi
   rw [hsz] at h1
   have h2 : ∃ z, elems[i]? = some z := ⟨elems[i], by simp⟩
   obtain ⟨z, hz⟩ := h2
   rw [hz] at h1
   cases hcell : w.cells? 0 (a.add (i * sz)) sz with
   | none => rw [hcell] at h1; simp at h1
   | some cs' =>
     rw [hcell] at h1
     have h1' : DataW.trod enc P w 0 (fun _ => true) held n e cs' = some z := by simpa using h1
     obtain ⟨b, off, ha, _, hb, hc, _⟩ := oI hpos hcell
     -- the address has no spot: element 0's cells are read, too
     have h00 := hel 0 (by omega)
     have h02 : ∃ z, elems[0]? = some z := ⟨elems[0], by simp⟩
     obtain ⟨z0, hz0⟩ := h02
     rw [hz0, hsz] at h00
     cases hcell0 : w.cells? 0 (a.add (0 * sz)) sz with
     | none => rw [hcell0] at h00; simp at h00
     | some cs0 =>
       obtain ⟨_, _, _, hs0, _⟩ := oI hpos hcell0
       have hsp : a.spot = none := by rcases hs0 with h | h; exact h; simp at h
       obtain ⟨y, hy⟩ := hR n cs' z (by omega) h1' (hfe z (List.mem_of_getElem? hz))
       exact ⟨y, b, off, cs', by rw [ha, hsp], hb, hc, hy⟩
  obtain ⟨l, hll, hp⟩ := Jf _ len hall
  refine ⟨_, l, rfl, some a, len, cap, rfl, hll, hl, hcap, fun i y hy => ?_⟩
  obtain ⟨b, off, cs', ha, hb, hc, hr⟩ := hp i y hy
  exact ⟨b, off, cs', by rw [ha], hb, hc, hr⟩
end
theorem iG.more : ∀ {d : Nat} {w : World} {I : Nat → Prop} {cs : List Value} {x : Expr} {d' : Nat}, d ≤ d' → iG d w I cs x → iG d' w I cs x
 | 0, _, _, _, _, _, _, h => h.elim
 | _ + 1, _, _, _, _, 0, hd, _ => absurd hd (by omega)
 | _ + 1, _, _, _, _, _ + 1, hd, ⟨kv, h1, h2, h3, h4, h5⟩ => ⟨kv, h1, h2, h3, h4, RSl.mono h5 (fun _ h => h) (fun _ _ => rfl) fun _ _ _ h => iG.more (by omega) h⟩
theorem lU.more {d d' : Nat} {w : World} {I : Nat → Prop} {v : Value} {l : List Expr} (hd : d ≤ d') (h : lU d w I v l) : lU d' w I v l := RSl.mono h (fun _ h => h) (fun _ _ => rfl) fun _ _ _ h => iG.more hd h
theorem gZ.more : ∀ {d : Nat} {w : World} {I : Nat → Prop} {cs : List Value} {x : Stmt} {d' : Nat}, d ≤ d' → gZ d w I cs x → gZ d' w I cs x
 | 0, _, _, _, _, _, _, h => h.elim
 | _ + 1, _, _, _, _, 0, hd, _ => absurd hd (by omega)
 | _ + 1, _, _, _, _, _ + 1, hd, ⟨ev, tv, fv, h1, h2, h3, h4, h5, h6, h7, h8⟩ => ⟨ev, tv, fv, h1, h2, h3, h4, h5, lU.more (by omega) h6,
     RSl.mono h7 (fun _ h => h) (fun _ _ => rfl) fun _ _ _ h => gZ.more (by omega) h, RSl.mono h8 (fun _ h => h) (fun _ _ => rfl) fun _ _ _ h => gZ.more (by omega) h⟩
theorem jH.more {d d' : Nat} {w : World} {I : Nat → Prop} {v : Value} {l : List Stmt} (hd : d ≤ d') (h : jH d w I v l) : jH d' w I v l := RSl.mono h (fun _ h => h) (fun _ _ => rfl) fun _ _ _ h => gZ.more hd h
theorem jk.more {d d' : Nat} {w : World} {I : Nat → Prop} {cs : List Value} {x : Method} (hd : d ≤ d') (h : jk d w I cs x) : jk d' w I cs x :=
 let ⟨pv, bv, h1, h2, h3, h4, h5⟩ := h
 ⟨pv, bv, h1, h2, h3, h4, h5.more hd⟩
theorem kG.more {d d' : Nat} {w : World} {I : Nat → Prop} {cs : List Value} {x : Class} (hd : d ≤ d') (h : kG d w I cs x) : kG d' w I cs x :=
 let ⟨pv, bv, h1, h2, h3, h4, h5⟩ := h
 ⟨pv, bv, h1, h2, h3, h4, RSl.mono h5 (fun _ h => h) (fun _ _ => rfl) fun _ _ _ h => h.more hd⟩
section
variable {H : Type} {enc : TypeId × Value → H} {w : World} {held : Bool}
theorem iQ {P : Go.Program} {t : TypeId} {s : ByteArray} {y : DataW H × List MemPlace} (h : y = (.lit (.string s.data.toList), [])) (hf : Fits P t y.1) : s.size ≤ maxS := by
 subst h
 have := hf s.data.toList.length (by simp [DataW.weights])
 unfold reachBytes at this
 have h2 : s.data.toList.length = s.size := rfl
 unfold maxS
 omega
theorem Ig : (Tryz.prog.underlying 35).map (fun d => match d with | .struct fs => fs.toList.map (fun f => (f.type, f.offset)) | _ => []) = some [(9, 0), (9, 1)] := by kernel_rfl
theorem zw : (Tryz.prog.underlying 29).map (fun d => match d with | .struct fs => fs.toList.map (fun f => (f.type, f.offset)) | _ => []) = some [(3, 0), (2, 1), (9, 2), (27, 3)] := by kernel_rfl
theorem nE : (Tryz.prog.underlying 118).map (fun d => match d with | .struct fs => fs.toList.map (fun f => (f.type, f.offset)) | _ => []) = some [(3, 0), (2, 1), (9, 2), (9, 3), (27, 4), (23, 5), (23, 6)] := by kernel_rfl
theorem l7 : (Tryz.prog.underlying 44).map (fun d => match d with | .struct fs => fs.toList.map (fun f => (f.type, f.offset)) | _ => []) = some [(9, 0), (9, 1), (26, 2), (23, 3)] := by kernel_rfl
theorem lH : (Tryz.prog.underlying 42).map (fun d => match d with | .struct fs => fs.toList.map (fun f => (f.type, f.offset)) | _ => []) = some [(9, 0), (9, 1), (26, 2), (40, 3)] := by kernel_rfl
theorem jO : (Tryz.prog.underlying 25).map (fun d => match d with | .struct fs => fs.toList.map (fun f => (f.type, f.offset)) | _ => []) = some [(22, 0), (23, 1)] := by kernel_rfl
theorem j5 {P : Go.Program} {t : TypeId} {fl : List (TypeId × Nat)} {fuel : Nat} {cs : List Value} {x : DataW H × List MemPlace}
 (hf : (P.underlying t).map (fun d => match d with | .struct fs => fs.toList.map (fun f => (f.type, f.offset)) | _ => []) = some fl) (hne : fl ≠ []) (hfit : Fits P t x.1)
 (h : DataW.trod enc P w 0 (fun _ => true) held fuel t cs = some x) : cs.length = P.cellsOf t ∧ ∃ n, n < fuel ∧ ∀ k ∈ fl, ∃ y, DataW.trod enc P w 0 (fun _ => true) held n k.1 ((cs.drop k.2).take (P.cellsOf k.1)) = some y ∧ Fits P k.1 y.1 := by
 cases hu : P.underlying t with
 | none => rw [hu] at hf; simp at hf
 | some d =>
   rw [hu] at hf
   simp only [Option.map_some, Option.some.injEq] at hf
   cases d with
   | struct fs =>
     simp only at hf
     obtain ⟨xs, n, hfu, hxe, hl, hlen, hall⟩ := DataW.trod_struct hu h
     refine ⟨hl, n, by omega, fun k hk => ?_⟩
     rw [← hf] at hk
     obtain ⟨f, hfm, rfl⟩ := List.mem_map.1 hk
     obtain ⟨i, hi⟩ := List.mem_iff_getElem?.1 hfm
     have hi' : fs[i]? = some f := by rw [← Array.getElem?_toList]; exact hi
     have := hall i f hi'
     have hlt : i < xs.length := by
      rw [hlen]
      exact (Array.getElem?_eq_some_iff.1 hi').1
     refine ⟨xs[i], by simpa [List.getElem?_eq_getElem hlt] using this, fun m hm => hfit m ?_⟩
     rw [hxe]
     simp only [DataW.weights, hu]
     exact DataW.weights_mem_each (j := i) (by rw [List.getElem?_map, hi]; rfl) (by rw [List.getElem?_map, List.getElem?_eq_getElem hlt]; rfl) m hm
   | _ => simp only at hf; exact absurd hf.symm hne
theorem aX (t : TypeId) (ht : Tryz.prog.cellsOf t = 1) (cs : List Value) (k : Nat) (v : Value) (h : cs[k]? = some v) : (cs.drop k).take (Tryz.prog.cellsOf t) = [v] := by
 rw [ht]
 have hk : k < cs.length := (List.getElem?_eq_some_iff.1 h).1
 rw [List.drop_eq_getElem_cons hk]
 simp only [List.take_succ_cons, List.take_zero]
 rw [List.getElem?_eq_getElem hk] at h
 simpa using h
theorem Qr : Tryz.prog.cellsOf 3 = 1 := by kernel_rfl
theorem IG : Tryz.prog.cellsOf 2 = 1 := by kernel_rfl
theorem qY : Tryz.prog.cellsOf 9 = 1 := by kernel_rfl
theorem yV : Tryz.prog.cellsOf 27 = 1 := by kernel_rfl
theorem nN : Tryz.prog.cellsOf 23 = 1 := by kernel_rfl
theorem yO : Tryz.prog.cellsOf 26 = 1 := by kernel_rfl
theorem rQ : Tryz.prog.cellsOf 40 = 1 := by kernel_rfl
theorem rT : Tryz.prog.cellsOf 22 = 1 := by kernel_rfl
theorem DV : Tryz.prog.cellsOf 35 = 2 := by kernel_rfl
theorem AJ : Tryz.prog.cellsOf 29 = 4 := by kernel_rfl
theorem nC : Tryz.prog.cellsOf 118 = 7 := by kernel_rfl
theorem qA : Tryz.prog.cellsOf 44 = 4 := by kernel_rfl
theorem uU : Tryz.prog.cellsOf 42 = 4 := by kernel_rfl
theorem Kk : Tryz.prog.cellsOf 25 = 2 := by kernel_rfl
theorem Kw {n : Nat} {cs : List Value} {y : DataW H × List MemPlace} (hfit : Fits Tryz.prog 35 y.1) (h : DataW.trod enc Tryz.prog w 0 (fun _ => true) held n 35 cs = some y) : ∃ a : Slot, DW cs a := by
 obtain ⟨hl, m, _, hall⟩ := j5 Ig (by simp) hfit h
 rw [DV] at hl
 obtain ⟨v0, v1, rfl⟩ := len2 hl
 obtain ⟨y0, h0, f0⟩ := hall (9, 0) (by simp)
 obtain ⟨y1, h1, f1⟩ := hall (9, 1) (by simp)
 rw [aX _ qY _ _ _ rfl] at h0 h1
 obtain ⟨s0, e0, g0, -⟩ := DataW.trod_string Tryz.underlying9 h0
 have l0 : s0.size ≤ maxS := iQ g0 f0
 obtain ⟨s1, e1, g1, -⟩ := DataW.trod_string Tryz.underlying9 h1
 have l1 : s1.size ≤ maxS := iQ g1 f1
 simp only [List.cons.injEq, and_true] at e0 e1
 subst e0 e1
 exact ⟨⟨s0, s1⟩, rfl, l0, l1⟩
theorem zI {n : Nat} {cs : List Value} {y : DataW H × List MemPlace} (hfit : Fits Tryz.prog 26 y.1) (h : DataW.trod enc Tryz.prog w 0 (fun _ => true) held n 26 cs = some y) : ∃ v l, cs = [v] ∧ lT w (· < w.heap.size) v l :=
 jB Tryz.underlying26 DV (by decide) (of_decide_eq_true (by kernel_rfl)) hfit (fun _ _ _ _ h f => Kw f h) h
theorem J6 : ∀ (n : Nat) {cs : List Value} {y : DataW H × List MemPlace}, Fits Tryz.prog 29 y.1 → DataW.trod enc Tryz.prog w 0 (fun _ => true) held n 29 cs = some y → ∃ a : Expr, iG n w (· < w.heap.size) cs a := by
 intro n
 induction n using Nat.strongRecOn with
 | ind n ih =>
   intro cs y hfit h
   obtain ⟨hl, m, hm, hall⟩ := j5 zw (by simp) hfit h
   rw [AJ] at hl
   obtain ⟨v0, v1, v2, v3, rfl⟩ := Nc hl
   obtain ⟨y0, h0, f0⟩ := hall (3, 0) (by simp)
   obtain ⟨y1, h1, f1⟩ := hall (2, 1) (by simp)
   obtain ⟨y2, h2, f2⟩ := hall (9, 2) (by simp)
   obtain ⟨y3, h3, f3⟩ := hall (27, 3) (by simp)
   rw [aX _ Qr _ _ _ rfl] at h0
   rw [aX _ IG _ _ _ rfl] at h1
   rw [aX _ qY _ _ _ rfl] at h2
   rw [aX _ yV _ _ _ rfl] at h3
   obtain ⟨s0, e0, -, l0⟩ := DataW.trod_int Tryz.underlying3 h0
   obtain ⟨s1, e1, -, l1⟩ := DataW.trod_int Tryz.underlying2 h1
   obtain ⟨s2, e2, g2, -⟩ := DataW.trod_string Tryz.underlying9 h2
   have l2 : s2.size ≤ maxS := iQ g2 f2
   obtain ⟨v, l, e3, hr⟩ := jB (R := iG (n - 1) w (· < w.heap.size)) Tryz.underlying27 AJ (by decide) (of_decide_eq_true (by kernel_rfl)) f3 (fun k cs' y hk hy fy => by
    obtain ⟨a, ha⟩ := ih k (by omega) fy hy
    exact ⟨a, ha.more (by omega)⟩) h3
   simp only [List.cons.injEq, and_true] at e0 e1 e2 e3
   subst e0 e1 e2 e3
   obtain ⟨n, rfl⟩ : ∃ k, n = k + 1 := ⟨n - 1, by omega⟩
   exact ⟨⟨s0, s1, s2, l⟩, _, rfl, l0, l1, l2, hr⟩
theorem FY {n : Nat} {cs : List Value} {y : DataW H × List MemPlace} (hfit : Fits Tryz.prog 27 y.1) (h : DataW.trod enc Tryz.prog w 0 (fun _ => true) held n 27 cs = some y) : ∃ v l, cs = [v] ∧ lU n w (· < w.heap.size) v l :=
 jB Tryz.underlying27 AJ (by decide) (of_decide_eq_true (by kernel_rfl)) hfit (fun k _ _ hk h f => let ⟨a, ha⟩ := J6 k f h; ⟨a, ha.more (Nat.le_of_lt hk)⟩) h
theorem Ky : ∀ (n : Nat) {cs : List Value} {y : DataW H × List MemPlace}, Fits Tryz.prog 118 y.1 → DataW.trod enc Tryz.prog w 0 (fun _ => true) held n 118 cs = some y → ∃ a : Stmt, gZ n w (· < w.heap.size) cs a := by
 intro n
 induction n using Nat.strongRecOn with
 | ind n ih =>
   intro cs y hfit h
   obtain ⟨hl, m, hm, hall⟩ := j5 nE (by simp) hfit h
   rw [nC] at hl
   obtain ⟨v0, v1, v2, v3, v4, v5, v6, rfl⟩ := R6 hl
   obtain ⟨y0, h0, f0⟩ := hall (3, 0) (by simp)
   obtain ⟨y1, h1, f1⟩ := hall (2, 1) (by simp)
   obtain ⟨y2, h2, f2⟩ := hall (9, 2) (by simp)
   obtain ⟨y3, h3, f3⟩ := hall (9, 3) (by simp)
   obtain ⟨y4, h4, f4⟩ := hall (27, 4) (by simp)
   obtain ⟨y5, h5, f5⟩ := hall (23, 5) (by simp)
   obtain ⟨y6, h6, f6⟩ := hall (23, 6) (by simp)
   rw [aX _ Qr _ _ _ rfl] at h0
   rw [aX _ IG _ _ _ rfl] at h1
   rw [aX _ qY _ _ _ rfl] at h2 h3
   rw [aX _ yV _ _ _ rfl] at h4
   rw [aX _ nN _ _ _ rfl] at h5 h6
   obtain ⟨s0, e0, -, l0⟩ := DataW.trod_int Tryz.underlying3 h0
   obtain ⟨s1, e1, -, l1⟩ := DataW.trod_int Tryz.underlying2 h1
   obtain ⟨s2, e2, g2, -⟩ := DataW.trod_string Tryz.underlying9 h2
   have l2 : s2.size ≤ maxS := iQ g2 f2
   obtain ⟨s3, e3, g3, -⟩ := DataW.trod_string Tryz.underlying9 h3
   have l3 : s3.size ≤ maxS := iQ g3 f3
   obtain ⟨u4, k4, e4, r4⟩ := FY f4 h4
   have hrec : ∀ k cs' (y : DataW H × List MemPlace), k < m → DataW.trod enc Tryz.prog w 0 (fun _ => true) held k 118 cs' = some y → Fits Tryz.prog 118 y.1 → ∃ a : Stmt, gZ (n - 1) w (· < w.heap.size) cs' a := fun k cs' y hk hy fy => by
    obtain ⟨a, ha⟩ := ih k (by omega) fy hy
    exact ⟨a, ha.more (by omega)⟩
   obtain ⟨u5, k5, e5, r5⟩ := jB Tryz.underlying23 nC (by decide) (of_decide_eq_true (by kernel_rfl)) f5 hrec h5
   obtain ⟨u6, k6, e6, r6⟩ := jB Tryz.underlying23 nC (by decide) (of_decide_eq_true (by kernel_rfl)) f6 hrec h6
   simp only [List.cons.injEq, and_true] at e0 e1 e2 e3 e4 e5 e6
   subst e0 e1 e2 e3 e4 e5 e6
   obtain ⟨n, rfl⟩ : ∃ k, n = k + 1 := ⟨n - 1, by omega⟩
   exact ⟨⟨s0, s1, s2, s3, k4, k5, k6⟩, _, _, _, rfl, l0, l1, l2, l3, r4.more (by omega), r5, r6⟩
theorem AO {n : Nat} {cs : List Value} {y : DataW H × List MemPlace} (hfit : Fits Tryz.prog 23 y.1) (h : DataW.trod enc Tryz.prog w 0 (fun _ => true) held n 23 cs = some y) : ∃ v l, cs = [v] ∧ jH n w (· < w.heap.size) v l :=
 jB Tryz.underlying23 nC (by decide) (of_decide_eq_true (by kernel_rfl)) hfit (fun k _ _ hk h f => let ⟨a, ha⟩ := Ky k f h; ⟨a, ha.more (Nat.le_of_lt hk)⟩) h
theorem FI {n : Nat} {cs : List Value} {y : DataW H × List MemPlace} (hfit : Fits Tryz.prog 44 y.1) (h : DataW.trod enc Tryz.prog w 0 (fun _ => true) held n 44 cs = some y) : ∃ a : Method, jk n w (· < w.heap.size) cs a := by
 obtain ⟨hl, m, hm, hall⟩ := j5 l7 (by simp) hfit h
 rw [qA] at hl
 obtain ⟨v0, v1, v2, v3, rfl⟩ := Nc hl
 obtain ⟨y0, h0, f0⟩ := hall (9, 0) (by simp)
 obtain ⟨y1, h1, f1⟩ := hall (9, 1) (by simp)
 obtain ⟨y2, h2, f2⟩ := hall (26, 2) (by simp)
 obtain ⟨y3, h3, f3⟩ := hall (23, 3) (by simp)
 rw [aX _ qY _ _ _ rfl] at h0 h1
 rw [aX _ yO _ _ _ rfl] at h2
 rw [aX _ nN _ _ _ rfl] at h3
 obtain ⟨s0, e0, g0, -⟩ := DataW.trod_string Tryz.underlying9 h0
 have l0 : s0.size ≤ maxS := iQ g0 f0
 obtain ⟨s1, e1, g1, -⟩ := DataW.trod_string Tryz.underlying9 h1
 have l1 : s1.size ≤ maxS := iQ g1 f1
 obtain ⟨u2, k2, e2, r2⟩ := zI f2 h2
 obtain ⟨u3, k3, e3, r3⟩ := AO f3 h3
 simp only [List.cons.injEq, and_true] at e0 e1 e2 e3
 subst e0 e1 e2 e3
 exact ⟨⟨s0, s1, k2, k3⟩, _, _, rfl, l0, l1, r2, r3.more (by omega)⟩
theorem Gm {n : Nat} {cs : List Value} {y : DataW H × List MemPlace} (hfit : Fits Tryz.prog 42 y.1) (h : DataW.trod enc Tryz.prog w 0 (fun _ => true) held n 42 cs = some y) : ∃ a : Class, kG n w (· < w.heap.size) cs a := by
 obtain ⟨hl, m, hm, hall⟩ := j5 lH (by simp) hfit h
 rw [uU] at hl
 obtain ⟨v0, v1, v2, v3, rfl⟩ := Nc hl
 obtain ⟨y0, h0, f0⟩ := hall (9, 0) (by simp)
 obtain ⟨y1, h1, f1⟩ := hall (9, 1) (by simp)
 obtain ⟨y2, h2, f2⟩ := hall (26, 2) (by simp)
 obtain ⟨y3, h3, f3⟩ := hall (40, 3) (by simp)
 rw [aX _ qY _ _ _ rfl] at h0 h1
 rw [aX _ yO _ _ _ rfl] at h2
 rw [aX _ rQ _ _ _ rfl] at h3
 obtain ⟨s0, e0, g0, -⟩ := DataW.trod_string Tryz.underlying9 h0
 have l0 : s0.size ≤ maxS := iQ g0 f0
 obtain ⟨s1, e1, g1, -⟩ := DataW.trod_string Tryz.underlying9 h1
 have l1 : s1.size ≤ maxS := iQ g1 f1
 obtain ⟨u2, k2, e2, r2⟩ := zI f2 h2
 obtain ⟨u3, k3, e3, r3⟩ := jB (R := jk n w (· < w.heap.size)) Tryz.underlying40 qA (by decide) (of_decide_eq_true (by kernel_rfl)) f3 (fun k cs' y hk hy fy => let ⟨a, ha⟩ := FI fy hy; ⟨a, ha.more (by omega)⟩) h3
 simp only [List.cons.injEq, and_true] at e0 e1 e2 e3
 subst e0 e1 e2 e3
 exact ⟨⟨s0, s1, k2, k3⟩, _, _, rfl, l0, l1, r2, r3⟩
theorem Di {v : Value} {y : DataW H} {p : List MemPlace} (hfit : Fits Tryz.prog 25 y) (h : DataW.Trod enc Tryz.prog w 0 (fun _ => true) held 25 v y p) (hv : ∃ cs, v = .agg cs) : ∃ d a, iV d w (· < w.heap.size) v a := by
 obtain ⟨n, h⟩ := h
 obtain ⟨hl, m, hm, hall⟩ := j5 jO (by simp) hfit h
 rw [Kk] at hl
 obtain ⟨v0, v1, hcs⟩ := len2 hl
 rw [hcs] at hall
 obtain ⟨y0, h0, f0⟩ := hall (22, 0) (by simp)
 obtain ⟨y1, h1, f1⟩ := hall (23, 1) (by simp)
 rw [aX _ rT _ _ _ rfl] at h0
 rw [aX _ nN _ _ _ rfl] at h1
 obtain ⟨u0, k0, e0, r0⟩ := jB (R := kG n w (· < w.heap.size)) Tryz.underlying22 uU (by decide) (of_decide_eq_true (by kernel_rfl)) f0 (fun k cs' y hk hy fy => let ⟨a, ha⟩ := Gm fy hy; ⟨a, ha.more (by omega)⟩) h0
 obtain ⟨u1, k1, e1, r1⟩ := AO f1 h1
 simp only [List.cons.injEq, and_true] at e0 e1
 subst e0 e1
 obtain ⟨cs, rfl⟩ := hv
 have : cs = #[v0, v1] := by simpa [Value.cells, ← Array.toList_inj] using hcs
 subst this
 exact ⟨n, ⟨k0, k1⟩, _, _, rfl, r0, r1.more (by omega)⟩
end
end Go.Proofs.YthhpcjoaogmhbaaGreatDoor
end
