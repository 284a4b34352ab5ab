/- Joined by my own program, in build order: Vran, Closures, Ccls, Cchk, Vy, Vz. -/
import Derived.Test.YtjciafpihdbedaaZ5
import Derived.Test.YtjciafpihdbedaaZ3
set_option linter.unusedVariables false
set_option linter.unusedSimpArgs false
section
/- The loop over classes.up, as a rule of the walk over plain data. -/
set_option linter.unusedVariables false
set_option linter.unusedSimpArgs false
namespace Go.Proofs.Ytjciafpihdbedaa
namespace V
open Go.RowKit
section
variable {w0 w w' : World} {I0 I : Nat → Nat → Prop} {B : Nat → Value} {m : Mem}
/-- Whatever becomes of a hole's block, and whatever is new. -/
theorem MR.holeGrow (h : MR w0 I0 B I m w) {id b : Nat} (hid : m id = some .hole) (hB : B id = .pointer (some ⟨b, 0, none⟩)) (h1 : w'.os = w.os) (h2 : w'.tape = w.tape) (h3 : w'.output = w.output) (hsize : w.heap.size ≤ w'.heap.size) (hk : ∀ k, k < w.heap.size → k ≠ b → w'.heap[k]? = w.heap[k]?) :
    MR w0 I0 B I m w' ∧ Ext w w' I I := by
  have hf : foot B id .hole b := ⟨0, hB⟩
  obtain ⟨b', e1, hI⟩ := h.objs id _ hid
  rw [hB] at e1; cases e1
  have hl := h.low id _ hid b hf
  have hE : Ext w w' I I := ⟨fun _ _ k => k, fun c o ho => World.cell?_of_block (w := w) (hk c (h.there c o ho) (fun e => by subst e; exact hI o ho))⟩
  refine ⟨⟨h.below.trans ⟨h1, h2, h3, hsize, fun k hk' => hk k (Nat.lt_of_lt_of_le hk' h.below.size) (by omega)⟩, h.glob, h.base, h.old, fun c o ho => Nat.lt_of_lt_of_le (h.there c o ho) hsize, fun j o ho => ?_, fun j o ho k hk' => ?_, h.apart, h.live⟩, hE⟩
  · by_cases e : j = id
    · subst e
      rw [hid] at ho; cases ho
      exact ⟨b, hB, hI⟩
    · exact RO.mono hE rfl (fun _ _ => rfl) (fun k hk' => hk k (h.low j o ho k hk').2 (fun e' => by subst e'; exact h.apart j o id _ ho hid e k hk' hf)) (fun _ _ _ hp => hp) (h.objs j o ho)
  · have := h.low j o ho k hk'; omega
/-- Some pieces of a memory. -/
theorem MR.sub (h : MR w0 I0 B I m w) {m' : Mem} (hs : ∀ j o, m' j = some o → m j = some o) (hw : WFm m') : MR w0 I0 B I m' w :=
  ⟨h.below, h.glob, h.base, h.old, h.there, fun id o ho => h.objs id o (hs _ _ ho), fun id o ho => h.low id o (hs _ _ ho), fun id o id' o' ho ho' => h.apart id o id' o' (hs _ _ ho) (hs _ _ ho'), hw⟩
end
/-- The pieces of the loop's own beside the body's. x1, x2: what stands in the iterator's boxes, xL: in the loop's record. -/
def fullM (m : Mem) (i1 i2 iD iL : Nat) (x1 x2 xL : Obj) : Mem := upd (upd (upd (upd m i1 (some (.raw x1))) i2 (some (.raw x2))) iD (some (.raw (.deferred (some []))))) iL (some (.raw xL))
def fullH (m : Mem) (i1 i2 iD iL : Nat) (x1 xL : Obj) : Mem := upd (upd (upd (upd m i1 (some (.raw x1))) i2 (some .hole)) iD (some (.raw (.deferred (some []))))) iL (some (.raw xL))
/-- The slots behind the loop. -/
def doneS (s : Nat → A) (b iD : Nat) : Nat → A := upd (upd s DID (.defs [{ target := .collected b, args := #[] }])) (DID + 1) (.pinP (.pointer (some ⟨b, 0, none⟩)) iD 0)
def doneM (m : Mem) (iD : Nat) : Mem := upd m iD (some (.raw (.deferred (some []))))
def keepR (kp : Nat → Prop) (s0 : Nat → A) (i1 i2 iD iL : Nat) : Nat → Prop := fun j => kp j ∨ (∃ t, j ∈ (s0 t).ids) ∨ j = i1 ∨ j = i2 ∨ j = iD ∨ j = iL
/-- What may stand beside the loop's own pieces. -/
structure GoodM (kp : Nat → Prop) (s0 : Nat → A) (i1 i2 iD iL : Nat) (m : Mem) : Prop where
  wf : WFm m
  i1 : m i1 = none
  i2 : m i2 = none
  iD : m iD = none
  iL : m iL = none
  ids : ∀ t, ∀ j ∈ (s0 t).ids, (m j).isSome = true
  kept : ∀ j, kp j → (m j).isSome = true
theorem upd_upd {α : Type} (f : Nat → α) (i : Nat) (x y : α) : upd (upd f i x) i y = upd f i y := by
  funext t; unfold upd; split <;> rfl
/-- What a round ends with. -/
def RoundK (kp : Nat → Prop) (K : Exit → St → Prop) (Inv : Nat → Prop) (s0 : Nat → A) (M : Nat → Mem) (i1 i2 iD iL k : Nat) (x1 x2 xL : Obj) : Exit → St → Prop
  | .normal, st => Inv (k + 1) ∧ ∃ τ, LeT τ (keepR kp s0 i1 i2 iD iL) st ⟨fun _ => .top, fullM (M (k + 1)) i1 i2 iD iL x1 x2 xL⟩
  | .ret, st => ∃ τ m2, LeT τ (keepR kp s0 i1 i2 iD iL) st ⟨fun _ => .top, fullM m2 i1 i2 iD iL x1 x2 xL⟩ ∧ GoodM kp s0 i1 i2 iD iL m2 ∧ ∀ b, K .ret ⟨doneS s0 b iD, doneM m2 iD⟩
  | .exit id, st => ∃ τ m2, LeT τ (keepR kp s0 i1 i2 iD iL) st ⟨fun _ => .top, fullM m2 i1 i2 iD iL x1 x2 xL⟩ ∧ GoodM kp s0 i1 i2 iD iL m2 ∧ ∀ b, K (.exit id) ⟨doneS s0 b iD, doneM m2 iD⟩
  | _, _ => False
section
variable {kp : Nat → Prop} {s0 : Nat → A} {i1 i2 iD iL : Nat} {m : Mem} {x1 x2 xL : Obj}
theorem full_cases {o2 : O} {j : Nat} {o : O} (h : upd (upd (upd (upd m i1 (some (.raw x1))) i2 (some o2)) iD (some (.raw (.deferred (some []))))) iL (some (.raw xL)) j = some o) : (j = iL ∧ o = .raw xL) ∨ (j = iD ∧ j ≠ iL ∧ o = .raw (.deferred (some []))) ∨ (j = i2 ∧ j ≠ iL ∧ j ≠ iD ∧ o = o2) ∨ (j = i1 ∧ j ≠ iL ∧ j ≠ iD ∧ j ≠ i2 ∧ o = .raw x1) ∨ (j ≠ iL ∧ j ≠ iD ∧ j ≠ i2 ∧ j ≠ i1 ∧ m j = some o) := by
  unfold upd at h
  split at h
  · rename_i e; exact .inl ⟨e, (Option.some.inj h).symm⟩
  · rename_i e1
    split at h
    · rename_i e; exact .inr (.inl ⟨e, e1, (Option.some.inj h).symm⟩)
    · rename_i e2
      split at h
      · rename_i e; exact .inr (.inr (.inl ⟨e, e1, e2, (Option.some.inj h).symm⟩))
      · rename_i e3
        split at h
        · rename_i e; exact .inr (.inr (.inr (.inl ⟨e, e1, e2, e3, (Option.some.inj h).symm⟩)))
        · rename_i e4; exact .inr (.inr (.inr (.inr ⟨e1, e2, e3, e4, h⟩)))
theorem full_live {o2 : O} {j : Nat} (h : (m j).isSome = true) : (upd (upd (upd (upd m i1 (some (.raw x1))) i2 (some o2)) iD (some (.raw (.deferred (some []))))) iL (some (.raw xL)) j).isSome = true := by
  unfold upd
  split
  · rfl
  · split
    · rfl
    · split
      · rfl
      · split
        · rfl
        · exact h
theorem full_wf {o2 : O} (h2 : o2.ids = []) (hw : WFm m) : WFm (upd (upd (upd (upd m i1 (some (.raw x1))) i2 (some o2)) iD (some (.raw (.deferred (some []))))) iL (some (.raw xL))) := fun j o ho i hi => by
  rcases full_cases ho with ⟨-, rfl⟩ | ⟨-, -, rfl⟩ | ⟨-, -, -, rfl⟩ | ⟨-, -, -, -, rfl⟩ | ⟨-, -, -, -, ho⟩
  · simp [O.ids] at hi
  · simp [O.ids] at hi
  · rw [h2] at hi; simp at hi
  · simp [O.ids] at hi
  · exact full_live (hw j o ho i hi)
theorem fullM_wf (hw : WFm m) : WFm (fullM m i1 i2 iD iL x1 x2 xL) := full_wf rfl hw
theorem fullH_wf (hw : WFm m) : WFm (fullH m i1 i2 iD iL x1 xL) := full_wf rfl hw
theorem fullM_keep (h : GoodM kp s0 i1 i2 iD iL m) {j : Nat} (hj : keepR kp s0 i1 i2 iD iL j) : (fullM m i1 i2 iD iL x1 x2 xL j).isSome = true := by
  rcases hj with hj | ⟨t, hj⟩ | hj
  · exact full_live (h.kept j hj)
  · exact full_live (h.ids t j hj)
  · unfold fullM upd
    split
    · rfl
    · split
      · rfl
      · split
        · rfl
        · split
          · rfl
          · omega
theorem fullM_L (y : Obj) : upd (fullM m i1 i2 iD iL x1 x2 xL) iL (some (.raw y)) = fullM m i1 i2 iD iL x1 x2 y := upd_upd _ _ _ _
theorem fullH_L (y : Obj) : upd (fullH m i1 i2 iD iL x1 xL) iL (some (.raw y)) = fullH m i1 i2 iD iL x1 y := upd_upd _ _ _ _
theorem full_2 (h2D : i2 ≠ iD) (h2L : i2 ≠ iL) (o o' : O) : upd (upd (upd (upd (upd m i1 (some (.raw x1))) i2 (some o)) iD (some (.raw (.deferred (some []))))) iL (some (.raw xL))) i2 (some o') = upd (upd (upd (upd m i1 (some (.raw x1))) i2 (some o')) iD (some (.raw (.deferred (some []))))) iL (some (.raw xL)) := by
  funext t
  unfold upd
  by_cases h1 : t = i2 <;> by_cases h2 : t = iL <;> by_cases h3 : t = iD <;> simp [h1, h2, h3]
  · exact absurd (h1.symm.trans h2) h2L
  · exact absurd (h1.symm.trans h2) h2L
  · exact absurd (h1.symm.trans h3) h2D
  all_goals (try subst h1) <;> simp_all
end
/-- A block of book-keeping turns. -/
theorem SR.putRaw {R : Ref} {n : Nat} {ds : List Deferred} {st : St} {a : Act} {w : World} (h : SR R n ds st a w) {id b : Nat} {x : Obj} (hid : st.m id = some (.raw x)) (hk : R.keep id) (hB : R.B id = .pointer (some ⟨b, 0, none⟩)) (y : Obj) :
    w.heap[b]? = some x ∧ SR R n ds ⟨st.s, upd st.m id (some (.raw y))⟩ a (w.putObj b y) := by
  obtain ⟨⟨B, I, hm, hx0, hkp, hs⟩, hids, hsz, hnn, hdf, hkept⟩ := h
  have hB' : B id = .pointer (some ⟨b, 0, none⟩) := (hkp id hk).trans hB
  obtain ⟨hm', hE⟩ := hm.putRaw hid hB' y
  have liv : ∀ i, (st.m i).isSome = true → (upd st.m id (some (.raw y)) i).isSome = true := fun i hi => by
    unfold upd; split
    · rfl
    · exact hi
  obtain ⟨b', e1, hx, -⟩ := hm.objs id _ hid
  rw [hB'] at e1; cases e1
  exact ⟨hx, ⟨B, I, hm', hx0.trans hE, hkp, fun t => (hs t).mono hE fun _ _ => rfl⟩, fun t j hj => liv j (hids t j hj), hsz, hnn, hdf, fun j hj => liv j (hkept j hj)⟩
set_option maxHeartbeats 1000000 in
theorem W.rangeUp {R : Ref} {n : Nat} {ds : List Deferred} {st : St} {K : Exit → St → Prop} {g : Operand} {assign body : Code} {p0 p1 : Tmp}
    (cs : List Class) (name : ByteArray) (mn : C) (i1 i2 iD iL : Nat) (s0 : Nat → A) (M : Nat → Mem) (Inv : Nat → Prop) (hlen : cs.length ≤ 1000000000)
    (hg : ev st.s g = .fn 57 [i1, i2]) (h1 : st.m i1 = some (.box 25 [.c (.sl (cs.map cClass)), .c mn])) (h2 : st.m i2 = some (.box 9 [.c (.str name)]))
    (hne : [i1, i2, iD, iL].Nodup) (hD : st.m iD = none) (hL : st.m iL = none) (hpn : p0 < n ∧ p1 < n ∧ p0 ≠ p1) (hI0 : Inv 0) (hdd : dfs (st.s DID) = [])
    (hs0 : SLe st.s s0) (hsn : ∀ t, n ≤ t → s0 t = .top) (hM0 : ∀ j o, M 0 j = some o → st.m j = some o)
    (hM : ∀ k, k ≤ (upX cs (cs.length + 1) 0 name).length → GoodM R.keep s0 i1 i2 iD iL (M k))
    (hround : ∀ (R' : Ref) (l : Nat), R'.keep = keepR R.keep s0 i1 i2 iD iL → ∀ (k j : Nat) (c : Class) (x1 x2 xL : Obj), Inv k → (upX cs (cs.length + 1) 0 name)[k]? = some (k, j) → cs[j]? = some c →
      WI l 3 Try.prog R' n [] ⟨upd (upd s0 p0 (.c (.int .i64 (k : Int)))) p1 (.agg (cClass c)), fullM (M k) i1 i2 iD iL x1 x2 xL⟩ assign
        (thenK (fun st1 => st1.m iL = some (.raw xL) ∧ ∀ xL', WI l 3 Try.prog R' n [] ⟨st1.s, upd st1.m iL (some (.raw xL'))⟩ body (RoundK R.keep K Inv s0 M i1 i2 iD iL k x1 x2 xL')) (fun _ _ => False)))
    (hdone : Inv (upX cs (cs.length + 1) 0 name).length → ∀ b, K .normal ⟨doneS s0 b iD, doneM (M (upX cs (cs.length + 1) 0 name).length) iD⟩) :
    W Try.prog R n ds st (.rangeFunc g #[p0, p1] assign body) K := by
  intro a w hr
  obtain ⟨⟨B, I, hm, hx0, hkp, hs⟩, hids, hsz, hnn, hdf, hkept⟩ := hr
  simp only [List.nodup_cons, List.mem_cons, List.not_mem_nil, or_false, not_or, List.nodup_nil, and_true, not_false_eq_true] at hne
  obtain ⟨⟨n12, n1D, n1L⟩, ⟨n2D, n2L⟩, nDL⟩ := hne
  obtain ⟨b1, us1, hB1, hh1, hv1, hI1⟩ := hm.objs i1 _ h1
  obtain ⟨b2, us2, hB2, hh2, hv2, hI2⟩ := hm.objs i2 _ h2
  have hb12 : b1 ≠ b2 := fun e => hm.apart i1 _ i2 _ h1 h2 n12 b1 ⟨0, hB1⟩ ⟨0, e ▸ hB2⟩
  -- the two boxes' cells
  obtain ⟨cv, mv, rfl⟩ : ∃ cv mv, us1 = [cv, mv] := by
    have := hv1.length
    match us1, this with | [x, y], _ => exact ⟨x, y, rfl⟩
  obtain ⟨nv, rfl⟩ : ∃ nv, us2 = [nv] := by
    have := hv2.length
    match us2, this with | [x], _ => exact ⟨x, rfl⟩
  obtain rfl : nv = .string name := (RC.toStr hv2.1.1).1
  have hcv : RC w I cv (.sl (cs.map cClass)) := hv1.1.1
  have hfv : a.eval g = .func (.func 57) #[] #[.pointer (some ⟨b1, 0, none⟩), .pointer (some ⟨b2, 0, none⟩)] := by
    have := ev_rv hs g
    rw [hg] at this
    have h := show a.eval g = .func (.func 57) #[] (([i1, i2].map B).toArray) from this
    rw [h]; simp [hB1, hB2]
  have had : a.defers = ds := by rw [hdf, show dfs (st.s DID) = [] from hdd]; rfl
  refine (wpIn_wide (n := 5)).1 (wpIn_rangeFunc fun fn hfn => ?_)
  -- the loop's book-keeping
  generalize hrec : (fun s pe => loopRec fn a.tmps #[p0, p1] assign body w.heap.size s pe) = rec'
  have recL : ∀ s pe, rec' s pe = loopRec fn a.tmps #[p0, p1] assign body w.heap.size s pe := fun s pe => by rw [← hrec]
  generalize hws : (w.alloc (.deferred (some []))).alloc (rec' .ready none) = ws
  have size0 : (w.alloc (.deferred (some []))).heap.size = w.heap.size + 1 := World.size_alloc _ _
  generalize hBsd : upd (upd B iD (.pointer (some ⟨w.heap.size, 0, none⟩))) iL (.pointer (some ⟨w.heap.size + 1, 0, none⟩)) = Bs
  have hm1 := hm.newRaw hD (.deferred (some []))
  have hb1 : Below w.heap.size w (w.alloc (.deferred (some []))) := (Below.refl _ _).alloc (Nat.le_refl _) _
  have hL' : upd st.m iD (some (O.raw (.deferred (some [])))) iL = none := by rw [upd_ne _ _ (Ne.symm nDL)]; exact hL
  have hm2 := hm1.newRaw hL' (rec' .ready none)
  rw [size0, hBsd, hws] at hm2
  have hb2 : Below w.heap.size w ws := by rw [← hws]; exact hb1.alloc (by rw [size0]; omega) _
  have hE2 : Ext w ws I I := hm.ext hb2 (fun _ _ k => k)
  have hBs : ∀ j, (st.m j).isSome = true → Bs j = B j := fun j hj => by
    rw [← hBsd, upd_ne _ _ (fun e => by subst e; simp [hL] at hj), upd_ne _ _ (fun e => by subst e; simp [hD] at hj)]
  have hB1s : Bs i1 = .pointer (some ⟨b1, 0, none⟩) := (hBs i1 (by simp [h1])).trans hB1
  have hB2s : Bs i2 = .pointer (some ⟨b2, 0, none⟩) := (hBs i2 (by simp [h2])).trans hB2
  have hBDs : Bs iD = .pointer (some ⟨w.heap.size, 0, none⟩) := by rw [← hBsd, upd_ne _ _ nDL, upd_same]
  have hBLs : Bs iL = .pointer (some ⟨w.heap.size + 1, 0, none⟩) := by rw [← hBsd, upd_same]
  have hl1 : b1 < w.heap.size := (Array.getElem?_eq_some_iff.1 hh1).1
  have hl2 : b2 < w.heap.size := (Array.getElem?_eq_some_iff.1 hh2).1
  -- the frame, as it was at the loop's start
  have hframe : ∀ t, RV Bs ws I (s0 t) (a.tmps.getD t undef) := fun t => by
    rcases hs0 t with e | e
    · rw [e]; trivial
    · rw [e]; exact (hs t).mono hE2 fun j hj => hBs j (hids t j hj)
  let x1 : Obj := .cells #[cv, mv] 25
  let kp' := keepR R.keep s0 i1 i2 iD iL
  have keep1 : kp' i1 := .inr (.inr (.inl rfl))
  have keep2 : kp' i2 := .inr (.inr (.inr (.inl rfl)))
  have keepD : kp' iD := .inr (.inr (.inr (.inr (.inl rfl))))
  have keepL : kp' iL := .inr (.inr (.inr (.inr (.inr rfl))))
  let R' : Ref := ⟨R.w0, R.I0, ws, I, Bs, kp'⟩
  let J : Nat → (Nat → Nat → Prop) → World → Prop := fun k I1 W => ∃ B1, MR R.w0 R.I0 B1 I1 (fullH (M k) i1 i2 iD iL x1 (rec' .ready none)) W ∧ Ext ws W I I1 ∧ (∀ j, kp' j → B1 j = Bs j) ∧ k ≤ (upX cs (cs.length + 1) 0 name).length ∧ Inv k
  let Jx : World → Prop := fun W => ∃ c B1 I1 m2, MR R.w0 R.I0 B1 I1 (fullH m2 i1 i2 iD iL x1 (rec' .done (some c))) W ∧ Ext ws W I I1 ∧ (∀ j, kp' j → B1 j = Bs j) ∧ GoodM R.keep s0 i1 i2 iD iL m2 ∧
    ((c = .ret ∧ ∀ b, K .ret ⟨doneS s0 b iD, doneM m2 iD⟩) ∨ ∃ id, c = .exit id ∧ ∀ b, K (.exit id) ⟨doneS s0 b iD, doneM m2 iD⟩)
  have fullL : ∀ (m : Mem) (o2 : O) (x : Obj), upd (upd (upd (upd m i1 (some (.raw x1))) i2 (some o2)) iD (some (.raw (.deferred (some []))))) iL (some (.raw x)) iL = some (.raw x) := fun _ _ _ => upd_same _ _ _
  have full2 : ∀ (m : Mem) (o2 : O) (x : Obj), upd (upd (upd (upd m i1 (some (.raw x1))) i2 (some o2)) iD (some (.raw (.deferred (some []))))) iL (some (.raw x)) i2 = some o2 := fun _ _ _ => by rw [upd_ne _ _ n2L, upd_ne _ _ n2D, upd_same]
  have full1 : ∀ (m : Mem) (o2 : O) (x : Obj), upd (upd (upd (upd m i1 (some (.raw x1))) i2 (some o2)) iD (some (.raw (.deferred (some []))))) iL (some (.raw x)) i1 = some (.raw x1) := fun _ _ _ => by rw [upd_ne _ _ n1L, upd_ne _ _ n1D, upd_ne _ _ n12, upd_same]
  -- behind the loop
  have finish : ∀ {W : World} {B1 : Nat → Value} {I1 : Nat → Nat → Prop} {m2 : Mem} {y : Obj}, MR R.w0 R.I0 B1 I1 (fullH m2 i1 i2 iD iL x1 y) W → Ext ws W I I1 → (∀ j, kp' j → B1 j = Bs j) → GoodM R.keep s0 i1 i2 iD iL m2 →
      SR R n ds ⟨doneS s0 w.heap.size iD, doneM m2 iD⟩ { a with defers := { target := .collected w.heap.size, args := #[] } :: a.defers } W := fun {W B1 I1 m2 y} hmW hxW hkW hgd => by
    have liv : ∀ j, (m2 j).isSome = true → (doneM m2 iD j).isSome = true := fun j hj => by
      unfold doneM upd; split
      · rfl
      · exact hj
    have hsub : MR R.w0 R.I0 B1 I1 (doneM m2 iD) W := hmW.sub (fun j o ho => by
      unfold doneM upd at ho
      split at ho
      · rename_i e; subst e; cases ho
        unfold fullH; rw [upd_ne _ _ nDL, upd_same]
      · rename_i e
        have e1 : j ≠ iL := fun q => by subst q; rw [hgd.iL] at ho; cases ho
        have e2 : j ≠ i2 := fun q => by subst q; rw [hgd.i2] at ho; cases ho
        have e3 : j ≠ i1 := fun q => by subst q; rw [hgd.i1] at ho; cases ho
        unfold fullH; rw [upd_ne _ _ e1, upd_ne _ _ e, upd_ne _ _ e2, upd_ne _ _ e3]; exact ho) (fun j o ho i hi => by
      unfold doneM upd at ho
      split at ho
      · cases ho; simp [O.ids] at hi
      · exact liv i (hgd.wf j o ho i hi))
    have sl : ∀ t, t ≠ DID → t ≠ DID + 1 → doneS s0 w.heap.size iD t = s0 t := fun t e1 e2 => by
      unfold doneS; rw [upd_ne _ _ e2, upd_ne _ _ e1]
    refine ⟨⟨B1, I1, hsub, (hx0.trans hE2).trans hxW, fun j hj => ((hkW j (.inl hj)).trans (hBs j (hkept j hj))).trans (hkp j hj), fun t => ?_⟩, fun t j hj => ?_, hsz, hnn, ?_, fun j hj => liv j (hgd.kept j hj)⟩
    · by_cases e2 : t = DID + 1
      · subst e2
        show RV B1 W I1 (doneS s0 w.heap.size iD (DID + 1)) _
        unfold doneS; rw [upd_same]
        exact ⟨w.heap.size, (hkW iD keepD).trans hBDs, rfl⟩
      · by_cases e1 : t = DID
        · subst e1
          show RV B1 W I1 (doneS s0 w.heap.size iD DID) _
          unfold doneS; rw [upd_ne _ _ (by decide), upd_same]
          trivial
        · show RV B1 W I1 (doneS s0 w.heap.size iD t) _
          rw [sl t e1 e2]
          exact (hframe t).mono hxW fun j hj => hkW j (.inr (.inl ⟨t, hj⟩))
    · replace hj : j ∈ (doneS s0 w.heap.size iD t).ids := hj
      by_cases e2 : t = DID + 1
      · subst e2
        unfold doneS at hj; rw [upd_same] at hj
        simp [A.ids] at hj; subst hj
        show (doneM m2 j j).isSome = true
        unfold doneM; rw [upd_same]; rfl
      · by_cases e1 : t = DID
        · subst e1
          unfold doneS at hj; rw [upd_ne _ _ (by decide), upd_same] at hj
          simp [A.ids] at hj
        · rw [sl t e1 e2] at hj
          exact liv j (hgd.ids t j hj)
    · show _ :: a.defers = dfs (doneS s0 w.heap.size iD DID) ++ ds
      unfold doneS; rw [upd_ne _ _ (by decide), upd_same, had]; rfl
  have hJ0 : J 0 I ws := by
    have ha : MR R.w0 R.I0 Bs I (upd (upd (upd st.m iD (some (O.raw (.deferred (some []))))) iL (some (.raw (rec' .ready none)))) i2 (some .hole)) ws := hm2.toHole (id := i2) (o := .box 9 [.c (.str name)]) (by rw [upd_ne _ _ n2L, upd_ne _ _ n2D]; exact h2) ⟨b2, hB2s, hI2, fun k => ⟨fun ⟨off, hk⟩ => by rw [hB2s] at hk; cases hk; rfl, fun e => ⟨0, e ▸ hB2s⟩⟩⟩
    have hi1 : upd (upd (upd st.m iD (some (O.raw (.deferred (some []))))) iL (some (.raw (rec' .ready none)))) i2 (some .hole) i1 = some (.box 25 [.c (.sl (cs.map cClass)), .c mn]) := by rw [upd_ne _ _ n12, upd_ne _ _ n1L, upd_ne _ _ n1D]; exact h1
    have hb := ha.toHole hi1 ⟨b1, hB1s, hI1, fun k => ⟨fun ⟨off, hk⟩ => by rw [hB1s] at hk; cases hk; rfl, fun e => ⟨0, e ▸ hB1s⟩⟩⟩
    have hc := hb.ofHole (id := i1) (b := b1) (x := x1) (upd_same _ _ _) hB1s ((hb2.block b1 hl1).trans hh1)
    refine ⟨Bs, hc.sub (fun j o ho => ?_) (fullH_wf (hM 0 (Nat.zero_le _)).wf), Ext.refl _ _, fun _ _ => rfl, Nat.zero_le _, hI0⟩
    rw [upd_upd]
    rcases full_cases ho with ⟨rfl, rfl⟩ | ⟨rfl, e1, rfl⟩ | ⟨rfl, e1, e2, rfl⟩ | ⟨rfl, e1, e2, e3, rfl⟩ | ⟨e1, e2, e3, e4, ho⟩
    · rw [upd_ne _ _ (Ne.symm n1L), upd_ne _ _ (Ne.symm n2L), upd_same]
    · rw [upd_ne _ _ (Ne.symm n1D), upd_ne _ _ (Ne.symm n2D), upd_ne _ _ nDL, upd_same]
    · rw [upd_ne _ _ (Ne.symm n12), upd_same]
    · rw [upd_same]
    · rw [upd_ne _ _ e4, upd_ne _ _ e3, upd_ne _ _ e1, upd_ne _ _ e2]; exact hM0 j o ho
  have hJA : AbidesI b2 J := fun k I1 W W' row hj hgr hrow => by
    obtain ⟨B1, q1, q2, q3, q4⟩ := hj
    have hB := (q3 i2 keep2).trans hB2s
    obtain ⟨r1, r2⟩ := q1.holeGrow (full2 _ _ _) hB hgr.os hgr.tape hgr.output hgr.size (fun c hc hcb => hgr.block c hc (fun e => hcb (hrow c e.symm)))
    exact ⟨B1, r1, q2.trans r2, q3, q4⟩
  have hJR : ∀ k I1 W, J k I1 W → (∀ b o, I1 b o → b < W.heap.size) ∧ RC W I1 cv (.sl (cs.map cClass)) ∧ W.heap[b1]? = some (.cells #[cv, mv] 25) := fun k I1 W hj => by
    obtain ⟨B1, q1, q2, q3, q4⟩ := hj
    refine ⟨q1.there, RC.mono q2 (RC.mono hE2 hcv), ?_⟩
    obtain ⟨b, e1, e2, -⟩ := q1.objs i1 _ (full1 _ _ _)
    rw [(q3 i1 keep1).trans hB1s] at e1; cases e1
    exact e2
  refine ⟨w.heap.size + 1, [{ target := .collected w.heap.size, args := #[] }], ws, { target := .fn (.func 57) #[.pointer (some ⟨b1, 0, none⟩), .pointer (some ⟨b2, 0, none⟩)], args := #[.func (.yield (w.heap.size + 1)) #[] #[]] }, ws, 57,
    #[.func (.yield (w.heap.size + 1)) #[] #[], .pointer (some ⟨b1, 0, none⟩), .pointer (some ⟨b2, 0, none⟩)], ws, ?_, by simp only [resolve, hfv]; simp [go_sem, Deferred.ofValue], ?_, ?_, fun _ => by decide, ?_⟩
  · rw [← hws, recL]; exact run_enterLoop_outer _ _ _ _ _
  · intro f' hf'
    simp [Target.leads] at hf'
    subst hf'; trivial
  · have := enters_of Try.func57 (by kernel_rfl) rfl #[.func (.yield (w.heap.size + 1)) #[] #[], .pointer (some ⟨b1, 0, none⟩), .pointer (some ⟨b2, 0, none⟩)] ws
    simp [invoke, go_sem, this]
  refine (up1_v 4 (by decide) (w.heap.size + 1) b1 b2 cv mv cs name hlen J Jx hJA hb12 hJR ?_ ws I ((hb2.block b2 hl2).trans hh2) hJ0).mono ?_
  · intro k I1 W j c vs hj hitem hc hvs
    obtain ⟨B1, q1, q2, q3, q4, qI⟩ := hj
    have hk : k < (upX cs (cs.length + 1) 0 name).length := (List.getElem?_eq_some_iff.1 hitem).1
    have hB2W : B1 i2 = .pointer (some ⟨b2, 0, none⟩) := (q3 i2 keep2).trans hB2s
    have hl2W : b2 < W.heap.size := (q1.low i2 _ (full2 _ _ _) b2 ⟨0, hB2W⟩).2
    obtain ⟨x2, hx2⟩ : ∃ x, W.heap[b2]? = some x := ⟨_, Array.getElem?_eq_getElem hl2W⟩
    have q5 : MR R.w0 R.I0 B1 I1 (fullM (M k) i1 i2 iD iL x1 x2 (rec' .ready none)) W := by
      have := q1.ofHole (full2 _ _ _) hB2W hx2
      unfold fullH at this
      rw [full_2 n2D n2L] at this
      exact this
    have hL1 : W.heap[w.heap.size + 1]? = some (rec' .ready none) := by
      obtain ⟨b, e1, e2, -⟩ := q1.objs iL _ (fullL _ _ _)
      rw [(q3 iL keepL).trans hBLs] at e1; cases e1
      exact e2
    have hL2 := hL1
    rw [recL] at hL2
    have hgk := hM k q4
    have hfold : (((#[p0, p1] : Array Tmp).zip (#[.int .i64 (k : Int), .agg vs.toArray] : Array Value)).foldl (fun tmps (p : Tmp × Value) => tmps.setIfInBounds p.1 p.2) a.tmps) = (a.tmps.setIfInBounds p0 (.int .i64 (k : Int))).setIfInBounds p1 (.agg vs.toArray) := by simp
    have htm : ∀ t, ((((#[p0, p1] : Array Tmp).zip (#[.int .i64 (k : Int), .agg vs.toArray] : Array Value)).foldl (fun tmps (p : Tmp × Value) => tmps.setIfInBounds p.1 p.2) a.tmps).getD t undef) = if t = p1 then .agg vs.toArray else if t = p0 then .int .i64 (k : Int) else a.tmps.getD t undef := fun t => by
      rw [hfold, Array.getD_eq_getD_getElem?, Array.getElem?_setIfInBounds]
      by_cases e1 : p1 = t
      · subst e1
        rw [if_pos rfl, if_pos (by simp; rw [hsz]; exact hpn.2.1), if_pos rfl]; rfl
      · rw [if_neg e1, if_neg (Ne.symm e1), Array.getElem?_setIfInBounds]
        by_cases e0 : p0 = t
        · subst e0
          rw [if_pos rfl, if_pos (by rw [hsz]; exact hpn.1), if_pos rfl]; rfl
        · rw [if_neg e0, if_neg (Ne.symm e0), Array.getD_eq_getD_getElem?]
    have hwf : (Lit.int .i64 (k : Int)).wf = true := by
      have := upX_len cs (cs.length + 1) 0 name
      exact wf_i64 (by omega) (by omega)
    have hsr : SR R' n [] ⟨upd (upd s0 p0 (.c (.int .i64 (k : Int)))) p1 (.agg (cClass c)), fullM (M k) i1 i2 iD iL x1 x2 (rec' .ready none)⟩ { tmps := ((#[p0, p1] : Array Tmp).zip (#[.int .i64 (k : Int), .agg vs.toArray] : Array Value)).foldl (fun tmps (p : Tmp × Value) => tmps.setIfInBounds p.1 p.2) a.tmps, defers := [] } W := by
      refine ⟨⟨B1, I1, q5, q2, q3, fun t => ?_⟩, fun t q hq => ?_, ?_, hnn, ?_, fun q hq => fullM_keep hgk hq⟩
      · rw [htm]
        show RV B1 W I1 (upd (upd s0 p0 (.c (.int .i64 (k : Int)))) p1 (.agg (cClass c)) t) _
        by_cases e1 : t = p1
        · subst e1; rw [upd_same, if_pos rfl]; exact ⟨vs, rfl, hvs⟩
        · rw [upd_ne _ _ e1, if_neg e1]
          by_cases e0 : t = p0
          · subst e0; rw [upd_same, if_pos rfl]; exact .int hwf
          · rw [upd_ne _ _ e0, if_neg e0]
            exact (hframe t).mono q2 fun q hq => q3 q (.inr (.inl ⟨t, hq⟩))
      · replace hq : q ∈ (upd (upd s0 p0 (A.c (.int .i64 (k : Int)))) p1 (.agg (cClass c)) t).ids := hq
        by_cases e1 : t = p1
        · subst e1; rw [upd_same] at hq; simp [A.ids] at hq
        · rw [upd_ne _ _ e1] at hq
          by_cases e0 : t = p0
          · subst e0; rw [upd_same] at hq; simp [A.ids] at hq
          · rw [upd_ne _ _ e0] at hq
            exact full_live (hgk.ids t q hq)
      · show (((#[p0, p1] : Array Tmp).zip (#[.int .i64 (k : Int), .agg vs.toArray] : Array Value)).foldl (fun tmps (p : Tmp × Value) => tmps.setIfInBounds p.1 p.2) a.tmps).size = n
        rw [hfold]; simp [hsz]
      · show [] = dfs (upd (upd s0 p0 (A.c (.int .i64 (k : Int)))) p1 (.agg (cClass c)) DID) ++ []
        have hn1 : DID ≠ p1 := fun e => by have h := hpn.2.1; rw [← e] at h; exact absurd h (Nat.not_lt.2 hnn)
        have hn0 : DID ≠ p0 := fun e => by have h := hpn.1; rw [← e] at h; exact absurd h (Nat.not_lt.2 hnn)
        rw [upd_ne _ _ hn1, upd_ne _ _ hn0, hsn DID hnn]; rfl
    refine ⟨fn, _, assign, body, run_yield (P := Try.prog) (args := #[.int .i64 (k : Int), .agg vs.toArray]) hL2 rfl, roundIn_of_wpIn hfn (wpIn_mono (hround R' (w.heap.size + 1) rfl k j c x1 x2 (rec' .ready none) qI hitem hc _ W hsr) ?_)⟩
    rintro e a1 W1 ⟨st1, hk1, hsr1⟩
    cases e with
    | normal =>
      obtain ⟨hi1, hbody⟩ := hk1
      obtain ⟨hx1, hsr2⟩ := hsr1.putRaw hi1 keepL hBLs (rec' .busy none)
      rw [recL] at hx1
      refine ⟨_, run_beginRound hx1 rfl, ?_⟩
      have hb := hbody (rec' .busy none) a1 _ hsr2
      rw [recL] at hb
      refine wpIn_mono hb ?_
      rintro e a3 V ⟨st2, hk2, hsr3⟩
      rw [← recL .busy none] at hk2
      -- a round has ended
      have fin : ∀ {τ : Nat → Nat} {m2 : Mem} (s' : LoopState) (pe : Option Code), GoodM R.keep s0 i1 i2 iD iL m2 → LeT τ kp' st2 ⟨fun _ => .top, fullM m2 i1 i2 iD iL x1 x2 (rec' .busy none)⟩ → V.heap[w.heap.size + 1]? = some (rec' .busy none) ∧
          ∃ B3 I3, MR R.w0 R.I0 B3 I3 (fullH m2 i1 i2 iD iL x1 (rec' s' pe)) (V.putObj (w.heap.size + 1) (rec' s' pe)) ∧ Ext ws (V.putObj (w.heap.size + 1) (rec' s' pe)) I I3 ∧ (∀ j, kp' j → B3 j = Bs j) ∧ (V.putObj (w.heap.size + 1) (rec' s' pe)).heap[b2]? = W.heap[b2]? := fun {τ m2} s' pe hgd hle => by
        have h5 := hsr3.leT (R := R') hle
        obtain ⟨h6, h7⟩ := h5.putRaw (fullL _ _ _) keepL hBLs (rec' s' pe)
        rw [show (⟨fun _ => .top, fullM m2 i1 i2 iD iL x1 x2 (rec' .busy none)⟩ : St).m = fullM m2 i1 i2 iD iL x1 x2 (rec' .busy none) from rfl, fullM_L] at h7
        obtain ⟨⟨B3, I3, r1, r2, r3, -⟩, -⟩ := h7
        have hB3 : B3 i2 = .pointer (some ⟨b2, 0, none⟩) := (r3 i2 keep2).trans hB2s
        obtain ⟨b, e1, e2, e3⟩ := r1.objs i2 _ (full2 _ _ _)
        rw [hB3] at e1; cases e1
        refine ⟨h6, B3, I3, ?_, r2, r3, e2.trans hx2.symm⟩
        have := r1.toHole (id := i2) (o := .raw x2) (full2 _ _ _) ⟨b2, hB3, e3, fun k => ⟨fun ⟨off, hk⟩ => by rw [hB3] at hk; cases hk; rfl, fun e => ⟨0, e ▸ hB3⟩⟩⟩
        unfold fullM at this
        rw [full_2 n2D n2L] at this
        exact this
      match e, hk2 with
      | .normal, ⟨hIn, τ, hle⟩ =>
        obtain ⟨h6, B3, I3, r1, r2, r3, r4⟩ := fin .ready none (hM (k + 1) hk) hle
        rw [recL] at h6
        refine ⟨_, _, run_endRound (P := Try.prog) none h6, .inl ⟨rfl, ⟨I3, B3, ?_, ?_, r3, hk, hIn⟩, ?_⟩⟩
        · rw [recL] at r1 ⊢; exact r1
        · rw [recL] at r2; exact r2
        · rw [recL] at r4; exact r4
      | .ret, ⟨τ, m2, hle, hgd, hK⟩ =>
        obtain ⟨h6, B3, I3, r1, r2, r3, r4⟩ := fin .done (some .ret) hgd hle
        rw [recL] at h6
        refine ⟨_, _, run_endRound (P := Try.prog) (some .ret) h6, .inr ⟨rfl, .ret, B3, I3, m2, ?_, ?_, r3, hgd, .inl ⟨rfl, hK⟩⟩⟩
        · rw [recL] at r1 ⊢; exact r1
        · rw [recL] at r2; exact r2
      | .exit id, ⟨τ, m2, hle, hgd, hK⟩ =>
        obtain ⟨h6, B3, I3, r1, r2, r3, r4⟩ := fin .done (some (.exit id)) hgd hle
        rw [recL] at h6
        refine ⟨_, _, run_endRound (P := Try.prog) (some (.exit id)) h6, .inr ⟨rfl, .exit id, B3, I3, m2, ?_, ?_, r3, hgd, .inr ⟨id, rfl, hK⟩⟩⟩
        · rw [recL] at r1 ⊢; exact r1
        · rw [recL] at r2; exact r2
    | _ => exact hk1.elim
  · -- the loop has ended
    have over : ∀ {W : World} {B1 : Nat → Value} {I1 : Nat → Nat → Prop} {m2 : Mem} {s' : LoopState} {pe : Option Code} (y : Obj), MR R.w0 R.I0 B1 I1 (fullH m2 i1 i2 iD iL x1 (rec' s' pe)) W → Ext ws W I I1 → (∀ j, kp' j → B1 j = Bs j) → GoodM R.keep s0 i1 i2 iD iL m2 →
        W.heap[w.heap.size + 1]? = some (rec' s' pe) ∧ SR R n ds ⟨doneS s0 w.heap.size iD, doneM m2 iD⟩ { a with defers := { target := .collected w.heap.size, args := #[] } :: a.defers } (W.putObj (w.heap.size + 1) y) := fun {W B1 I1 m2 s' pe} y r1 r2 r3 hgd => by
      have hBL := (r3 iL keepL).trans hBLs
      obtain ⟨b, e1, e2, -⟩ := r1.objs iL _ (fullL _ _ _)
      rw [hBL] at e1; cases e1
      obtain ⟨r4, r5⟩ := r1.putRaw (fullL _ _ _) hBL y
      rw [fullH_L] at r4
      exact ⟨e2, finish r4 (r2.trans r5) r3 hgd⟩
    rintro e V ⟨⟨v, rfl⟩, (⟨I1, B1, r1, r2, r3, r4, rI⟩ | ⟨c, B1, I1, m2, r1, r2, r3, hgd, hc⟩)⟩
    · obtain ⟨h6, h7⟩ := over (loopRec fn a.tmps #[p0, p1] assign body w.heap.size .exhausted none) r1 r2 r3 (hM _ (Nat.le_refl _))
      rw [recL] at h6
      exact ⟨none, _, run_endLoop (P := Try.prog) h6 (by simp), ⟨_, hdone rI _, h7⟩⟩
    · obtain ⟨h6, h7⟩ := over (loopRec fn a.tmps #[p0, p1] assign body w.heap.size .exhausted (some c)) r1 r2 r3 hgd
      rw [recL] at h6
      refine ⟨some c, _, run_endLoop (P := Try.prog) h6 (by simp), ?_⟩
      rcases hc with ⟨rfl, hK⟩ | ⟨id, rfl, hK⟩
      · exact wpIn_ret ⟨_, hK _, h7⟩
      · exact wpIn_exit ⟨_, hK _, h7⟩
theorem A1.ren_id (a : A1) : a.ren (fun j => j) = a := by cases a <;> rfl
theorem A.ren_id (a : A) : a.ren (fun j => j) = a := by
  have h1 : ∀ l : List A1, l.map (A1.ren fun j => j) = l := fun l => by
    rw [show (A1.ren fun j => j) = (fun a => a) from funext A1.ren_id]; simp
  cases a <;> simp [A.ren, h1]
theorem O.ren_id (o : O) : o.ren (fun j => j) = o := by
  cases o with
  | box ty cells => simp only [O.ren]; rw [show (A.ren fun j => j) = (fun a => a) from funext A.ren_id]; simp
  | rows ty xs => simp only [O.ren]; rw [show (A1.ren fun j => j) = (fun a => a) from funext A1.ren_id]; simp
  | map ents => simp only [O.ren]; simp [A1.ren_id]
  | _ => rfl
theorem Le.toT {kp : Nat → Prop} {st st' : St} (h : Le kp st st') : LeT (fun j => j) kp st st' := by
  refine ⟨fun t => ?_, fun j o ho => ?_, fun i j _ _ e => e, h.wf, fun j hj => ⟨rfl, h.kept j hj⟩, h.dd⟩
  · rw [A.ren_id]; exact h.s t
  · rw [O.ren_id]
    rcases h.m j with e | e
    · rw [e] at ho; cases ho
    · rw [← e]; exact ho
/-- A function's contract over plain data, out of its body that holds one loop over an iterator. -/
theorem ok_pureM {P : Go.Program} {T : Tab} (hT : T.Ok P) {f : FuncId} {fn : Func} {c : Code} {l : List ResultVar} {args : List A} {r : A} (hf : P.funcs[f]? = some fn) (hn : (fn.name == "runtime.NumGoroutine") = false) (hb : fn.body = some c) (hl : fn.results.toList = l) (hd : args.all (fun a => a.ids.isEmpty && !(match a with | .defs _ => true | _ => false)) = true) (hr : r.ids = []) (hle : decide (args.length ≤ fn.ntmps ∧ fn.ntmps ≤ DID) = true)
    (hW : ∀ R : Ref, R.keep = (fun _ => False) → W P R fn.ntmps [] ⟨entry args, Mem.nil⟩ c (fun e st => (e = .normal ∨ e = .ret) ∧ ((dfs (st.s DID) = [] ∧ resA T st l = some r) ∨
      ∃ b iD, dfs (st.s DID) = [{ target := .collected b, args := #[] }] ∧ st.s (DID + 1) = .pinP (.pointer (some ⟨b, 0, none⟩)) iD 0 ∧ st.m iD = some (.raw (.deferred (some []))) ∧ resA T ⟨st.s, upd st.m iD (some (.raw (.deferred none)))⟩ l = some r))) (m : Mem) : COk P f args m r := by
  refine ⟨enters_of hf hn hb, hr, fun m' _ => ?_⟩
  intro w0 I0 B I w vals hm hv
  have hlen := rvl_len hv
  have hids : ∀ a ∈ args, a.ids = [] := fun a ha => by have := List.all_eq_true.1 hd a ha; simp only [Bool.and_eq_true] at this; simpa using this.1
  have hdf : ∀ a ∈ args, ∀ l, a ≠ .defs l := fun a ha l e => by have := List.all_eq_true.1 hd a ha; subst e; simp at this
  obtain ⟨hle1, hle2⟩ := of_decide_eq_true hle
  refine (callsIn_wide (n := 5)).1 (callsIn_of_wp_marks hf hb trivial ?_ rfl)
  have h0 : SR ⟨w, I, w, I, B, fun _ => False⟩ fn.ntmps [] ⟨entry args, Mem.nil⟩ { tmps := vals.toArray ++ Array.replicate (fn.ntmps - vals.toArray.size) undef, defers := [] } w := by
    refine ⟨⟨B, I, ⟨Below.refl _ _, hm.globNow, fun _ _ h => h, fun _ _ h => .inl h, hm.there, fun _ _ h => absurd h (noneSome _), fun _ _ h => absurd h (noneSome _), fun _ _ _ _ h => absurd h (noneSome _), fun _ _ h => absurd h (noneSome _)⟩, Ext.refl _ _, fun _ _ => rfl, rvl_entry hv⟩, fun t j hj => ?_, by simp [hlen]; omega, hle2, by rw [show dfs ((⟨entry args, Mem.nil⟩ : St).s DID) = [] from entry_dfs hdf]; rfl, fun j hj => hj.elim⟩
    simp only [entry, List.getD_eq_getElem?_getD] at hj
    cases hx : args[t]? with
    | none => rw [hx] at hj; simp [A.ids] at hj
    | some a => rw [hx] at hj; simp [hids a (List.mem_of_getElem? hx)] at hj
  refine wpIn_mono (wpIn_wide.2 (hW _ rfl _ w h0)) ?_
  rintro e a' w' ⟨st', ⟨he, hres⟩, hsr⟩
  have post : LeavesInM Fence.wide 5 P fn a'.tmps (fun e w' => ∃ v I', e = .returned v ∧ Below w.heap.size w w' ∧ (∀ b o, I b o → I' b o) ∧ (∀ b o, I' b o → I b o ∨ (w.heap.size ≤ b ∧ b < w'.heap.size)) ∧ RV B w' I' r v) a'.defers .returning w' := by
    rcases hres with ⟨hdn, hres⟩ | ⟨b, iD, hdn, hpin, hiD, hres⟩
    · obtain ⟨⟨B', I', hm', hx', -, hs'⟩, -, -, -, hds, -⟩ := hsr
      obtain ⟨v, h1, h2, h3⟩ := resA_snd hT hm' hs' hl hres
      rw [hds, hdn]
      exact ⟨v, h1, v, I', rfl, hm'.below, hm'.base, fun b o h => (hm'.old b o h).imp id fun k => ⟨k, hm'.there b o h⟩, h2.mono (Ext.refl _ _) fun j hj => by rw [h3] at hj; simp at hj⟩
    · obtain ⟨⟨B', I', hm', hx', -, hs'⟩, -, -, -, hds, -⟩ := hsr
      rw [hds, hdn]
      have hp := hs' (DID + 1)
      rw [hpin] at hp
      obtain ⟨b0, hp1, hp2⟩ := hp
      cases hp2
      obtain ⟨hm2, hE2⟩ := hm'.putRaw hiD hp1 (.deferred none)
      obtain ⟨b1, e1, e2, -⟩ := hm'.objs iD _ hiD
      rw [hp1] at e1; cases e1
      obtain ⟨v, h1, h2, h3⟩ := resA_snd (st := ⟨st'.s, upd st'.m iD (some (.raw (.deferred none)))⟩) hT hm2 (fun t => (hs' t).mono hE2 fun _ _ => rfl) hl hres
      refine ⟨by simp, .inl ⟨_, _, rfl, run_takeDeferred e2, ?_⟩⟩
      exact ⟨v, h1, v, I', rfl, hm2.below, hm2.base, fun b o h => (hm2.old b o h).imp id fun k => ⟨k, hm2.there b o h⟩, h2.mono (Ext.refl _ _) fun j hj => by rw [h3] at hj; simp at hj⟩
  rcases he with rfl | rfl
  · exact post
  · exact post
/-- up hands back a closure over two new boxes. -/
theorem up_ok (xs : List (List C)) (mn : C) (name : ByteArray) (M : Mem) (i1 i2 : Nat) (h1 : M i1 = none) (h2 : M i2 = none) (h12 : i1 ≠ i2) : CallE Try.prog 33 [.agg [.sl xs, mn], .c (.str name)] M [] (.fn 57 [i1, i2])
    (upd (upd M i1 (some (.box 25 [.c (.sl xs), .c mn]))) i2 (some (.box 9 [.c (.str name)]))) := by
  have liv : ∀ j, (M j).isSome = true → (upd (upd M i1 (some (.box 25 [.c (.sl xs), .c mn]))) i2 (some (.box 9 [.c (.str name)])) j).isSome = true := fun j hj => by
    unfold upd; split
    · rfl
    · split
      · rfl
      · exact hj
  refine ⟨enters_of Try.func33 (by kernel_rfl) rfl, fun j hj => ?_, liv, fun hw j o ho i hi => ?_, fun w0 I0 B I w vals hm hv => ?_⟩
  · simp [A.ids] at hj
    rcases hj with rfl | rfl
    · rw [upd_ne _ _ h12, upd_same]; rfl
    · rw [upd_same]; rfl
  · unfold upd at ho
    split at ho
    · cases ho; simp [O.ids, A.ids] at hi
    · split at ho
      · cases ho; simp [O.ids, A.ids] at hi
      · exact liv i (hw j o ho i hi)
  · match vals, hv with
    | [v, u], ⟨hp, hn, _⟩ =>
      obtain ⟨us, rfl, hus⟩ := hp
      match us, hus with
      | [cv, mv], ⟨hc, hmn, _⟩ =>
        obtain rfl : u = .string name := (RC.toStr hn).1
        refine (up_any cv mv name w).mono ?_
        rintro e w' ⟨rfl, rfl⟩
        have hb1 : Below w.heap.size w (w.alloc (.cells #[cv, mv] 25)) := (Below.refl _ _).alloc (Nat.le_refl _) _
        have hx1 := hm.box (id := i1) h1 (ty := 25) (cells := [.c (.sl xs), .c mn]) (vs := [cv, mv]) ⟨⟨hc, (RC.one hc).1⟩, ⟨hmn, (RC.one hmn).1⟩, trivial⟩ (fun j hj => by simp [A.ids] at hj)
        have hE1 := hm.ext hb1 (fun _ _ k => k)
        have h2' : upd M i1 (some (O.box 25 [.c (.sl xs), .c mn])) i2 = none := by rw [upd_ne _ _ (Ne.symm h12)]; exact h2
        have hn1 := RC.mono hE1 hn
        have hx2 := hx1.box (id := i2) h2' (ty := 9) (cells := [.c (.str name)]) (vs := [.string name]) ⟨⟨hn1, rfl⟩, trivial⟩ (fun j hj => by simp [A.ids] at hj)
        have hb2 : Below (w.alloc (.cells #[cv, mv] 25)).heap.size (w.alloc (.cells #[cv, mv] 25)) ((w.alloc (.cells #[cv, mv] 25)).alloc (.cells #[.string name] 9)) := (Below.refl _ _).alloc (Nat.le_refl _) _
        have hsz : (w.alloc (.cells #[cv, mv] 25)).heap.size = w.heap.size + 1 := World.size_alloc _ _
        refine ⟨_, _, I, rfl, hx2, hE1.trans (hx1.ext hb2 (fun _ _ k => k)), fun j hj _ => ?_, ?_⟩
        · rw [upd_ne _ _ (fun e => by subst e; simp [h2] at hj), upd_ne _ _ (fun e => by subst e; simp [h1] at hj)]
        · show _ = Value.func _ _ _
          rw [hsz]
          simp only [List.map_cons, List.map_nil, upd_same]
          rw [upd_ne _ _ h12, upd_same]
end V
end Go.Proofs.Ytjciafpihdbedaa
end
section
/- classes.class: its two closures; what it answers. -/
namespace Go.Proofs.Ytjciafpihdbedaa
open Go.RowKit Go.Shelf

theorem round_region_below {P : Go.Program} {id l n : Nat} {Q : Exit → Act → World → Prop} {a : Act} {w : World} {ol : List Oper} (B : Nat) (hL : ¬ LetsOut Q) (hm : P.follows .mixedOrders = true) (hd : noDefer ol.toArray = true) (hB : Region.lexB .any ol.toArray = true)
    (h : wpQuiet P ol.toArray (fun w' => ∃ x : WB B w, w' = x.val) (fun a' => ∀ w', (∃ x : WB B w, w' = x.val) → Q .normal a' w') ol a) : (Code.region id ol.toArray true).wpIn (Fence.wide.inRound l) n P Q a w :=
  region_round_quiet (C := fun w' => ∃ x : WB B w, w' = x.val) hL hm hd hB ⟨⟨_, (Below.refl _ _).drew⟩, rfl⟩ h

/-- 'd.Name == above.Super' -/
theorem super_is (nm su : ByteArray) (fv mv : Value) (b : Nat) (name : ByteArray) (w : World) (hn : w.cell? ⟨b, 1, none⟩ = some (.string name)) :
    Calls Try.prog 46 #[.agg #[.string nm, .string su, fv, mv], .pointer (some ⟨b, 0, none⟩)] w fun e w' => e = .returned (.bool (nm.toList == name.toList)) ∧ Below w.heap.size w w' := by
  have hlt := cell_lt hn
  have hlt : b < w.heap.size := hlt
  have hne : ¬ b = w.heap.size := by omega
  go_enter Try.func46, Try.ntmps46
  go_wp2
  go_ret
  exact ⟨rfl, by go_grown⟩
/-- 'o.Name == m.Name' -/
theorem meth_is (ty nm : ByteArray) (pv bv : Value) (b : Nat) (name : ByteArray) (w : World) (hn : w.cell? ⟨b, 1, none⟩ = some (.string name)) :
    Calls Try.prog 49 #[.agg #[.string ty, .string nm, pv, bv], .pointer (some ⟨b, 0, none⟩)] w fun e w' => e = .returned (.bool (nm.toList == name.toList)) ∧ Below w.heap.size w w' := by
  have hlt := cell_lt hn
  have hlt : b < w.heap.size := hlt
  have hne : ¬ b = w.heap.size := by omega
  go_enter Try.func49, Try.ntmps49
  go_wp2
  go_ret
  exact ⟨rfl, by go_grown⟩
theorem containsSuper (d : Nat) (cv : Value) (l : List Class) (name : ByteArray) (b : Nat) (w : World) (hv : RClasses d w (· < w.heap.size) cv l) (hn : w.cell? ⟨b, 1, none⟩ = some (.string name)) :
    Calls Try.prog 24 #[cv, .func (.func 46) #[] #[.pointer (some ⟨b, 0, none⟩)]] w fun e w' => e = .returned (.bool (l.any (namedB name))) ∧ Below w.heap.size w w' := by
  refine containsClass_any (RClass d w (· < w.heap.size)) l (namedB name) _ b cv w (fun _ _ => by kernel_rfl) (fun cs x h => by obtain ⟨fv, mv, rfl, -⟩ := h; rfl) hv (fun W cs x hb _ hr => ?_)
  obtain ⟨fv, mv, rfl, -⟩ := hr
  exact super_is _ _ _ _ _ _ _ (next hb hn)
def methB (name : ByteArray) (m : Method) : Bool := m.name.toList == name.toList
theorem indexMeth (d : Nat) (mv : Value) (l : List Method) (name : ByteArray) (b : Nat) (w : World) (hv : RMethods d w (· < w.heap.size) mv l) (hn : w.cell? ⟨b, 1, none⟩ = some (.string name)) :
    Calls Try.prog 48 #[mv, .func (.func 49) #[] #[.pointer (some ⟨b, 0, none⟩)]] w fun e w' => e = .returned (.int .i64 (idxB (methB name) l)) ∧ Below w.heap.size w w' := by
  refine indexMethod_any (RMethod d w (· < w.heap.size)) l (methB name) _ b mv w (fun _ _ => by kernel_rfl) (fun cs x h => by obtain ⟨fv, mv, rfl, -⟩ := h; rfl) hv (fun W cs x hb _ hr => ?_)
  obtain ⟨fv, mv, rfl, -⟩ := hr
  exact meth_is _ _ _ _ _ _ _ (next hb hn)

/-- A method beside the one of its name in a class above. -/
def fitsB (m : Method) (above : List Method) : Bool := match above.find? (methB m.name) with | some o => alikeB m o | none => true
def topB (cs : List Class) (c : Class) (m : Nat) (x : Class) : Bool := !(decide (m = cs.length)) && (x.super.toList.isEmpty || cs.any (namedB x.super)) && c.methods.all fun y => fitsB y x.methods
/-- One class above (or the class itself). -/
def roundB (cs : List Class) (c : Class) (x : Nat × Nat) : Bool := match cs[x.2]? with | some k => topB cs c x.1 k | none => true
def fieldsAt (cs : List Class) (x : Nat × Nat) : List ByteArray := match cs[x.2]? with | some k => namesL k.fields | none => []
def fieldsUp (cs : List Class) (l : List (Nat × Nat)) : List ByteArray := l.flatMap (fieldsAt cs)
def okClassB (cs : List Class) (c : Class) : Bool :=
  (upX cs (cs.length + 1) 0 c.name).all (roundB cs c) && c.methods.all (fun m => onceB (namesL m.params)) && onceB (fieldsUp cs (upX cs (cs.length + 1) 0 c.name)) && onceB (c.methods.map (·.name))
theorem fieldsUp_snoc {cs : List Class} {pre : List (Nat × Nat)} {m j : Nat} {k : Class} (h : cs[j]? = some k) : fieldsUp cs (pre ++ [(m, j)]) = fieldsUp cs pre ++ namesL k.fields := by
  simp [fieldsUp, fieldsAt, h]
theorem roundB_at {cs : List Class} {c : Class} {m j : Nat} {k : Class} (h : cs[j]? = some k) : roundB cs c (m, j) = topB cs c m k := by simp [roundB, h]
theorem idx_find {α : Type} (p : α → Bool) : ∀ l : List α, (idxB p l < 0 → l.find? p = none) ∧ (0 ≤ idxB p l → l[(idxB p l).toNat]? = l.find? p)
  | [] => ⟨fun _ => rfl, fun h => by simp [idxB] at h⟩
  | x :: l => by
    have ih := idx_find p l
    have h2 := idxB_ge p l
    unfold idxB
    by_cases hp : p x = true
    · rw [if_pos hp, List.find?_cons_of_pos hp]
      exact ⟨fun h => by omega, fun _ => rfl⟩
    · rw [if_neg hp, List.find?_cons_of_neg hp]
      by_cases h1 : idxB p l = -1
      · rw [if_pos h1]
        exact ⟨fun _ => ih.1 (by omega), fun h => by omega⟩
      · rw [if_neg h1]
        refine ⟨fun h => by omega, fun _ => ?_⟩
        have e : (idxB p l + 1).toNat = (idxB p l).toNat + 1 := by omega
        rw [e, List.getElem?_cons_succ]
        exact ih.2 (by omega)
theorem at_new (W : World) (o : Obj) (k : Nat) (h : k = W.heap.size) : (W.alloc o).heap[k]? = some o := by subst h; exact heap_alloc_new W o
theorem at_old {W : World} {x : Obj} (o : Obj) {k : Nat} (h : W.heap[k]? = some x) : (W.alloc o).heap[k]? = some x := (Below.heap_alloc _ _ _ (Array.getElem?_eq_some_iff.1 h).1).trans h
/-- Six boxes, one behind the other. -/
theorem six_boxes (w : World) (o0 o1 o2 o3 o4 o5 : Obj) : 
    let W := (((((w.alloc o0).alloc o1).alloc o2).alloc o3).alloc o4).alloc o5
    W.heap.size = w.heap.size + 6 ∧ Below w.heap.size w W ∧ W.heap[w.heap.size]? = some o0 ∧ W.heap[w.heap.size + 1]? = some o1 ∧ W.heap[w.heap.size + 2]? = some o2 ∧ W.heap[w.heap.size + 3]? = some o3 ∧ W.heap[w.heap.size + 4]? = some o4 ∧ W.heap[w.heap.size + 5]? = some o5 := by
  refine ⟨by simp, ?_, ?_, ?_, ?_, ?_, ?_, ?_⟩
  · exact ((((((Below.refl w.heap.size w).alloc (Nat.le_refl _) o0).alloc (by simp) o1).alloc (by simp; omega) o2).alloc (by simp; omega) o3).alloc (by simp; omega) o4).alloc (by simp; omega) o5
  · exact at_old _ (at_old _ (at_old _ (at_old _ (at_old _ (at_new _ _ _ rfl)))))
  · exact at_old _ (at_old _ (at_old _ (at_old _ (at_new _ _ _ (by simp)))))
  · exact at_old _ (at_old _ (at_old _ (at_new _ _ _ (by simp))))
  · exact at_old _ (at_old _ (at_new _ _ _ (by simp)))
  · exact at_old _ (at_new _ _ _ (by simp))
  · exact at_new _ _ _ (by simp)
end Go.Proofs.Ytjciafpihdbedaa
end
section
/- classes.class over plain data. -/
set_option linter.unusedVariables false
set_option linter.unusedSimpArgs false
namespace Go.Proofs.Ytjciafpihdbedaa
namespace V
open Go.RowKit
set_option linter.unusedSimpArgs false
theorem fieldsUp_len {cs : List Class} (hS : SmallC cs) : ∀ l : List (Nat × Nat), (fieldsUp cs l).length ≤ l.length * 1048576
  | [] => by simp [fieldsUp]
  | x :: l => by
    have ih := fieldsUp_len hS l
    unfold fieldsUp at *
    rw [List.flatMap_cons, List.length_append, List.length_cons]
    have : (fieldsAt cs x).length ≤ 1048576 := by
      unfold fieldsAt
      cases h : cs[x.2]? with
      | none => simp
      | some k => have := (hS k (List.mem_of_getElem? h)).1; simpa [namesL] using this
    omega
theorem sn_top {n : Nat} : ∀ t, n ≤ t → (fun _ : Nat => A.top) t = A.top := fun _ _ => rfl
theorem sn_upd {n k : Nat} {s : Nat → A} {x : A} (h : ∀ t, n ≤ t → s t = A.top) (hk : k < n) : ∀ t, n ≤ t → upd s k x t = A.top := fun t ht => by
  rw [upd_ne _ _ (by omega)]; exact h t ht
theorem mle_some {m m' : Mem} (h : MLe m m') : ∀ j o, m' j = some o → m j = some o := fun j o ho => by
  rcases h j with e | e
  · rw [e] at ho; cases ho
  · rw [← e]; exact ho
/-- The memory between two rounds. -/
def memC (cs : List Class) (mn : C) (c : Class) (b : Bool) (l : List ByteArray) : Mem :=
  upd (upd (upd (upd (upd Mem.nil 2 (some (.box 25 [.c (.sl (cs.map cClass)), .c mn]))) 3 (some (.box 37 ((cClass c).map A.c)))) 4 (some (.box 4 [.c (.bool b)]))) 5 (some (.box 30 [.own 50]))) 50 (some (.arr 9 1 (l.map cStr)))
def slotC : Nat → A := upd (upd (upd (upd (upd (fun _ => .top) 2 (.ptr 2 0)) 3 (.ptr 3 0)) 4 (.ptr 4 0)) 5 (.ptr 5 0)) 6 .nil
theorem slotC_ids : ∀ t, ∀ j ∈ (slotC t).ids, j ≤ 5 := by
  intro t j hj
  unfold slotC upd at hj
  repeat' (split at hj)
  all_goals (simp [A.ids] at hj)
  all_goals omega
theorem fits_of {y : Method} {l : List Method} : (idxB (methB y.name) l < 0 → fitsB y l = true) ∧ ∀ o, l[(idxB (methB y.name) l).toNat]? = some o → 0 ≤ idxB (methB y.name) l → fitsB y l = alikeB y o := by
  obtain ⟨h1, h2⟩ := idx_find (methB y.name) l
  refine ⟨fun h => ?_, fun o ho h => ?_⟩
  · unfold fitsB; rw [h1 h]
  · unfold fitsB; rw [← h2 h, ho]
set_option maxHeartbeats 4000000 in
theorem class_ok (cs : List Class) (mn : C) (c : Class) (hS : SmallC cs) (hlen : cs.length ≤ 16) (hc : c ∈ cs) (m : Mem) : COk Try.prog 26 [.agg [.sl (cs.map cClass), mn], .agg (cClass c)] m (.c (.bool (okClassB cs c))) := by
  refine (ok_pureM tab_ok Try.func26 (by kernel_rfl) rfl rfl (by rfl) (by rfl) (by rfl) (fun R hkeep => ?_) m)
  repeat (first | refine W.seq ?_ | refine W.block ?_ | refine W.skip ?_ | refine W.exit ?_ | refine W.region tab_ok 0 (by decide) (exec_run (by simp only [exec, stepQ, wantA, yieldA, kind, qv, qv1, qv2, stO, adrId, dataC, replC, eqNil, binNil, shiftInt, A.down, A1.up, downs, toR, ev, putS, rowO, ofConst, cellsA, cellsC, asC, asCs, ld, ldR, bin, binInt, binStr, binBool, sliceOf, bndOf, repl, fillC, zeroC, chunks, ptrIds, tabs, upd_app, mem_nil_app, entry_zero, entry_succ, entry_nil, top_app, maxStr, ByteArray.size, A.kill, O.kill, killS_app, killM_app, Nat.reduceAdd, Nat.reduceLeDiff, Nat.reduceEqDiff, Nat.reduceMul, Int.reduceToNat, reduceIte, wf_i64, Int.reduceLE, Int.reduceNeg, beq_self_eq_true, decide_true, decide_false, ybeq_some, ybeq_none, beqT, beqF, empty_toList, exs, cClass]; rfl)) ?_)
  refine W.newRowBox true 5 0 50 9 1 rfl rfl rfl ?_
  repeat (first | refine W.seq ?_ | refine W.block ?_ | refine W.skip ?_ | refine W.exit ?_ | refine W.region tab_ok 0 (by decide) (exec_run (by simp only [exec, stepQ, wantA, yieldA, kind, qv, qv1, qv2, stO, adrId, dataC, replC, eqNil, binNil, shiftInt, A.down, A1.up, downs, toR, ev, putS, rowO, ofConst, cellsA, cellsC, asC, asCs, ld, ldR, bin, binInt, binStr, binBool, sliceOf, bndOf, repl, fillC, zeroC, chunks, ptrIds, tabs, upd_app, mem_nil_app, entry_zero, entry_succ, entry_nil, top_app, maxStr, ByteArray.size, A.kill, O.kill, killS_app, killM_app, Nat.reduceAdd, Nat.reduceLeDiff, Nat.reduceEqDiff, Nat.reduceMul, Int.reduceToNat, reduceIte, wf_i64, Int.reduceLE, Int.reduceNeg, beq_self_eq_true, decide_true, decide_false, ybeq_some, ybeq_none, beqT, beqF, empty_toList, exs, cClass]; rfl)) ?_)
  refine W.regionK tab_ok 0 (by decide) ?_
  refine runk_split 3 (by simp only [exec, stepQ, wantA, yieldA, kind, qv, qv1, qv2, stO, adrId, dataC, replC, eqNil, binNil, shiftInt, A.down, A1.up, downs, toR, ev, putS, rowO, ofConst, cellsA, cellsC, asC, asCs, ld, ldR, bin, binInt, binStr, binBool, sliceOf, bndOf, repl, fillC, zeroC, chunks, ptrIds, tabs, upd_app, mem_nil_app, entry_zero, entry_succ, entry_nil, top_app, maxStr, ByteArray.size, A.kill, O.kill, killS_app, killM_app, Nat.reduceAdd, Nat.reduceLeDiff, Nat.reduceEqDiff, Nat.reduceMul, Int.reduceToNat, reduceIte, wf_i64, Int.reduceLE, Int.reduceNeg, beq_self_eq_true, decide_true, decide_false, ybeq_some, ybeq_none, beqT, beqF, empty_toList, exs, cClass]; rfl) ?_
  refine runk_call0 rfl rfl rfl rfl rfl rfl (by simp) (cvs_cons cv_refl (cvs_cons cv_refl cvs_nil)) (up_ok (cs.map cClass) mn c.name _ 1000 1001 rfl rfl (by decide)) ?_
  refine runk_exec (by simp only [exec, stepQ, wantA, yieldA, kind, qv, qv1, qv2, stO, adrId, dataC, replC, eqNil, binNil, shiftInt, A.down, A1.up, downs, toR, ev, putS, rowO, ofConst, cellsA, cellsC, asC, asCs, ld, ldR, bin, binInt, binStr, binBool, sliceOf, bndOf, repl, fillC, zeroC, chunks, ptrIds, tabs, upd_app, mem_nil_app, entry_zero, entry_succ, entry_nil, top_app, maxStr, ByteArray.size, A.kill, O.kill, killS_app, killM_app, Nat.reduceAdd, Nat.reduceLeDiff, Nat.reduceEqDiff, Nat.reduceMul, Int.reduceToNat, reduceIte, wf_i64, Int.reduceLE, Int.reduceNeg, beq_self_eq_true, decide_true, decide_false, ybeq_some, ybeq_none, beqT, beqF, empty_toList, exs]; rfl) ?_
  repeat (first | refine W.seq ?_ | refine W.block ?_ | refine W.skip ?_ | refine W.exit ?_ | refine W.region tab_ok 0 (by decide) (exec_run (by simp only [exec, stepQ, wantA, yieldA, kind, qv, qv1, qv2, stO, adrId, dataC, replC, eqNil, binNil, shiftInt, A.down, A1.up, downs, toR, ev, putS, rowO, ofConst, cellsA, cellsC, asC, asCs, ld, ldR, bin, binInt, binStr, binBool, sliceOf, bndOf, repl, fillC, zeroC, chunks, ptrIds, tabs, upd_app, mem_nil_app, entry_zero, entry_succ, entry_nil, top_app, maxStr, ByteArray.size, A.kill, O.kill, killS_app, killM_app, Nat.reduceAdd, Nat.reduceLeDiff, Nat.reduceEqDiff, Nat.reduceMul, Int.reduceToNat, reduceIte, wf_i64, Int.reduceLE, Int.reduceNeg, beq_self_eq_true, decide_true, decide_false, ybeq_some, ybeq_none, beqT, beqF, empty_toList, exs]; rfl)) ?_)
  refine W.rangeUp cs c.name mn 1000 1001 1002 1003 slotC (fun k => memC cs mn c false (fieldsUp cs ((upX cs (cs.length + 1) 0 c.name).take k))) (fun k => ((upX cs (cs.length + 1) 0 c.name).take k).all (roundB cs c) = true) (by omega) rfl rfl rfl (by decide) rfl rfl (by decide) rfl rfl ?sle ?sn ?m0 ?good ?round ?done
  case sle =>
    unfold slotC
    (repeat (first | exact sle_top _ | exact sle_refl _ | refine sle_upd ?_ (by first | rfl | (simp only [upd_app, entry_zero, entry_succ, Nat.reduceEqDiff, reduceIte]; done))))
  case sn =>
    unfold slotC
    (repeat (first | exact sn_top | refine sn_upd ?_ (by decide)))
  case m0 =>
    refine mle_some ?_
    unfold memC
    (repeat (first | exact mle_nil _ | exact mle_refl _ | refine mle_upd ?_ (by first | rfl | (simp only [upd_app, killM_app, Nat.reduceEqDiff, reduceIte, List.take_zero, fieldsUp, List.flatMap_nil, List.map_nil, cClass, List.map_cons]; done))))
  case good =>
    intro k hk
    refine ⟨?_, rfl, rfl, rfl, rfl, ?_, kept_not hkeep⟩
    · unfold memC
      show MWf _ _
      (repeat (first | exact mwf_nil _ | refine mwf_upd ?_ (by simp [A.ids, O.ids, upd_app])))
    · show SWf _ _
      unfold memC slotC
      (repeat (first | exact swf_top _ | refine swf_upd ?_ (by simp [A.ids, upd_app])))
  case round =>
    intro R' l hk' k j kc x1 x2 xL hInv hitem hkc
    repeat (first | refine WI.seq ?_ | refine WI.block ?_ | refine WI.skip ?_ | refine WI.exit ?_ | refine WI.region tab_ok 0 (by decide) (by kernel_rfl) (exec_run (by simp only [exec, stepQ, wantA, yieldA, kind, qv, qv1, qv2, stO, adrId, dataC, replC, eqNil, binNil, shiftInt, A.down, A1.up, downs, toR, ev, putS, rowO, ofConst, cellsA, cellsC, asC, asCs, ld, ldR, bin, binInt, binStr, binBool, sliceOf, bndOf, repl, fillC, zeroC, chunks, ptrIds, tabs, upd_app, mem_nil_app, entry_zero, entry_succ, entry_nil, top_app, maxStr, ByteArray.size, A.kill, O.kill, killS_app, killM_app, Nat.reduceAdd, Nat.reduceLeDiff, Nat.reduceEqDiff, Nat.reduceMul, Int.reduceToNat, reduceIte, wf_i64, Int.reduceLE, Int.reduceNeg, beq_self_eq_true, decide_true, decide_false, ybeq_some, ybeq_none, beqT, beqF, empty_toList, exs, fullM, memC, slotC, cClass]; rfl)) ?_)
    refine ⟨rfl, fun xL' => ?_⟩
    have hkl : k < 17 + 1 := by
      have := (List.getElem?_eq_some_iff.1 hitem).1
      have := upX_len cs (cs.length + 1) 0 c.name
      omega
    have hkU : k < (upX cs (cs.length + 1) 0 c.name).length := (List.getElem?_eq_some_iff.1 hitem).1
    -- a round that says no
    have bad : roundB cs c (k, j) = false → okClassB cs c = false := fun h => by
      unfold okClassB
      have : (upX cs (cs.length + 1) 0 c.name).all (roundB cs c) = false := by
        rw [List.all_eq_false]
        exact ⟨(k, j), List.mem_of_getElem? hitem, by rw [h]; decide⟩
      rw [this]; simp
    have hG : ∀ l, GoodM R.keep slotC 1000 1001 1002 1003 (memC cs mn c false l) := fun l => by
      refine ⟨?_, rfl, rfl, rfl, rfl, ?_, kept_not hkeep⟩
      · unfold memC
        show MWf _ _
        (repeat (first | exact mwf_nil _ | refine mwf_upd ?_ (by simp [A.ids, O.ids, upd_app])))
      · show SWf _ _
        unfold memC slotC
        (repeat (first | exact swf_top _ | refine swf_upd ?_ (by simp [A.ids, upd_app])))
    by_cases hkn : k = cs.length
    · subst hkn
      repeat (first | refine WI.seq ?_ | refine WI.block ?_ | refine WI.skip ?_ | refine WI.exit ?_ | refine WI.region tab_ok 0 (by decide) (by kernel_rfl) (exec_run (by simp only [exec, stepQ, wantA, yieldA, kind, qv, qv1, qv2, stO, adrId, dataC, replC, eqNil, binNil, shiftInt, A.down, A1.up, downs, toR, ev, putS, rowO, ofConst, cellsA, cellsC, asC, asCs, ld, ldR, bin, binInt, binStr, binBool, sliceOf, bndOf, repl, fillC, zeroC, chunks, ptrIds, tabs, upd_app, mem_nil_app, entry_zero, entry_succ, entry_nil, top_app, maxStr, ByteArray.size, A.kill, O.kill, killS_app, killM_app, Nat.reduceAdd, Nat.reduceLeDiff, Nat.reduceEqDiff, Nat.reduceMul, Int.reduceToNat, reduceIte, wf_i64, Int.reduceLE, Int.reduceNeg, beq_self_eq_true, decide_true, decide_false, ybeq_some, ybeq_none, beqT, beqF, empty_toList, exs, fullM, memC, slotC, cClass]; rfl)) ?_)
      refine WI.cond rfl (fun _ => ?_) (fun h => by cases h)
      repeat (first | refine WI.seq ?_ | refine WI.block ?_ | refine WI.skip ?_ | refine WI.exit ?_ | refine WI.region tab_ok 0 (by decide) (by kernel_rfl) (exec_run (by simp only [exec, stepQ, wantA, yieldA, kind, qv, qv1, qv2, stO, adrId, dataC, replC, eqNil, binNil, shiftInt, A.down, A1.up, downs, toR, ev, putS, rowO, ofConst, cellsA, cellsC, asC, asCs, ld, ldR, bin, binInt, binStr, binBool, sliceOf, bndOf, repl, fillC, zeroC, chunks, ptrIds, tabs, upd_app, mem_nil_app, entry_zero, entry_succ, entry_nil, top_app, maxStr, ByteArray.size, A.kill, O.kill, killS_app, killM_app, Nat.reduceAdd, Nat.reduceLeDiff, Nat.reduceEqDiff, Nat.reduceMul, Int.reduceToNat, reduceIte, wf_i64, Int.reduceLE, Int.reduceNeg, beq_self_eq_true, decide_true, decide_false, ybeq_some, ybeq_none, beqT, beqF, empty_toList, exs, fullM, memC, slotC, cClass]; rfl)) ?_)
      refine WI.ret ⟨fun j => j, memC cs mn c false (fieldsUp cs ((upX cs (cs.length + 1) 0 c.name).take cs.length)), Le.toT ?_, hG _, fun b => ⟨.inr rfl, .inr ⟨b, 1002, rfl, rfl, rfl, ?_⟩⟩⟩
      · simp only [fullM, memC]
        refine le_mk ?sle ?mle ?swf ?mwf (fun j hj => fullM_keep (hG _) hj) (by rfl)
        case swf => repeat (first | exact swf_top _ | refine swf_upd ?_ (by simp [A.ids, upd_app, cClass]))
        case mwf => repeat (first | exact mwf_nil _ | refine mwf_upd ?_ (by simp [A.ids, O.ids, upd_app, cClass]))
        case mle => repeat (first | exact mle_nil _ | exact mle_refl _ | refine mle_upd ?_ (by first | rfl | (simp only [upd_app, killM_app, O.kill, A.kill, Nat.reduceEqDiff, reduceIte, Option.map_some, Option.map_none, List.map_cons, List.map_nil, cClass]; done)))
        case sle => repeat (first | exact sle_top _ | exact sle_refl _ | refine sle_upd ?_ (by first | rfl | (simp only [upd_app, killS_app, A.kill, entry_zero, entry_succ, Nat.reduceEqDiff, reduceIte, cClass]; done)))
      · simp only [Try.f26, resA, resOne, toT, fin, doneS, doneM, DID, exec, stepQ, wantA, yieldA, kind, qv, qv1, qv2, stO, adrId, dataC, replC, eqNil, binNil, shiftInt, A.down, A1.up, downs, toR, ev, putS, rowO, ofConst, cellsA, cellsC, asC, asCs, ld, ldR, bin, binInt, binStr, binBool, sliceOf, bndOf, repl, fillC, zeroC, chunks, ptrIds, tabs, upd_app, mem_nil_app, entry_zero, entry_succ, entry_nil, top_app, maxStr, ByteArray.size, A.kill, O.kill, killS_app, killM_app, Nat.reduceAdd, Nat.reduceLeDiff, Nat.reduceEqDiff, Nat.reduceMul, Int.reduceToNat, reduceIte, wf_i64, Int.reduceLE, Int.reduceNeg, beq_self_eq_true, decide_true, decide_false, ybeq_some, ybeq_none, beqT, beqF, empty_toList, exs, memC, slotC]
        rw [bad (by rw [roundB_at hkc]; simp [topB])]
    have hkn' : decide ((k : Int) = (cs.length : Int)) = false := by simp; omega
    have hF : List.map cStr (fieldsUp cs ((upX cs (cs.length + 1) 0 c.name).take k)) ++ List.map cStr (namesL kc.fields) = List.map cStr (fieldsUp cs ((upX cs (cs.length + 1) 0 c.name).take (k + 1))) := by
      rw [List.take_add_one, hitem]
      simp only [Option.toList_some]
      rw [fieldsUp_snoc hkc, List.map_append]
    have hn50 : ¬ R'.keep 50 := fun h => by
      rw [hk', hkeep] at h
      rcases h with h | ⟨t, h⟩ | h
      · exact h
      · have := slotC_ids t 50 h; omega
      · omega
    -- a method that does not fit
    have bad2 : ∀ y ∈ c.methods, fitsB y kc.methods = false → okClassB cs c = false := fun y hy h => bad (by
      rw [roundB_at hkc]
      unfold topB
      have : (c.methods.all fun y => fitsB y kc.methods) = false := by
        rw [List.all_eq_false]
        exact ⟨y, hy, by rw [h]; decide⟩
      rw [this]; simp)
    have hkeepL : ∀ j, R'.keep j → (upd (fullM (memC cs mn c false (fieldsUp cs ((upX cs (cs.length + 1) 0 c.name).take (k + 1)))) 1000 1001 1002 1003 x1 x2 xL') 8 (some (.box 37 ((cClass kc).map A.c))) j).isSome = true := fun j hj => by
      rw [hk'] at hj
      unfold upd
      split
      · rfl
      · exact fullM_keep (hG _) hj
    have goodR : (kc.super.toList.isEmpty || cs.any (namedB kc.super)) = true → (c.methods.all fun y => fitsB y kc.methods) = true → ((upX cs (cs.length + 1) 0 c.name).take (k + 1)).all (roundB cs c) = true := fun h1 h2 => by
      rw [List.take_add_one, hitem, List.all_append, hInv]
      simp only [Option.toList_some, List.all_cons, List.all_nil, Bool.and_true, Bool.true_and]
      rw [roundB_at hkc]
      unfold topB
      rw [h1, h2]
      simp; exact hkn
    by_cases hse : kc.super.toList = []
    · have hse' : (kc.super.toList == []) = true := by simp [hse]
      have good := goodR (by rw [hse]; rfl)
      repeat (first | refine WI.seq ?_ | refine WI.block ?_ | refine WI.skip ?_ | refine WI.exit ?_ | refine WI.region tab_ok 0 (by decide) (by kernel_rfl) (exec_run (by simp only [exec, stepQ, wantA, yieldA, kind, qv, qv1, qv2, stO, adrId, dataC, replC, eqNil, binNil, shiftInt, A.down, A1.up, downs, toR, ev, putS, rowO, ofConst, cellsA, cellsC, asC, asCs, ld, ldR, bin, binInt, binStr, binBool, sliceOf, bndOf, repl, fillC, zeroC, chunks, ptrIds, tabs, upd_app, mem_nil_app, entry_zero, entry_succ, entry_nil, top_app, maxStr, ByteArray.size, A.kill, O.kill, killS_app, killM_app, Nat.reduceAdd, Nat.reduceLeDiff, Nat.reduceEqDiff, Nat.reduceMul, Int.reduceToNat, reduceIte, wf_i64, Int.reduceLE, Int.reduceNeg, beq_self_eq_true, decide_true, decide_false, ybeq_some, ybeq_none, beqT, beqF, empty_toList, exs, fullM, memC, slotC, cClass, hkn', hse']; rfl)) ?_)
      refine WI.cond rfl (fun h => by cases h) (fun _ => ?_)
      repeat (first | refine WI.seq ?_ | refine WI.block ?_ | refine WI.skip ?_ | refine WI.exit ?_ | refine WI.region tab_ok 0 (by decide) (by kernel_rfl) (exec_run (by simp only [exec, stepQ, wantA, yieldA, kind, qv, qv1, qv2, stO, adrId, dataC, replC, eqNil, binNil, shiftInt, A.down, A1.up, downs, toR, ev, putS, rowO, ofConst, cellsA, cellsC, asC, asCs, ld, ldR, bin, binInt, binStr, binBool, sliceOf, bndOf, repl, fillC, zeroC, chunks, ptrIds, tabs, upd_app, mem_nil_app, entry_zero, entry_succ, entry_nil, top_app, maxStr, ByteArray.size, A.kill, O.kill, killS_app, killM_app, Nat.reduceAdd, Nat.reduceLeDiff, Nat.reduceEqDiff, Nat.reduceMul, Int.reduceToNat, reduceIte, wf_i64, Int.reduceLE, Int.reduceNeg, beq_self_eq_true, decide_true, decide_false, ybeq_some, ybeq_none, beqT, beqF, empty_toList, exs, fullM, memC, slotC, cClass]; rfl)) ?_)
      refine WI.regionDK tab_ok 0 follows_mixed (by kernel_rfl) (by decide) (by kernel_rfl) ?_
      refine runk_split 3 (by simp only [exec, stepQ, wantA, yieldA, kind, qv, qv1, qv2, stO, adrId, dataC, replC, eqNil, binNil, shiftInt, A.down, A1.up, downs, toR, ev, putS, rowO, ofConst, cellsA, cellsC, asC, asCs, ld, ldR, bin, binInt, binStr, binBool, sliceOf, bndOf, repl, fillC, zeroC, chunks, ptrIds, tabs, upd_app, mem_nil_app, entry_zero, entry_succ, entry_nil, top_app, maxStr, ByteArray.size, A.kill, O.kill, killS_app, killM_app, Nat.reduceAdd, Nat.reduceLeDiff, Nat.reduceEqDiff, Nat.reduceMul, Int.reduceToNat, reduceIte, wf_i64, Int.reduceLE, Int.reduceNeg, beq_self_eq_true, decide_true, decide_false, ybeq_some, ybeq_none, beqT, beqF, empty_toList, exs, fullM, memC, slotC, cClass]; rfl) ?_
      refine runk_call rfl rfl rfl rfl rfl (by simp) (cvs_cons cv_refl cvs_nil) (namesS_ok kc.fields (by have := (hS kc (List.mem_of_getElem? hkc)).1; omega) _) ?_
      refine runk_split 0 (by simp only [exec, stepQ, wantA, yieldA, kind, qv, qv1, qv2, stO, adrId, dataC, replC, eqNil, binNil, shiftInt, A.down, A1.up, downs, toR, ev, putS, rowO, ofConst, cellsA, cellsC, asC, asCs, ld, ldR, bin, binInt, binStr, binBool, sliceOf, bndOf, repl, fillC, zeroC, chunks, ptrIds, tabs, upd_app, mem_nil_app, entry_zero, entry_succ, entry_nil, top_app, maxStr, ByteArray.size, A.kill, O.kill, killS_app, killM_app, Nat.reduceAdd, Nat.reduceLeDiff, Nat.reduceEqDiff, Nat.reduceMul, Int.reduceToNat, reduceIte, wf_i64, Int.reduceLE, Int.reduceNeg, beq_self_eq_true, decide_true, decide_false, ybeq_some, ybeq_none, beqT, beqF, empty_toList, exs, fullM, memC, slotC]; rfl) ?_
      refine runk_append tab_ok 50 rfl rfl rfl rfl rfl rfl rfl rfl (by first | rfl | (simp only [exec, stepQ, wantA, yieldA, kind, qv, qv1, qv2, stO, adrId, dataC, replC, eqNil, binNil, shiftInt, A.down, A1.up, downs, toR, ev, putS, rowO, ofConst, cellsA, cellsC, asC, asCs, ld, ldR, bin, binInt, binStr, binBool, sliceOf, bndOf, repl, fillC, zeroC, chunks, ptrIds, tabs, upd_app, mem_nil_app, entry_zero, entry_succ, entry_nil, top_app, maxStr, ByteArray.size, A.kill, O.kill, killS_app, killM_app, Nat.reduceAdd, Nat.reduceLeDiff, Nat.reduceEqDiff, Nat.reduceMul, Int.reduceToNat, reduceIte, wf_i64, Int.reduceLE, Int.reduceNeg, beq_self_eq_true, decide_true, decide_false, ybeq_some, ybeq_none, beqT, beqF, empty_toList, exs, fullM, memC, slotC]; rfl)) rfl rfl rfl rfl hn50 (by simp [cStr]) (by have h1 := (hS kc (List.mem_of_getElem? hkc)).1; have h2 := fieldsUp_len hS ((upX cs (cs.length + 1) 0 c.name).take k); have h3 := List.length_take_le k (upX cs (cs.length + 1) 0 c.name); simp only [List.length_map, namesL]; omega) (by decide) ?_
      refine runk_exec (by simp only [exec, stepQ, wantA, yieldA, kind, qv, qv1, qv2, stO, adrId, dataC, replC, eqNil, binNil, shiftInt, A.down, A1.up, downs, toR, ev, putS, rowO, ofConst, cellsA, cellsC, asC, asCs, ld, ldR, bin, binInt, binStr, binBool, sliceOf, bndOf, repl, fillC, zeroC, chunks, ptrIds, tabs, upd_app, mem_nil_app, entry_zero, entry_succ, entry_nil, top_app, maxStr, ByteArray.size, A.kill, O.kill, killS_app, killM_app, Nat.reduceAdd, Nat.reduceLeDiff, Nat.reduceEqDiff, Nat.reduceMul, Int.reduceToNat, reduceIte, wf_i64, Int.reduceLE, Int.reduceNeg, beq_self_eq_true, decide_true, decide_false, ybeq_some, ybeq_none, beqT, beqF, empty_toList, exs, fullM, memC, slotC]; rfl) ?_
      repeat (first | refine WI.seq ?_ | refine WI.block ?_ | refine WI.skip ?_ | refine WI.exit ?_ | refine WI.region tab_ok 0 (by decide) (by kernel_rfl) (exec_run (by simp only [exec, stepQ, wantA, yieldA, kind, qv, qv1, qv2, stO, adrId, dataC, replC, eqNil, binNil, shiftInt, A.down, A1.up, downs, toR, ev, putS, rowO, ofConst, cellsA, cellsC, asC, asCs, ld, ldR, bin, binInt, binStr, binBool, sliceOf, bndOf, repl, fillC, zeroC, chunks, ptrIds, tabs, upd_app, mem_nil_app, entry_zero, entry_succ, entry_nil, top_app, maxStr, ByteArray.size, A.kill, O.kill, killS_app, killM_app, Nat.reduceAdd, Nat.reduceLeDiff, Nat.reduceEqDiff, Nat.reduceMul, Int.reduceToNat, reduceIte, wf_i64, Int.reduceLE, Int.reduceNeg, beq_self_eq_true, decide_true, decide_false, ybeq_some, ybeq_none, beqT, beqF, empty_toList, exs, fullM, memC, slotC, cClass]; rfl)) ?_)
      refine WI.loop (ι := Nat) (fun q => ⟨upd (upd (upd (upd (upd (fun _ => .top) 4 (.ptr 4 0)) 8 (.ptr 8 0)) 43 (.c (.sl (c.methods.map cMethod)))) 44 (.c (.int .i64 c.methods.length))) 45 (.c (.int .i64 q)),
        upd (fullM (memC cs mn c false (fieldsUp cs ((upX cs (cs.length + 1) 0 c.name).take (k + 1)))) 1000 1001 1002 1003 x1 x2 xL') 8 (some (.box 37 ((cClass kc).map A.c)))⟩) (fun q => q ≤ c.methods.length ∧ (c.methods.take q).all (fun y => fitsB y kc.methods) = true) (fun q => c.methods.length - q) 0 ?start ⟨Nat.zero_le _, rfl⟩ ?round
      case start =>
        simp only [fullM, memC]
        refine le_mk ?sle ?mle ?swf ?mwf hkeepL (by rfl)
        case swf => repeat (first | exact swf_top _ | refine swf_upd ?_ (by simp [A.ids, upd_app, cClass, hF, fullM, memC]))
        case mwf => repeat (first | exact mwf_nil _ | refine mwf_upd ?_ (by simp [A.ids, O.ids, upd_app, cClass, hF, fullM, memC]))
        case mle => repeat (first | exact mle_nil _ | exact mle_refl _ | refine mle_upd ?_ (by first | rfl | (simp only [upd_app, killM_app, O.kill, A.kill, Nat.reduceEqDiff, reduceIte, Option.map_some, Option.map_none, List.map_cons, List.map_nil, cClass, hF, fullM, memC]; done)))
        case sle => repeat (first | exact sle_top _ | exact sle_refl _ | refine sle_upd ?_ (by first | rfl | (simp only [upd_app, killS_app, A.kill, entry_zero, entry_succ, Nat.reduceEqDiff, reduceIte, cClass, hF, fullM, memC]; done)))
      case round =>
        rintro q ⟨hq, hfit⟩
        repeat (first | refine WI.seq ?_ | refine WI.block ?_ | refine WI.skip ?_ | refine WI.exit ?_ | refine WI.region tab_ok 0 (by decide) (by kernel_rfl) (exec_run (by simp only [exec, stepQ, wantA, yieldA, kind, qv, qv1, qv2, stO, adrId, dataC, replC, eqNil, binNil, shiftInt, A.down, A1.up, downs, toR, ev, putS, rowO, ofConst, cellsA, cellsC, asC, asCs, ld, ldR, bin, binInt, binStr, binBool, sliceOf, bndOf, repl, fillC, zeroC, chunks, ptrIds, tabs, upd_app, mem_nil_app, entry_zero, entry_succ, entry_nil, top_app, maxStr, ByteArray.size, A.kill, O.kill, killS_app, killM_app, Nat.reduceAdd, Nat.reduceLeDiff, Nat.reduceEqDiff, Nat.reduceMul, Int.reduceToNat, reduceIte, wf_i64, Int.reduceLE, Int.reduceNeg, beq_self_eq_true, decide_true, decide_false, ybeq_some, ybeq_none, beqT, beqF, empty_toList, exs, fullM, memC, slotC, cClass]; rfl)) ?_)
        refine WI.cond rfl ?_ ?_
        · intro hlt
          simp only [decide_eq_true_eq, Int.ofNat_lt] at hlt
          obtain ⟨y, hy⟩ : ∃ y, c.methods[q]? = some y := ⟨_, List.getElem?_eq_getElem hlt⟩
          repeat (first | refine WI.seq ?_ | refine WI.block ?_ | refine WI.skip ?_ | refine WI.exit ?_ | refine WI.region tab_ok 0 (by decide) (by kernel_rfl) (exec_run (by simp only [exec, stepQ, wantA, yieldA, kind, qv, qv1, qv2, stO, adrId, dataC, replC, eqNil, binNil, shiftInt, A.down, A1.up, downs, toR, ev, putS, rowO, ofConst, cellsA, cellsC, asC, asCs, ld, ldR, bin, binInt, binStr, binBool, sliceOf, bndOf, repl, fillC, zeroC, chunks, ptrIds, tabs, upd_app, mem_nil_app, entry_zero, entry_succ, entry_nil, top_app, maxStr, ByteArray.size, A.kill, O.kill, killS_app, killM_app, Nat.reduceAdd, Nat.reduceLeDiff, Nat.reduceEqDiff, Nat.reduceMul, Int.reduceToNat, reduceIte, wf_i64, Int.reduceLE, Int.reduceNeg, beq_self_eq_true, decide_true, decide_false, ybeq_some, ybeq_none, beqT, beqF, empty_toList, exs, fullM, memC, slotC, cClass, at_map hy, cMethod]; rfl)) ?_)
          refine WI.regionK tab_ok 0 (by decide) (by kernel_rfl) ?_
          refine runk_split 3 (by simp only [exec, stepQ, wantA, yieldA, kind, qv, qv1, qv2, stO, adrId, dataC, replC, eqNil, binNil, shiftInt, A.down, A1.up, downs, toR, ev, putS, rowO, ofConst, cellsA, cellsC, asC, asCs, ld, ldR, bin, binInt, binStr, binBool, sliceOf, bndOf, repl, fillC, zeroC, chunks, ptrIds, tabs, upd_app, mem_nil_app, entry_zero, entry_succ, entry_nil, top_app, maxStr, ByteArray.size, A.kill, O.kill, killS_app, killM_app, Nat.reduceAdd, Nat.reduceLeDiff, Nat.reduceEqDiff, Nat.reduceMul, Int.reduceToNat, reduceIte, wf_i64, Int.reduceLE, Int.reduceNeg, beq_self_eq_true, decide_true, decide_false, ybeq_some, ybeq_none, beqT, beqF, empty_toList, exs, fullM, memC, slotC, cClass]; rfl) ?_
          refine runk_callR rfl rfl rfl rfl rfl (by simp) (cvrs_cons cvr_refl (cvrs_cons (cvr_fn (caps_one rfl rfl)) cvrs_nil)) (by rfl) (by rfl) (idxMethod_ok kc.methods 49 [cMethod y] (methB y.name) (by have := (hS kc (List.mem_of_getElem? hkc)).2.1; omega) (fun o _ m => class2_ok o y m)) ?_
          refine runk_exec (by simp only [exec, stepQ, wantA, yieldA, kind, qv, qv1, qv2, stO, adrId, dataC, replC, eqNil, binNil, shiftInt, A.down, A1.up, downs, toR, ev, putS, rowO, ofConst, cellsA, cellsC, asC, asCs, ld, ldR, bin, binInt, binStr, binBool, sliceOf, bndOf, repl, fillC, zeroC, chunks, ptrIds, tabs, upd_app, mem_nil_app, entry_zero, entry_succ, entry_nil, top_app, maxStr, ByteArray.size, A.kill, O.kill, killS_app, killM_app, Nat.reduceAdd, Nat.reduceLeDiff, Nat.reduceEqDiff, Nat.reduceMul, Int.reduceToNat, reduceIte, wf_i64, Int.reduceLE, Int.reduceNeg, beq_self_eq_true, decide_true, decide_false, ybeq_some, ybeq_none, beqT, beqF, empty_toList, exs, fullM, memC, slotC, cClass]; rfl) ?_
          obtain ⟨hf1, hf2⟩ := fits_of (y := y) (l := kc.methods)
          by_cases hneg : idxB (methB y.name) kc.methods < 0
          · have hd : decide ((0 : Int) ≤ idxB (methB y.name) kc.methods) = false := by simp; omega
            refine WI.seq ?_
            refine WI.regionDK tab_ok 0 follows_mixed (by kernel_rfl) (by decide) (by kernel_rfl) ?_
            refine runk_exec (by simp only [exec, stepQ, wantA, yieldA, kind, qv, qv1, qv2, stO, adrId, dataC, replC, eqNil, binNil, shiftInt, A.down, A1.up, downs, toR, ev, putS, rowO, ofConst, cellsA, cellsC, asC, asCs, ld, ldR, bin, binInt, binStr, binBool, sliceOf, bndOf, repl, fillC, zeroC, chunks, ptrIds, tabs, upd_app, mem_nil_app, entry_zero, entry_succ, entry_nil, top_app, maxStr, ByteArray.size, A.kill, O.kill, killS_app, killM_app, Nat.reduceAdd, Nat.reduceLeDiff, Nat.reduceEqDiff, Nat.reduceMul, Int.reduceToNat, reduceIte, wf_i64, Int.reduceLE, Int.reduceNeg, beq_self_eq_true, decide_true, decide_false, ybeq_some, ybeq_none, beqT, beqF, empty_toList, exs, fullM, memC, slotC, cClass, hd]; rfl) ?_
            refine WI.cond rfl (fun h => by cases h) (fun _ => ?_)
            repeat (first | refine WI.seq ?_ | refine WI.block ?_ | refine WI.skip ?_ | refine WI.exit ?_ | refine WI.region tab_ok 0 (by decide) (by kernel_rfl) (exec_run (by simp only [exec, stepQ, wantA, yieldA, kind, qv, qv1, qv2, stO, adrId, dataC, replC, eqNil, binNil, shiftInt, A.down, A1.up, downs, toR, ev, putS, rowO, ofConst, cellsA, cellsC, asC, asCs, ld, ldR, bin, binInt, binStr, binBool, sliceOf, bndOf, repl, fillC, zeroC, chunks, ptrIds, tabs, upd_app, mem_nil_app, entry_zero, entry_succ, entry_nil, top_app, maxStr, ByteArray.size, A.kill, O.kill, killS_app, killM_app, Nat.reduceAdd, Nat.reduceLeDiff, Nat.reduceEqDiff, Nat.reduceMul, Int.reduceToNat, reduceIte, wf_i64, Int.reduceLE, Int.reduceNeg, beq_self_eq_true, decide_true, decide_false, ybeq_some, ybeq_none, beqT, beqF, empty_toList, exs, fullM, memC, slotC, cClass]; rfl)) ?_)
            refine ⟨q + 1, ⟨hlt, ?_⟩, by omega, ?_⟩
            · rw [List.take_add_one, hy, List.all_append, hfit]; simp [hf1 hneg]
            simp only [fullM, memC]
            refine le_mk ?sle ?mle ?swf ?mwf hkeepL (by rfl)
            case swf => repeat (first | exact swf_top _ | refine swf_upd ?_ (by simp [A.ids, upd_app, cClass, fullM, memC, wrap_succ (show q + 1 < 9223372036854775808 by have := (hS c hc).2.1; omega)]))
            case mwf => repeat (first | exact mwf_nil _ | refine mwf_upd ?_ (by simp [A.ids, O.ids, upd_app, cClass, fullM, memC, wrap_succ (show q + 1 < 9223372036854775808 by have := (hS c hc).2.1; omega)]))
            case mle => repeat (first | exact mle_nil _ | exact mle_refl _ | refine mle_upd ?_ (by first | rfl | (simp only [upd_app, killM_app, O.kill, A.kill, Nat.reduceEqDiff, reduceIte, Option.map_some, Option.map_none, List.map_cons, List.map_nil, cClass, fullM, memC, wrap_succ (show q + 1 < 9223372036854775808 by have := (hS c hc).2.1; omega)]; done)))
            case sle => repeat (first | exact sle_top _ | exact sle_refl _ | refine sle_upd ?_ (by first | rfl | (simp only [upd_app, killS_app, A.kill, entry_zero, entry_succ, Nat.reduceEqDiff, reduceIte, cClass, fullM, memC, wrap_succ (show q + 1 < 9223372036854775808 by have := (hS c hc).2.1; omega)]; done)))
          · have hge : (0 : Int) ≤ idxB (methB y.name) kc.methods := by omega
            have hd : decide ((0 : Int) ≤ idxB (methB y.name) kc.methods) = true := by simp; omega
            obtain ⟨o, ho⟩ : ∃ o, kc.methods[(idxB (methB y.name) kc.methods).toNat]? = some o := by
              obtain ⟨o, ho, -⟩ := idxB_spec (methB y.name) kc.methods hge
              exact ⟨o, ho⟩
            refine WI.seq ?_
            refine WI.regionDK tab_ok 0 follows_mixed (by kernel_rfl) (by decide) (by kernel_rfl) ?_
            refine runk_split 9 (by simp only [exec, stepQ, wantA, yieldA, kind, qv, qv1, qv2, stO, adrId, dataC, replC, eqNil, binNil, shiftInt, A.down, A1.up, downs, toR, ev, putS, rowO, ofConst, cellsA, cellsC, asC, asCs, ld, ldR, bin, binInt, binStr, binBool, sliceOf, bndOf, repl, fillC, zeroC, chunks, ptrIds, tabs, upd_app, mem_nil_app, entry_zero, entry_succ, entry_nil, top_app, maxStr, ByteArray.size, A.kill, O.kill, killS_app, killM_app, Nat.reduceAdd, Nat.reduceLeDiff, Nat.reduceEqDiff, Nat.reduceMul, Int.reduceToNat, reduceIte, wf_i64, Int.reduceLE, Int.reduceNeg, beq_self_eq_true, decide_true, decide_false, ybeq_some, ybeq_none, beqT, beqF, empty_toList, exs, fullM, memC, slotC, cClass, hd, hge, at_map ho, cMethod]; rfl) ?_
            refine runk_call rfl rfl rfl rfl rfl (by simp) (cvs_cons cv_refl (cvs_cons cv_refl cvs_nil)) (alike_ok y o _) ?_
            refine runk_exec (by simp only [exec, stepQ, wantA, yieldA, kind, qv, qv1, qv2, stO, adrId, dataC, replC, eqNil, binNil, shiftInt, A.down, A1.up, downs, toR, ev, putS, rowO, ofConst, cellsA, cellsC, asC, asCs, ld, ldR, bin, binInt, binStr, binBool, sliceOf, bndOf, repl, fillC, zeroC, chunks, ptrIds, tabs, upd_app, mem_nil_app, entry_zero, entry_succ, entry_nil, top_app, maxStr, ByteArray.size, A.kill, O.kill, killS_app, killM_app, Nat.reduceAdd, Nat.reduceLeDiff, Nat.reduceEqDiff, Nat.reduceMul, Int.reduceToNat, reduceIte, wf_i64, Int.reduceLE, Int.reduceNeg, beq_self_eq_true, decide_true, decide_false, ybeq_some, ybeq_none, beqT, beqF, empty_toList, exs, fullM, memC, slotC, cClass]; rfl) ?_
            refine WI.cond rfl ?_ ?_
            · intro hal
              repeat (first | refine WI.seq ?_ | refine WI.block ?_ | refine WI.skip ?_ | refine WI.exit ?_ | refine WI.region tab_ok 0 (by decide) (by kernel_rfl) (exec_run (by simp only [exec, stepQ, wantA, yieldA, kind, qv, qv1, qv2, stO, adrId, dataC, replC, eqNil, binNil, shiftInt, A.down, A1.up, downs, toR, ev, putS, rowO, ofConst, cellsA, cellsC, asC, asCs, ld, ldR, bin, binInt, binStr, binBool, sliceOf, bndOf, repl, fillC, zeroC, chunks, ptrIds, tabs, upd_app, mem_nil_app, entry_zero, entry_succ, entry_nil, top_app, maxStr, ByteArray.size, A.kill, O.kill, killS_app, killM_app, Nat.reduceAdd, Nat.reduceLeDiff, Nat.reduceEqDiff, Nat.reduceMul, Int.reduceToNat, reduceIte, wf_i64, Int.reduceLE, Int.reduceNeg, beq_self_eq_true, decide_true, decide_false, ybeq_some, ybeq_none, beqT, beqF, empty_toList, exs, fullM, memC, slotC, cClass]; rfl)) ?_)
              refine WI.ret ⟨fun j => j, memC cs mn c false (fieldsUp cs ((upX cs (cs.length + 1) 0 c.name).take (k + 1))), Le.toT ?_, hG _, fun b => ⟨.inr rfl, .inr ⟨b, 1002, rfl, rfl, rfl, ?_⟩⟩⟩
              · simp only [fullM, memC]
                refine le_mk ?sle ?mle ?swf ?mwf (fun j hj => fullM_keep (hG _) hj) (by rfl)
                case swf => repeat (first | exact swf_top _ | refine swf_upd ?_ (by simp [A.ids, upd_app, cClass, fullM, memC]))
                case mwf => repeat (first | exact mwf_nil _ | refine mwf_upd ?_ (by simp [A.ids, O.ids, upd_app, cClass, fullM, memC]))
                case mle => repeat (first | exact mle_nil _ | exact mle_refl _ | refine mle_upd ?_ (by first | rfl | (simp only [upd_app, killM_app, O.kill, A.kill, Nat.reduceEqDiff, reduceIte, Option.map_some, Option.map_none, List.map_cons, List.map_nil, cClass, fullM, memC]; done)))
                case sle => repeat (first | exact sle_top _ | exact sle_refl _ | refine sle_upd ?_ (by first | rfl | (simp only [upd_app, killS_app, A.kill, entry_zero, entry_succ, Nat.reduceEqDiff, reduceIte, cClass, fullM, memC]; done)))
              · simp only [Try.f26, resA, resOne, toT, fin, doneS, doneM, DID, exec, stepQ, wantA, yieldA, kind, qv, qv1, qv2, stO, adrId, dataC, replC, eqNil, binNil, shiftInt, A.down, A1.up, downs, toR, ev, putS, rowO, ofConst, cellsA, cellsC, asC, asCs, ld, ldR, bin, binInt, binStr, binBool, sliceOf, bndOf, repl, fillC, zeroC, chunks, ptrIds, tabs, upd_app, mem_nil_app, entry_zero, entry_succ, entry_nil, top_app, maxStr, ByteArray.size, A.kill, O.kill, killS_app, killM_app, Nat.reduceAdd, Nat.reduceLeDiff, Nat.reduceEqDiff, Nat.reduceMul, Int.reduceToNat, reduceIte, wf_i64, Int.reduceLE, Int.reduceNeg, beq_self_eq_true, decide_true, decide_false, ybeq_some, ybeq_none, beqT, beqF, empty_toList, exs, memC, slotC]
                rw [bad2 y (List.mem_of_getElem? hy) (by rw [hf2 o ho hge]; simpa using hal)]
            · intro hal
              repeat (first | refine WI.seq ?_ | refine WI.block ?_ | refine WI.skip ?_ | refine WI.exit ?_ | refine WI.region tab_ok 0 (by decide) (by kernel_rfl) (exec_run (by simp only [exec, stepQ, wantA, yieldA, kind, qv, qv1, qv2, stO, adrId, dataC, replC, eqNil, binNil, shiftInt, A.down, A1.up, downs, toR, ev, putS, rowO, ofConst, cellsA, cellsC, asC, asCs, ld, ldR, bin, binInt, binStr, binBool, sliceOf, bndOf, repl, fillC, zeroC, chunks, ptrIds, tabs, upd_app, mem_nil_app, entry_zero, entry_succ, entry_nil, top_app, maxStr, ByteArray.size, A.kill, O.kill, killS_app, killM_app, Nat.reduceAdd, Nat.reduceLeDiff, Nat.reduceEqDiff, Nat.reduceMul, Int.reduceToNat, reduceIte, wf_i64, Int.reduceLE, Int.reduceNeg, beq_self_eq_true, decide_true, decide_false, ybeq_some, ybeq_none, beqT, beqF, empty_toList, exs, fullM, memC, slotC, cClass]; rfl)) ?_)
              refine ⟨q + 1, ⟨hlt, ?_⟩, by omega, ?_⟩
              · rw [List.take_add_one, hy, List.all_append, hfit]; simp [hf2 o ho hge]; simpa using hal
              simp only [fullM, memC]
              refine le_mk ?sle ?mle ?swf ?mwf hkeepL (by rfl)
              case swf => repeat (first | exact swf_top _ | refine swf_upd ?_ (by simp [A.ids, upd_app, cClass, fullM, memC, wrap_succ (show q + 1 < 9223372036854775808 by have := (hS c hc).2.1; omega)]))
              case mwf => repeat (first | exact mwf_nil _ | refine mwf_upd ?_ (by simp [A.ids, O.ids, upd_app, cClass, fullM, memC, wrap_succ (show q + 1 < 9223372036854775808 by have := (hS c hc).2.1; omega)]))
              case mle => repeat (first | exact mle_nil _ | exact mle_refl _ | refine mle_upd ?_ (by first | rfl | (simp only [upd_app, killM_app, O.kill, A.kill, Nat.reduceEqDiff, reduceIte, Option.map_some, Option.map_none, List.map_cons, List.map_nil, cClass, fullM, memC, wrap_succ (show q + 1 < 9223372036854775808 by have := (hS c hc).2.1; omega)]; done)))
              case sle => repeat (first | exact sle_top _ | exact sle_refl _ | refine sle_upd ?_ (by first | rfl | (simp only [upd_app, killS_app, A.kill, entry_zero, entry_succ, Nat.reduceEqDiff, reduceIte, cClass, fullM, memC, wrap_succ (show q + 1 < 9223372036854775808 by have := (hS c hc).2.1; omega)]; done)))
        · intro hge
          simp only [decide_eq_false_iff_not, Int.ofNat_lt] at hge
          obtain rfl : q = c.methods.length := by omega
          repeat (first | refine WI.seq ?_ | refine WI.block ?_ | refine WI.skip ?_ | refine WI.exit ?_ | refine WI.region tab_ok 0 (by decide) (by kernel_rfl) (exec_run (by simp only [exec, stepQ, wantA, yieldA, kind, qv, qv1, qv2, stO, adrId, dataC, replC, eqNil, binNil, shiftInt, A.down, A1.up, downs, toR, ev, putS, rowO, ofConst, cellsA, cellsC, asC, asCs, ld, ldR, bin, binInt, binStr, binBool, sliceOf, bndOf, repl, fillC, zeroC, chunks, ptrIds, tabs, upd_app, mem_nil_app, entry_zero, entry_succ, entry_nil, top_app, maxStr, ByteArray.size, A.kill, O.kill, killS_app, killM_app, Nat.reduceAdd, Nat.reduceLeDiff, Nat.reduceEqDiff, Nat.reduceMul, Int.reduceToNat, reduceIte, wf_i64, Int.reduceLE, Int.reduceNeg, beq_self_eq_true, decide_true, decide_false, ybeq_some, ybeq_none, beqT, beqF, empty_toList, exs, fullM, memC, slotC, cClass]; rfl)) ?_)
          rw [List.take_length] at hfit
          refine ⟨good hfit, fun j => j, Le.toT ?_⟩
          simp only [fullM, memC]
          refine le_mk ?sle ?mle ?swf ?mwf (fun j hj => fullM_keep (hG _) hj) (by rfl)
          case swf => repeat (first | exact swf_top _ | refine swf_upd ?_ (by simp [A.ids, upd_app, cClass, fullM, memC]))
          case mwf => repeat (first | exact mwf_nil _ | refine mwf_upd ?_ (by simp [A.ids, O.ids, upd_app, cClass, fullM, memC]))
          case mle => repeat (first | exact mle_nil _ | exact mle_refl _ | refine mle_upd ?_ (by first | rfl | (simp only [upd_app, killM_app, O.kill, A.kill, Nat.reduceEqDiff, reduceIte, Option.map_some, Option.map_none, List.map_cons, List.map_nil, cClass, fullM, memC]; done)))
          case sle => repeat (first | exact sle_top _ | exact sle_refl _ | refine sle_upd ?_ (by first | rfl | (simp only [upd_app, killS_app, A.kill, entry_zero, entry_succ, Nat.reduceEqDiff, reduceIte, cClass, fullM, memC]; done)))
    · have hse' : (kc.super.toList == []) = false := by simp [hse]
      repeat (first | refine WI.seq ?_ | refine WI.block ?_ | refine WI.skip ?_ | refine WI.exit ?_ | refine WI.region tab_ok 0 (by decide) (by kernel_rfl) (exec_run (by simp only [exec, stepQ, wantA, yieldA, kind, qv, qv1, qv2, stO, adrId, dataC, replC, eqNil, binNil, shiftInt, A.down, A1.up, downs, toR, ev, putS, rowO, ofConst, cellsA, cellsC, asC, asCs, ld, ldR, bin, binInt, binStr, binBool, sliceOf, bndOf, repl, fillC, zeroC, chunks, ptrIds, tabs, upd_app, mem_nil_app, entry_zero, entry_succ, entry_nil, top_app, maxStr, ByteArray.size, A.kill, O.kill, killS_app, killM_app, Nat.reduceAdd, Nat.reduceLeDiff, Nat.reduceEqDiff, Nat.reduceMul, Int.reduceToNat, reduceIte, wf_i64, Int.reduceLE, Int.reduceNeg, beq_self_eq_true, decide_true, decide_false, ybeq_some, ybeq_none, beqT, beqF, empty_toList, exs, fullM, memC, slotC, cClass, hkn', hse']; rfl)) ?_)
      refine WI.regionK tab_ok 0 (by decide) (by kernel_rfl) ?_
      refine runk_split 13 (by simp only [exec, stepQ, wantA, yieldA, kind, qv, qv1, qv2, stO, adrId, dataC, replC, eqNil, binNil, shiftInt, A.down, A1.up, downs, toR, ev, putS, rowO, ofConst, cellsA, cellsC, asC, asCs, ld, ldR, bin, binInt, binStr, binBool, sliceOf, bndOf, repl, fillC, zeroC, chunks, ptrIds, tabs, upd_app, mem_nil_app, entry_zero, entry_succ, entry_nil, top_app, maxStr, ByteArray.size, A.kill, O.kill, killS_app, killM_app, Nat.reduceAdd, Nat.reduceLeDiff, Nat.reduceEqDiff, Nat.reduceMul, Int.reduceToNat, reduceIte, wf_i64, Int.reduceLE, Int.reduceNeg, beq_self_eq_true, decide_true, decide_false, ybeq_some, ybeq_none, beqT, beqF, empty_toList, exs, fullM, memC, slotC, cClass, hkn', hse']; rfl) ?_
      refine runk_callR rfl rfl rfl rfl rfl (by simp) (cvrs_cons cvr_refl (cvrs_cons (cvr_fn (caps_one rfl rfl)) cvrs_nil)) (by rfl) (by rfl) (anyClass_ok cs 46 [cClass kc] (namedB kc.super) (by omega) (fun x _ m => class1_ok x kc m)) ?_
      refine runk_exec (by simp only [exec, stepQ, wantA, yieldA, kind, qv, qv1, qv2, stO, adrId, dataC, replC, eqNil, binNil, shiftInt, A.down, A1.up, downs, toR, ev, putS, rowO, ofConst, cellsA, cellsC, asC, asCs, ld, ldR, bin, binInt, binStr, binBool, sliceOf, bndOf, repl, fillC, zeroC, chunks, ptrIds, tabs, upd_app, mem_nil_app, entry_zero, entry_succ, entry_nil, top_app, maxStr, ByteArray.size, A.kill, O.kill, killS_app, killM_app, Nat.reduceAdd, Nat.reduceLeDiff, Nat.reduceEqDiff, Nat.reduceMul, Int.reduceToNat, reduceIte, wf_i64, Int.reduceLE, Int.reduceNeg, beq_self_eq_true, decide_true, decide_false, ybeq_some, ybeq_none, beqT, beqF, empty_toList, exs, fullM, memC, slotC, cClass]; rfl) ?_
      refine WI.cond rfl ?_ ?_
      · intro hal
        repeat (first | refine WI.seq ?_ | refine WI.block ?_ | refine WI.skip ?_ | refine WI.exit ?_ | refine WI.region tab_ok 0 (by decide) (by kernel_rfl) (exec_run (by simp only [exec, stepQ, wantA, yieldA, kind, qv, qv1, qv2, stO, adrId, dataC, replC, eqNil, binNil, shiftInt, A.down, A1.up, downs, toR, ev, putS, rowO, ofConst, cellsA, cellsC, asC, asCs, ld, ldR, bin, binInt, binStr, binBool, sliceOf, bndOf, repl, fillC, zeroC, chunks, ptrIds, tabs, upd_app, mem_nil_app, entry_zero, entry_succ, entry_nil, top_app, maxStr, ByteArray.size, A.kill, O.kill, killS_app, killM_app, Nat.reduceAdd, Nat.reduceLeDiff, Nat.reduceEqDiff, Nat.reduceMul, Int.reduceToNat, reduceIte, wf_i64, Int.reduceLE, Int.reduceNeg, beq_self_eq_true, decide_true, decide_false, ybeq_some, ybeq_none, beqT, beqF, empty_toList, exs, fullM, memC, slotC, cClass]; rfl)) ?_)
        refine WI.ret ⟨fun j => j, memC cs mn c false (fieldsUp cs ((upX cs (cs.length + 1) 0 c.name).take k)), Le.toT ?_, hG _, fun b => ⟨.inr rfl, .inr ⟨b, 1002, rfl, rfl, rfl, ?_⟩⟩⟩
        · simp only [fullM, memC]
          refine le_mk ?sle ?mle ?swf ?mwf (fun j hj => fullM_keep (hG _) hj) (by rfl)
          case swf => repeat (first | exact swf_top _ | refine swf_upd ?_ (by simp [A.ids, upd_app, cClass, fullM, memC]))
          case mwf => repeat (first | exact mwf_nil _ | refine mwf_upd ?_ (by simp [A.ids, O.ids, upd_app, cClass, fullM, memC]))
          case mle => repeat (first | exact mle_nil _ | exact mle_refl _ | refine mle_upd ?_ (by first | rfl | (simp only [upd_app, killM_app, O.kill, A.kill, Nat.reduceEqDiff, reduceIte, Option.map_some, Option.map_none, List.map_cons, List.map_nil, cClass, fullM, memC]; done)))
          case sle => repeat (first | exact sle_top _ | exact sle_refl _ | refine sle_upd ?_ (by first | rfl | (simp only [upd_app, killS_app, A.kill, entry_zero, entry_succ, Nat.reduceEqDiff, reduceIte, cClass, fullM, memC]; done)))
        · simp only [Try.f26, resA, resOne, toT, fin, doneS, doneM, DID, exec, stepQ, wantA, yieldA, kind, qv, qv1, qv2, stO, adrId, dataC, replC, eqNil, binNil, shiftInt, A.down, A1.up, downs, toR, ev, putS, rowO, ofConst, cellsA, cellsC, asC, asCs, ld, ldR, bin, binInt, binStr, binBool, sliceOf, bndOf, repl, fillC, zeroC, chunks, ptrIds, tabs, upd_app, mem_nil_app, entry_zero, entry_succ, entry_nil, top_app, maxStr, ByteArray.size, A.kill, O.kill, killS_app, killM_app, Nat.reduceAdd, Nat.reduceLeDiff, Nat.reduceEqDiff, Nat.reduceMul, Int.reduceToNat, reduceIte, wf_i64, Int.reduceLE, Int.reduceNeg, beq_self_eq_true, decide_true, decide_false, ybeq_some, ybeq_none, beqT, beqF, empty_toList, exs, memC, slotC]
          rw [bad (by
            rw [roundB_at hkc]
            unfold topB
            have h1 : kc.super.toList.isEmpty = false := by cases h : kc.super.toList with | nil => exact absurd h hse | cons _ _ => rfl
            have h2 : cs.any (namedB kc.super) = false := by simpa using hal
            rw [h1, h2]; simp)]
      · intro hal
        have good := goodR (by
          have h2 : cs.any (namedB kc.super) = true := by simpa using hal
          rw [h2]; simp)
        repeat (first | refine WI.seq ?_ | refine WI.block ?_ | refine WI.skip ?_ | refine WI.exit ?_ | refine WI.region tab_ok 0 (by decide) (by kernel_rfl) (exec_run (by simp only [exec, stepQ, wantA, yieldA, kind, qv, qv1, qv2, stO, adrId, dataC, replC, eqNil, binNil, shiftInt, A.down, A1.up, downs, toR, ev, putS, rowO, ofConst, cellsA, cellsC, asC, asCs, ld, ldR, bin, binInt, binStr, binBool, sliceOf, bndOf, repl, fillC, zeroC, chunks, ptrIds, tabs, upd_app, mem_nil_app, entry_zero, entry_succ, entry_nil, top_app, maxStr, ByteArray.size, A.kill, O.kill, killS_app, killM_app, Nat.reduceAdd, Nat.reduceLeDiff, Nat.reduceEqDiff, Nat.reduceMul, Int.reduceToNat, reduceIte, wf_i64, Int.reduceLE, Int.reduceNeg, beq_self_eq_true, decide_true, decide_false, ybeq_some, ybeq_none, beqT, beqF, empty_toList, exs, fullM, memC, slotC, cClass]; rfl)) ?_)
        refine WI.regionDK tab_ok 0 follows_mixed (by kernel_rfl) (by decide) (by kernel_rfl) ?_
        refine runk_split 3 (by simp only [exec, stepQ, wantA, yieldA, kind, qv, qv1, qv2, stO, adrId, dataC, replC, eqNil, binNil, shiftInt, A.down, A1.up, downs, toR, ev, putS, rowO, ofConst, cellsA, cellsC, asC, asCs, ld, ldR, bin, binInt, binStr, binBool, sliceOf, bndOf, repl, fillC, zeroC, chunks, ptrIds, tabs, upd_app, mem_nil_app, entry_zero, entry_succ, entry_nil, top_app, maxStr, ByteArray.size, A.kill, O.kill, killS_app, killM_app, Nat.reduceAdd, Nat.reduceLeDiff, Nat.reduceEqDiff, Nat.reduceMul, Int.reduceToNat, reduceIte, wf_i64, Int.reduceLE, Int.reduceNeg, beq_self_eq_true, decide_true, decide_false, ybeq_some, ybeq_none, beqT, beqF, empty_toList, exs, fullM, memC, slotC, cClass]; rfl) ?_
        refine runk_call rfl rfl rfl rfl rfl (by simp) (cvs_cons cv_refl cvs_nil) (namesS_ok kc.fields (by have := (hS kc (List.mem_of_getElem? hkc)).1; omega) _) ?_
        refine runk_split 0 (by simp only [exec, stepQ, wantA, yieldA, kind, qv, qv1, qv2, stO, adrId, dataC, replC, eqNil, binNil, shiftInt, A.down, A1.up, downs, toR, ev, putS, rowO, ofConst, cellsA, cellsC, asC, asCs, ld, ldR, bin, binInt, binStr, binBool, sliceOf, bndOf, repl, fillC, zeroC, chunks, ptrIds, tabs, upd_app, mem_nil_app, entry_zero, entry_succ, entry_nil, top_app, maxStr, ByteArray.size, A.kill, O.kill, killS_app, killM_app, Nat.reduceAdd, Nat.reduceLeDiff, Nat.reduceEqDiff, Nat.reduceMul, Int.reduceToNat, reduceIte, wf_i64, Int.reduceLE, Int.reduceNeg, beq_self_eq_true, decide_true, decide_false, ybeq_some, ybeq_none, beqT, beqF, empty_toList, exs, fullM, memC, slotC]; rfl) ?_
        refine runk_append tab_ok 50 rfl rfl rfl rfl rfl rfl rfl rfl (by first | rfl | (simp only [exec, stepQ, wantA, yieldA, kind, qv, qv1, qv2, stO, adrId, dataC, replC, eqNil, binNil, shiftInt, A.down, A1.up, downs, toR, ev, putS, rowO, ofConst, cellsA, cellsC, asC, asCs, ld, ldR, bin, binInt, binStr, binBool, sliceOf, bndOf, repl, fillC, zeroC, chunks, ptrIds, tabs, upd_app, mem_nil_app, entry_zero, entry_succ, entry_nil, top_app, maxStr, ByteArray.size, A.kill, O.kill, killS_app, killM_app, Nat.reduceAdd, Nat.reduceLeDiff, Nat.reduceEqDiff, Nat.reduceMul, Int.reduceToNat, reduceIte, wf_i64, Int.reduceLE, Int.reduceNeg, beq_self_eq_true, decide_true, decide_false, ybeq_some, ybeq_none, beqT, beqF, empty_toList, exs, fullM, memC, slotC]; rfl)) rfl rfl rfl rfl hn50 (by simp [cStr]) (by have h1 := (hS kc (List.mem_of_getElem? hkc)).1; have h2 := fieldsUp_len hS ((upX cs (cs.length + 1) 0 c.name).take k); have h3 := List.length_take_le k (upX cs (cs.length + 1) 0 c.name); simp only [List.length_map, namesL]; omega) (by decide) ?_
        refine runk_exec (by simp only [exec, stepQ, wantA, yieldA, kind, qv, qv1, qv2, stO, adrId, dataC, replC, eqNil, binNil, shiftInt, A.down, A1.up, downs, toR, ev, putS, rowO, ofConst, cellsA, cellsC, asC, asCs, ld, ldR, bin, binInt, binStr, binBool, sliceOf, bndOf, repl, fillC, zeroC, chunks, ptrIds, tabs, upd_app, mem_nil_app, entry_zero, entry_succ, entry_nil, top_app, maxStr, ByteArray.size, A.kill, O.kill, killS_app, killM_app, Nat.reduceAdd, Nat.reduceLeDiff, Nat.reduceEqDiff, Nat.reduceMul, Int.reduceToNat, reduceIte, wf_i64, Int.reduceLE, Int.reduceNeg, beq_self_eq_true, decide_true, decide_false, ybeq_some, ybeq_none, beqT, beqF, empty_toList, exs, fullM, memC, slotC]; rfl) ?_
        repeat (first | refine WI.seq ?_ | refine WI.block ?_ | refine WI.skip ?_ | refine WI.exit ?_ | refine WI.region tab_ok 0 (by decide) (by kernel_rfl) (exec_run (by simp only [exec, stepQ, wantA, yieldA, kind, qv, qv1, qv2, stO, adrId, dataC, replC, eqNil, binNil, shiftInt, A.down, A1.up, downs, toR, ev, putS, rowO, ofConst, cellsA, cellsC, asC, asCs, ld, ldR, bin, binInt, binStr, binBool, sliceOf, bndOf, repl, fillC, zeroC, chunks, ptrIds, tabs, upd_app, mem_nil_app, entry_zero, entry_succ, entry_nil, top_app, maxStr, ByteArray.size, A.kill, O.kill, killS_app, killM_app, Nat.reduceAdd, Nat.reduceLeDiff, Nat.reduceEqDiff, Nat.reduceMul, Int.reduceToNat, reduceIte, wf_i64, Int.reduceLE, Int.reduceNeg, beq_self_eq_true, decide_true, decide_false, ybeq_some, ybeq_none, beqT, beqF, empty_toList, exs, fullM, memC, slotC, cClass]; rfl)) ?_)
        refine WI.loop (ι := Nat) (fun q => ⟨upd (upd (upd (upd (upd (fun _ => .top) 4 (.ptr 4 0)) 8 (.ptr 8 0)) 43 (.c (.sl (c.methods.map cMethod)))) 44 (.c (.int .i64 c.methods.length))) 45 (.c (.int .i64 q)),
          upd (fullM (memC cs mn c false (fieldsUp cs ((upX cs (cs.length + 1) 0 c.name).take (k + 1)))) 1000 1001 1002 1003 x1 x2 xL') 8 (some (.box 37 ((cClass kc).map A.c)))⟩) (fun q => q ≤ c.methods.length ∧ (c.methods.take q).all (fun y => fitsB y kc.methods) = true) (fun q => c.methods.length - q) 0 ?start ⟨Nat.zero_le _, rfl⟩ ?round
        case start =>
          simp only [fullM, memC]
          refine le_mk ?sle ?mle ?swf ?mwf hkeepL (by rfl)
          case swf => repeat (first | exact swf_top _ | refine swf_upd ?_ (by simp [A.ids, upd_app, cClass, hF, fullM, memC]))
          case mwf => repeat (first | exact mwf_nil _ | refine mwf_upd ?_ (by simp [A.ids, O.ids, upd_app, cClass, hF, fullM, memC]))
          case mle => repeat (first | exact mle_nil _ | exact mle_refl _ | refine mle_upd ?_ (by first | rfl | (simp only [upd_app, killM_app, O.kill, A.kill, Nat.reduceEqDiff, reduceIte, Option.map_some, Option.map_none, List.map_cons, List.map_nil, cClass, hF, fullM, memC]; done)))
          case sle => repeat (first | exact sle_top _ | exact sle_refl _ | refine sle_upd ?_ (by first | rfl | (simp only [upd_app, killS_app, A.kill, entry_zero, entry_succ, Nat.reduceEqDiff, reduceIte, cClass, hF, fullM, memC]; done)))
        case round =>
          rintro q ⟨hq, hfit⟩
          repeat (first | refine WI.seq ?_ | refine WI.block ?_ | refine WI.skip ?_ | refine WI.exit ?_ | refine WI.region tab_ok 0 (by decide) (by kernel_rfl) (exec_run (by simp only [exec, stepQ, wantA, yieldA, kind, qv, qv1, qv2, stO, adrId, dataC, replC, eqNil, binNil, shiftInt, A.down, A1.up, downs, toR, ev, putS, rowO, ofConst, cellsA, cellsC, asC, asCs, ld, ldR, bin, binInt, binStr, binBool, sliceOf, bndOf, repl, fillC, zeroC, chunks, ptrIds, tabs, upd_app, mem_nil_app, entry_zero, entry_succ, entry_nil, top_app, maxStr, ByteArray.size, A.kill, O.kill, killS_app, killM_app, Nat.reduceAdd, Nat.reduceLeDiff, Nat.reduceEqDiff, Nat.reduceMul, Int.reduceToNat, reduceIte, wf_i64, Int.reduceLE, Int.reduceNeg, beq_self_eq_true, decide_true, decide_false, ybeq_some, ybeq_none, beqT, beqF, empty_toList, exs, fullM, memC, slotC, cClass]; rfl)) ?_)
          refine WI.cond rfl ?_ ?_
          · intro hlt
            simp only [decide_eq_true_eq, Int.ofNat_lt] at hlt
            obtain ⟨y, hy⟩ : ∃ y, c.methods[q]? = some y := ⟨_, List.getElem?_eq_getElem hlt⟩
            repeat (first | refine WI.seq ?_ | refine WI.block ?_ | refine WI.skip ?_ | refine WI.exit ?_ | refine WI.region tab_ok 0 (by decide) (by kernel_rfl) (exec_run (by simp only [exec, stepQ, wantA, yieldA, kind, qv, qv1, qv2, stO, adrId, dataC, replC, eqNil, binNil, shiftInt, A.down, A1.up, downs, toR, ev, putS, rowO, ofConst, cellsA, cellsC, asC, asCs, ld, ldR, bin, binInt, binStr, binBool, sliceOf, bndOf, repl, fillC, zeroC, chunks, ptrIds, tabs, upd_app, mem_nil_app, entry_zero, entry_succ, entry_nil, top_app, maxStr, ByteArray.size, A.kill, O.kill, killS_app, killM_app, Nat.reduceAdd, Nat.reduceLeDiff, Nat.reduceEqDiff, Nat.reduceMul, Int.reduceToNat, reduceIte, wf_i64, Int.reduceLE, Int.reduceNeg, beq_self_eq_true, decide_true, decide_false, ybeq_some, ybeq_none, beqT, beqF, empty_toList, exs, fullM, memC, slotC, cClass, at_map hy, cMethod]; rfl)) ?_)
            refine WI.regionK tab_ok 0 (by decide) (by kernel_rfl) ?_
            refine runk_split 3 (by simp only [exec, stepQ, wantA, yieldA, kind, qv, qv1, qv2, stO, adrId, dataC, replC, eqNil, binNil, shiftInt, A.down, A1.up, downs, toR, ev, putS, rowO, ofConst, cellsA, cellsC, asC, asCs, ld, ldR, bin, binInt, binStr, binBool, sliceOf, bndOf, repl, fillC, zeroC, chunks, ptrIds, tabs, upd_app, mem_nil_app, entry_zero, entry_succ, entry_nil, top_app, maxStr, ByteArray.size, A.kill, O.kill, killS_app, killM_app, Nat.reduceAdd, Nat.reduceLeDiff, Nat.reduceEqDiff, Nat.reduceMul, Int.reduceToNat, reduceIte, wf_i64, Int.reduceLE, Int.reduceNeg, beq_self_eq_true, decide_true, decide_false, ybeq_some, ybeq_none, beqT, beqF, empty_toList, exs, fullM, memC, slotC, cClass]; rfl) ?_
            refine runk_callR rfl rfl rfl rfl rfl (by simp) (cvrs_cons cvr_refl (cvrs_cons (cvr_fn (caps_one rfl rfl)) cvrs_nil)) (by rfl) (by rfl) (idxMethod_ok kc.methods 49 [cMethod y] (methB y.name) (by have := (hS kc (List.mem_of_getElem? hkc)).2.1; omega) (fun o _ m => class2_ok o y m)) ?_
            refine runk_exec (by simp only [exec, stepQ, wantA, yieldA, kind, qv, qv1, qv2, stO, adrId, dataC, replC, eqNil, binNil, shiftInt, A.down, A1.up, downs, toR, ev, putS, rowO, ofConst, cellsA, cellsC, asC, asCs, ld, ldR, bin, binInt, binStr, binBool, sliceOf, bndOf, repl, fillC, zeroC, chunks, ptrIds, tabs, upd_app, mem_nil_app, entry_zero, entry_succ, entry_nil, top_app, maxStr, ByteArray.size, A.kill, O.kill, killS_app, killM_app, Nat.reduceAdd, Nat.reduceLeDiff, Nat.reduceEqDiff, Nat.reduceMul, Int.reduceToNat, reduceIte, wf_i64, Int.reduceLE, Int.reduceNeg, beq_self_eq_true, decide_true, decide_false, ybeq_some, ybeq_none, beqT, beqF, empty_toList, exs, fullM, memC, slotC, cClass]; rfl) ?_
            obtain ⟨hf1, hf2⟩ := fits_of (y := y) (l := kc.methods)
            by_cases hneg : idxB (methB y.name) kc.methods < 0
            · have hd : decide ((0 : Int) ≤ idxB (methB y.name) kc.methods) = false := by simp; omega
              refine WI.seq ?_
              refine WI.regionDK tab_ok 0 follows_mixed (by kernel_rfl) (by decide) (by kernel_rfl) ?_
              refine runk_exec (by simp only [exec, stepQ, wantA, yieldA, kind, qv, qv1, qv2, stO, adrId, dataC, replC, eqNil, binNil, shiftInt, A.down, A1.up, downs, toR, ev, putS, rowO, ofConst, cellsA, cellsC, asC, asCs, ld, ldR, bin, binInt, binStr, binBool, sliceOf, bndOf, repl, fillC, zeroC, chunks, ptrIds, tabs, upd_app, mem_nil_app, entry_zero, entry_succ, entry_nil, top_app, maxStr, ByteArray.size, A.kill, O.kill, killS_app, killM_app, Nat.reduceAdd, Nat.reduceLeDiff, Nat.reduceEqDiff, Nat.reduceMul, Int.reduceToNat, reduceIte, wf_i64, Int.reduceLE, Int.reduceNeg, beq_self_eq_true, decide_true, decide_false, ybeq_some, ybeq_none, beqT, beqF, empty_toList, exs, fullM, memC, slotC, cClass, hd]; rfl) ?_
              refine WI.cond rfl (fun h => by cases h) (fun _ => ?_)
              repeat (first | refine WI.seq ?_ | refine WI.block ?_ | refine WI.skip ?_ | refine WI.exit ?_ | refine WI.region tab_ok 0 (by decide) (by kernel_rfl) (exec_run (by simp only [exec, stepQ, wantA, yieldA, kind, qv, qv1, qv2, stO, adrId, dataC, replC, eqNil, binNil, shiftInt, A.down, A1.up, downs, toR, ev, putS, rowO, ofConst, cellsA, cellsC, asC, asCs, ld, ldR, bin, binInt, binStr, binBool, sliceOf, bndOf, repl, fillC, zeroC, chunks, ptrIds, tabs, upd_app, mem_nil_app, entry_zero, entry_succ, entry_nil, top_app, maxStr, ByteArray.size, A.kill, O.kill, killS_app, killM_app, Nat.reduceAdd, Nat.reduceLeDiff, Nat.reduceEqDiff, Nat.reduceMul, Int.reduceToNat, reduceIte, wf_i64, Int.reduceLE, Int.reduceNeg, beq_self_eq_true, decide_true, decide_false, ybeq_some, ybeq_none, beqT, beqF, empty_toList, exs, fullM, memC, slotC, cClass]; rfl)) ?_)
              refine ⟨q + 1, ⟨hlt, ?_⟩, by omega, ?_⟩
              · rw [List.take_add_one, hy, List.all_append, hfit]; simp [hf1 hneg]
              simp only [fullM, memC]
              refine le_mk ?sle ?mle ?swf ?mwf hkeepL (by rfl)
              case swf => repeat (first | exact swf_top _ | refine swf_upd ?_ (by simp [A.ids, upd_app, cClass, fullM, memC, wrap_succ (show q + 1 < 9223372036854775808 by have := (hS c hc).2.1; omega)]))
              case mwf => repeat (first | exact mwf_nil _ | refine mwf_upd ?_ (by simp [A.ids, O.ids, upd_app, cClass, fullM, memC, wrap_succ (show q + 1 < 9223372036854775808 by have := (hS c hc).2.1; omega)]))
              case mle => repeat (first | exact mle_nil _ | exact mle_refl _ | refine mle_upd ?_ (by first | rfl | (simp only [upd_app, killM_app, O.kill, A.kill, Nat.reduceEqDiff, reduceIte, Option.map_some, Option.map_none, List.map_cons, List.map_nil, cClass, fullM, memC, wrap_succ (show q + 1 < 9223372036854775808 by have := (hS c hc).2.1; omega)]; done)))
              case sle => repeat (first | exact sle_top _ | exact sle_refl _ | refine sle_upd ?_ (by first | rfl | (simp only [upd_app, killS_app, A.kill, entry_zero, entry_succ, Nat.reduceEqDiff, reduceIte, cClass, fullM, memC, wrap_succ (show q + 1 < 9223372036854775808 by have := (hS c hc).2.1; omega)]; done)))
            · have hge : (0 : Int) ≤ idxB (methB y.name) kc.methods := by omega
              have hd : decide ((0 : Int) ≤ idxB (methB y.name) kc.methods) = true := by simp; omega
              obtain ⟨o, ho⟩ : ∃ o, kc.methods[(idxB (methB y.name) kc.methods).toNat]? = some o := by
                obtain ⟨o, ho, -⟩ := idxB_spec (methB y.name) kc.methods hge
                exact ⟨o, ho⟩
              refine WI.seq ?_
              refine WI.regionDK tab_ok 0 follows_mixed (by kernel_rfl) (by decide) (by kernel_rfl) ?_
              refine runk_split 9 (by simp only [exec, stepQ, wantA, yieldA, kind, qv, qv1, qv2, stO, adrId, dataC, replC, eqNil, binNil, shiftInt, A.down, A1.up, downs, toR, ev, putS, rowO, ofConst, cellsA, cellsC, asC, asCs, ld, ldR, bin, binInt, binStr, binBool, sliceOf, bndOf, repl, fillC, zeroC, chunks, ptrIds, tabs, upd_app, mem_nil_app, entry_zero, entry_succ, entry_nil, top_app, maxStr, ByteArray.size, A.kill, O.kill, killS_app, killM_app, Nat.reduceAdd, Nat.reduceLeDiff, Nat.reduceEqDiff, Nat.reduceMul, Int.reduceToNat, reduceIte, wf_i64, Int.reduceLE, Int.reduceNeg, beq_self_eq_true, decide_true, decide_false, ybeq_some, ybeq_none, beqT, beqF, empty_toList, exs, fullM, memC, slotC, cClass, hd, hge, at_map ho, cMethod]; rfl) ?_
              refine runk_call rfl rfl rfl rfl rfl (by simp) (cvs_cons cv_refl (cvs_cons cv_refl cvs_nil)) (alike_ok y o _) ?_
              refine runk_exec (by simp only [exec, stepQ, wantA, yieldA, kind, qv, qv1, qv2, stO, adrId, dataC, replC, eqNil, binNil, shiftInt, A.down, A1.up, downs, toR, ev, putS, rowO, ofConst, cellsA, cellsC, asC, asCs, ld, ldR, bin, binInt, binStr, binBool, sliceOf, bndOf, repl, fillC, zeroC, chunks, ptrIds, tabs, upd_app, mem_nil_app, entry_zero, entry_succ, entry_nil, top_app, maxStr, ByteArray.size, A.kill, O.kill, killS_app, killM_app, Nat.reduceAdd, Nat.reduceLeDiff, Nat.reduceEqDiff, Nat.reduceMul, Int.reduceToNat, reduceIte, wf_i64, Int.reduceLE, Int.reduceNeg, beq_self_eq_true, decide_true, decide_false, ybeq_some, ybeq_none, beqT, beqF, empty_toList, exs, fullM, memC, slotC, cClass]; rfl) ?_
              refine WI.cond rfl ?_ ?_
              · intro hal
                repeat (first | refine WI.seq ?_ | refine WI.block ?_ | refine WI.skip ?_ | refine WI.exit ?_ | refine WI.region tab_ok 0 (by decide) (by kernel_rfl) (exec_run (by simp only [exec, stepQ, wantA, yieldA, kind, qv, qv1, qv2, stO, adrId, dataC, replC, eqNil, binNil, shiftInt, A.down, A1.up, downs, toR, ev, putS, rowO, ofConst, cellsA, cellsC, asC, asCs, ld, ldR, bin, binInt, binStr, binBool, sliceOf, bndOf, repl, fillC, zeroC, chunks, ptrIds, tabs, upd_app, mem_nil_app, entry_zero, entry_succ, entry_nil, top_app, maxStr, ByteArray.size, A.kill, O.kill, killS_app, killM_app, Nat.reduceAdd, Nat.reduceLeDiff, Nat.reduceEqDiff, Nat.reduceMul, Int.reduceToNat, reduceIte, wf_i64, Int.reduceLE, Int.reduceNeg, beq_self_eq_true, decide_true, decide_false, ybeq_some, ybeq_none, beqT, beqF, empty_toList, exs, fullM, memC, slotC, cClass]; rfl)) ?_)
                refine WI.ret ⟨fun j => j, memC cs mn c false (fieldsUp cs ((upX cs (cs.length + 1) 0 c.name).take (k + 1))), Le.toT ?_, hG _, fun b => ⟨.inr rfl, .inr ⟨b, 1002, rfl, rfl, rfl, ?_⟩⟩⟩
                · simp only [fullM, memC]
                  refine le_mk ?sle ?mle ?swf ?mwf (fun j hj => fullM_keep (hG _) hj) (by rfl)
                  case swf => repeat (first | exact swf_top _ | refine swf_upd ?_ (by simp [A.ids, upd_app, cClass, fullM, memC]))
                  case mwf => repeat (first | exact mwf_nil _ | refine mwf_upd ?_ (by simp [A.ids, O.ids, upd_app, cClass, fullM, memC]))
                  case mle => repeat (first | exact mle_nil _ | exact mle_refl _ | refine mle_upd ?_ (by first | rfl | (simp only [upd_app, killM_app, O.kill, A.kill, Nat.reduceEqDiff, reduceIte, Option.map_some, Option.map_none, List.map_cons, List.map_nil, cClass, fullM, memC]; done)))
                  case sle => repeat (first | exact sle_top _ | exact sle_refl _ | refine sle_upd ?_ (by first | rfl | (simp only [upd_app, killS_app, A.kill, entry_zero, entry_succ, Nat.reduceEqDiff, reduceIte, cClass, fullM, memC]; done)))
                · simp only [Try.f26, resA, resOne, toT, fin, doneS, doneM, DID, exec, stepQ, wantA, yieldA, kind, qv, qv1, qv2, stO, adrId, dataC, replC, eqNil, binNil, shiftInt, A.down, A1.up, downs, toR, ev, putS, rowO, ofConst, cellsA, cellsC, asC, asCs, ld, ldR, bin, binInt, binStr, binBool, sliceOf, bndOf, repl, fillC, zeroC, chunks, ptrIds, tabs, upd_app, mem_nil_app, entry_zero, entry_succ, entry_nil, top_app, maxStr, ByteArray.size, A.kill, O.kill, killS_app, killM_app, Nat.reduceAdd, Nat.reduceLeDiff, Nat.reduceEqDiff, Nat.reduceMul, Int.reduceToNat, reduceIte, wf_i64, Int.reduceLE, Int.reduceNeg, beq_self_eq_true, decide_true, decide_false, ybeq_some, ybeq_none, beqT, beqF, empty_toList, exs, memC, slotC]
                  rw [bad2 y (List.mem_of_getElem? hy) (by rw [hf2 o ho hge]; simpa using hal)]
              · intro hal
                repeat (first | refine WI.seq ?_ | refine WI.block ?_ | refine WI.skip ?_ | refine WI.exit ?_ | refine WI.region tab_ok 0 (by decide) (by kernel_rfl) (exec_run (by simp only [exec, stepQ, wantA, yieldA, kind, qv, qv1, qv2, stO, adrId, dataC, replC, eqNil, binNil, shiftInt, A.down, A1.up, downs, toR, ev, putS, rowO, ofConst, cellsA, cellsC, asC, asCs, ld, ldR, bin, binInt, binStr, binBool, sliceOf, bndOf, repl, fillC, zeroC, chunks, ptrIds, tabs, upd_app, mem_nil_app, entry_zero, entry_succ, entry_nil, top_app, maxStr, ByteArray.size, A.kill, O.kill, killS_app, killM_app, Nat.reduceAdd, Nat.reduceLeDiff, Nat.reduceEqDiff, Nat.reduceMul, Int.reduceToNat, reduceIte, wf_i64, Int.reduceLE, Int.reduceNeg, beq_self_eq_true, decide_true, decide_false, ybeq_some, ybeq_none, beqT, beqF, empty_toList, exs, fullM, memC, slotC, cClass]; rfl)) ?_)
                refine ⟨q + 1, ⟨hlt, ?_⟩, by omega, ?_⟩
                · rw [List.take_add_one, hy, List.all_append, hfit]; simp [hf2 o ho hge]; simpa using hal
                simp only [fullM, memC]
                refine le_mk ?sle ?mle ?swf ?mwf hkeepL (by rfl)
                case swf => repeat (first | exact swf_top _ | refine swf_upd ?_ (by simp [A.ids, upd_app, cClass, fullM, memC, wrap_succ (show q + 1 < 9223372036854775808 by have := (hS c hc).2.1; omega)]))
                case mwf => repeat (first | exact mwf_nil _ | refine mwf_upd ?_ (by simp [A.ids, O.ids, upd_app, cClass, fullM, memC, wrap_succ (show q + 1 < 9223372036854775808 by have := (hS c hc).2.1; omega)]))
                case mle => repeat (first | exact mle_nil _ | exact mle_refl _ | refine mle_upd ?_ (by first | rfl | (simp only [upd_app, killM_app, O.kill, A.kill, Nat.reduceEqDiff, reduceIte, Option.map_some, Option.map_none, List.map_cons, List.map_nil, cClass, fullM, memC, wrap_succ (show q + 1 < 9223372036854775808 by have := (hS c hc).2.1; omega)]; done)))
                case sle => repeat (first | exact sle_top _ | exact sle_refl _ | refine sle_upd ?_ (by first | rfl | (simp only [upd_app, killS_app, A.kill, entry_zero, entry_succ, Nat.reduceEqDiff, reduceIte, cClass, fullM, memC, wrap_succ (show q + 1 < 9223372036854775808 by have := (hS c hc).2.1; omega)]; done)))
          · intro hge
            simp only [decide_eq_false_iff_not, Int.ofNat_lt] at hge
            obtain rfl : q = c.methods.length := by omega
            repeat (first | refine WI.seq ?_ | refine WI.block ?_ | refine WI.skip ?_ | refine WI.exit ?_ | refine WI.region tab_ok 0 (by decide) (by kernel_rfl) (exec_run (by simp only [exec, stepQ, wantA, yieldA, kind, qv, qv1, qv2, stO, adrId, dataC, replC, eqNil, binNil, shiftInt, A.down, A1.up, downs, toR, ev, putS, rowO, ofConst, cellsA, cellsC, asC, asCs, ld, ldR, bin, binInt, binStr, binBool, sliceOf, bndOf, repl, fillC, zeroC, chunks, ptrIds, tabs, upd_app, mem_nil_app, entry_zero, entry_succ, entry_nil, top_app, maxStr, ByteArray.size, A.kill, O.kill, killS_app, killM_app, Nat.reduceAdd, Nat.reduceLeDiff, Nat.reduceEqDiff, Nat.reduceMul, Int.reduceToNat, reduceIte, wf_i64, Int.reduceLE, Int.reduceNeg, beq_self_eq_true, decide_true, decide_false, ybeq_some, ybeq_none, beqT, beqF, empty_toList, exs, fullM, memC, slotC, cClass]; rfl)) ?_)
            rw [List.take_length] at hfit
            refine ⟨good hfit, fun j => j, Le.toT ?_⟩
            simp only [fullM, memC]
            refine le_mk ?sle ?mle ?swf ?mwf (fun j hj => fullM_keep (hG _) hj) (by rfl)
            case swf => repeat (first | exact swf_top _ | refine swf_upd ?_ (by simp [A.ids, upd_app, cClass, fullM, memC]))
            case mwf => repeat (first | exact mwf_nil _ | refine mwf_upd ?_ (by simp [A.ids, O.ids, upd_app, cClass, fullM, memC]))
            case mle => repeat (first | exact mle_nil _ | exact mle_refl _ | refine mle_upd ?_ (by first | rfl | (simp only [upd_app, killM_app, O.kill, A.kill, Nat.reduceEqDiff, reduceIte, Option.map_some, Option.map_none, List.map_cons, List.map_nil, cClass, fullM, memC]; done)))
            case sle => repeat (first | exact sle_top _ | exact sle_refl _ | refine sle_upd ?_ (by first | rfl | (simp only [upd_app, killS_app, A.kill, entry_zero, entry_succ, Nat.reduceEqDiff, reduceIte, cClass, fullM, memC]; done)))
  case done =>
    intro hAll b
    rw [List.take_length] at hAll ⊢
    have hcl := (hS c hc)
    have hmN : ∀ l : List Method, (l.map (·.name)).length = l.length := fun l => by simp
    repeat (first | refine W.seq ?_ | refine W.block ?_ | refine W.skip ?_ | refine W.exit ?_ | refine W.region tab_ok 0 (by decide) (exec_run (by simp only [exec, stepQ, wantA, yieldA, kind, qv, qv1, qv2, stO, adrId, dataC, replC, eqNil, binNil, shiftInt, A.down, A1.up, downs, toR, ev, putS, rowO, ofConst, cellsA, cellsC, asC, asCs, ld, ldR, bin, binInt, binStr, binBool, sliceOf, bndOf, repl, fillC, zeroC, chunks, ptrIds, tabs, upd_app, mem_nil_app, entry_zero, entry_succ, entry_nil, top_app, maxStr, ByteArray.size, A.kill, O.kill, killS_app, killM_app, Nat.reduceAdd, Nat.reduceLeDiff, Nat.reduceEqDiff, Nat.reduceMul, Int.reduceToNat, reduceIte, wf_i64, Int.reduceLE, Int.reduceNeg, beq_self_eq_true, decide_true, decide_false, ybeq_some, ybeq_none, beqT, beqF, empty_toList, exs, doneS, doneM, DID, memC, slotC, cClass]; rfl)) ?_)
    refine W.newArr 6 60 9 1 rfl rfl ?_
    refine W.loop (ι := Nat) (fun q => ⟨upd (upd (upd (upd (upd (upd (doneS (fun _ => .top) b 1002) 4 (.ptr 4 0)) 5 (.ptr 5 0)) 6 (.own 60)) 67 (.c (.sl (c.methods.map cMethod)))) 68 (.c (.int .i64 c.methods.length))) 69 (.c (.int .i64 q)),
      upd (doneM (memC cs mn c false (fieldsUp cs (upX cs (cs.length + 1) 0 c.name))) 1002) 60 (some (.arr 9 1 (((c.methods.take q).map (·.name)).map cStr)))⟩) (fun q => q ≤ c.methods.length ∧ (c.methods.take q).all (fun m => onceB (namesL m.params)) = true) (fun q => c.methods.length - q) 0 ?start ⟨Nat.zero_le _, rfl⟩ ?round
    case start =>
      simp only [doneS, doneM, memC, DID]
      refine le_mk ?sle ?mle ?swf ?mwf (kept_not hkeep) (by rfl)
      case swf => repeat (first | exact swf_top _ | refine swf_upd ?_ (by simp [A.ids, upd_app, cClass, List.take_zero]))
      case mwf => repeat (first | exact mwf_nil _ | refine mwf_upd ?_ (by simp [A.ids, O.ids, upd_app, cClass, List.take_zero]))
      case mle => repeat (first | exact mle_nil _ | exact mle_refl _ | refine mle_upd ?_ (by first | rfl | (simp only [upd_app, killM_app, O.kill, A.kill, Nat.reduceEqDiff, reduceIte, Option.map_some, Option.map_none, List.map_cons, List.map_nil, cClass, List.take_zero]; done)))
      case sle => repeat (first | exact sle_top _ | exact sle_refl _ | refine sle_upd ?_ (by first | rfl | (simp only [upd_app, killS_app, A.kill, entry_zero, entry_succ, Nat.reduceEqDiff, reduceIte, cClass, List.take_zero]; done)))
    case round =>
      rintro q ⟨hq, hon⟩
      repeat (first | refine W.seq ?_ | refine W.block ?_ | refine W.skip ?_ | refine W.exit ?_ | refine W.region tab_ok 0 (by decide) (exec_run (by simp only [exec, stepQ, wantA, yieldA, kind, qv, qv1, qv2, stO, adrId, dataC, replC, eqNil, binNil, shiftInt, A.down, A1.up, downs, toR, ev, putS, rowO, ofConst, cellsA, cellsC, asC, asCs, ld, ldR, bin, binInt, binStr, binBool, sliceOf, bndOf, repl, fillC, zeroC, chunks, ptrIds, tabs, upd_app, mem_nil_app, entry_zero, entry_succ, entry_nil, top_app, maxStr, ByteArray.size, A.kill, O.kill, killS_app, killM_app, Nat.reduceAdd, Nat.reduceLeDiff, Nat.reduceEqDiff, Nat.reduceMul, Int.reduceToNat, reduceIte, wf_i64, Int.reduceLE, Int.reduceNeg, beq_self_eq_true, decide_true, decide_false, ybeq_some, ybeq_none, beqT, beqF, empty_toList, exs, doneS, doneM, DID, memC, cClass]; rfl)) ?_)
      refine W.cond rfl ?_ ?_
      · intro hlt
        simp only [decide_eq_true_eq, Int.ofNat_lt] at hlt
        obtain ⟨y, hy⟩ : ∃ y, c.methods[q]? = some y := ⟨_, List.getElem?_eq_getElem hlt⟩
        have hyp := hcl.2.2 y (List.mem_of_getElem? hy)
        repeat (first | refine W.seq ?_ | refine W.block ?_ | refine W.skip ?_ | refine W.exit ?_ | refine W.region tab_ok 0 (by decide) (exec_run (by simp only [exec, stepQ, wantA, yieldA, kind, qv, qv1, qv2, stO, adrId, dataC, replC, eqNil, binNil, shiftInt, A.down, A1.up, downs, toR, ev, putS, rowO, ofConst, cellsA, cellsC, asC, asCs, ld, ldR, bin, binInt, binStr, binBool, sliceOf, bndOf, repl, fillC, zeroC, chunks, ptrIds, tabs, upd_app, mem_nil_app, entry_zero, entry_succ, entry_nil, top_app, maxStr, ByteArray.size, A.kill, O.kill, killS_app, killM_app, Nat.reduceAdd, Nat.reduceLeDiff, Nat.reduceEqDiff, Nat.reduceMul, Int.reduceToNat, reduceIte, wf_i64, Int.reduceLE, Int.reduceNeg, beq_self_eq_true, decide_true, decide_false, ybeq_some, ybeq_none, beqT, beqF, empty_toList, exs, doneS, doneM, DID, memC, cClass, at_map hy, cMethod]; rfl)) ?_)
        refine W.regionK tab_ok 0 (by decide) ?_
        refine runk_split 4 (by simp only [exec, stepQ, wantA, yieldA, kind, qv, qv1, qv2, stO, adrId, dataC, replC, eqNil, binNil, shiftInt, A.down, A1.up, downs, toR, ev, putS, rowO, ofConst, cellsA, cellsC, asC, asCs, ld, ldR, bin, binInt, binStr, binBool, sliceOf, bndOf, repl, fillC, zeroC, chunks, ptrIds, tabs, upd_app, mem_nil_app, entry_zero, entry_succ, entry_nil, top_app, maxStr, ByteArray.size, A.kill, O.kill, killS_app, killM_app, Nat.reduceAdd, Nat.reduceLeDiff, Nat.reduceEqDiff, Nat.reduceMul, Int.reduceToNat, reduceIte, wf_i64, Int.reduceLE, Int.reduceNeg, beq_self_eq_true, decide_true, decide_false, ybeq_some, ybeq_none, beqT, beqF, empty_toList, exs, doneS, doneM, DID, memC, cClass]; rfl) ?_
        refine runk_append tab_ok 60 rfl rfl rfl rfl rfl rfl rfl rfl (by first | rfl | (simp only [exec, stepQ, wantA, yieldA, kind, qv, qv1, qv2, stO, adrId, dataC, replC, eqNil, binNil, shiftInt, A.down, A1.up, downs, toR, ev, putS, rowO, ofConst, cellsA, cellsC, asC, asCs, ld, ldR, bin, binInt, binStr, binBool, sliceOf, bndOf, repl, fillC, zeroC, chunks, ptrIds, tabs, upd_app, mem_nil_app, entry_zero, entry_succ, entry_nil, top_app, maxStr, ByteArray.size, A.kill, O.kill, killS_app, killM_app, Nat.reduceAdd, Nat.reduceLeDiff, Nat.reduceEqDiff, Nat.reduceMul, Int.reduceToNat, reduceIte, wf_i64, Int.reduceLE, Int.reduceNeg, beq_self_eq_true, decide_true, decide_false, ybeq_some, ybeq_none, beqT, beqF, empty_toList, exs, doneS, doneM, DID, memC, cClass]; rfl)) rfl rfl rfl rfl (nokeep hkeep) (by simp) (by have h1 := List.length_take_le q c.methods; simp only [List.length_map, List.length_cons, List.length_nil]; omega) (by decide) ?_
        refine runk_exec (by simp only [exec, stepQ, wantA, yieldA, kind, qv, qv1, qv2, stO, adrId, dataC, replC, eqNil, binNil, shiftInt, A.down, A1.up, downs, toR, ev, putS, rowO, ofConst, cellsA, cellsC, asC, asCs, ld, ldR, bin, binInt, binStr, binBool, sliceOf, bndOf, repl, fillC, zeroC, chunks, ptrIds, tabs, upd_app, mem_nil_app, entry_zero, entry_succ, entry_nil, top_app, maxStr, ByteArray.size, A.kill, O.kill, killS_app, killM_app, Nat.reduceAdd, Nat.reduceLeDiff, Nat.reduceEqDiff, Nat.reduceMul, Int.reduceToNat, reduceIte, wf_i64, Int.reduceLE, Int.reduceNeg, beq_self_eq_true, decide_true, decide_false, ybeq_some, ybeq_none, beqT, beqF, empty_toList, exs, doneS, doneM, DID, memC, cClass]; rfl) ?_
        refine W.seq ?_
        refine W.regionK tab_ok 0 (by decide) ?_
        refine runk_split 2 (by simp only [exec, stepQ, wantA, yieldA, kind, qv, qv1, qv2, stO, adrId, dataC, replC, eqNil, binNil, shiftInt, A.down, A1.up, downs, toR, ev, putS, rowO, ofConst, cellsA, cellsC, asC, asCs, ld, ldR, bin, binInt, binStr, binBool, sliceOf, bndOf, repl, fillC, zeroC, chunks, ptrIds, tabs, upd_app, mem_nil_app, entry_zero, entry_succ, entry_nil, top_app, maxStr, ByteArray.size, A.kill, O.kill, killS_app, killM_app, Nat.reduceAdd, Nat.reduceLeDiff, Nat.reduceEqDiff, Nat.reduceMul, Int.reduceToNat, reduceIte, wf_i64, Int.reduceLE, Int.reduceNeg, beq_self_eq_true, decide_true, decide_false, ybeq_some, ybeq_none, beqT, beqF, empty_toList, exs, doneS, doneM, DID, memC, cClass]; rfl) ?_
        refine runk_call rfl rfl rfl rfl rfl (by simp) (cvs_cons cv_refl cvs_nil) (namesS_ok y.params (by omega) _) ?_
        refine runk_split 0 (by simp only [exec, stepQ, wantA, yieldA, kind, qv, qv1, qv2, stO, adrId, dataC, replC, eqNil, binNil, shiftInt, A.down, A1.up, downs, toR, ev, putS, rowO, ofConst, cellsA, cellsC, asC, asCs, ld, ldR, bin, binInt, binStr, binBool, sliceOf, bndOf, repl, fillC, zeroC, chunks, ptrIds, tabs, upd_app, mem_nil_app, entry_zero, entry_succ, entry_nil, top_app, maxStr, ByteArray.size, A.kill, O.kill, killS_app, killM_app, Nat.reduceAdd, Nat.reduceLeDiff, Nat.reduceEqDiff, Nat.reduceMul, Int.reduceToNat, reduceIte, wf_i64, Int.reduceLE, Int.reduceNeg, beq_self_eq_true, decide_true, decide_false, ybeq_some, ybeq_none, beqT, beqF, empty_toList, exs, doneS, doneM, DID, memC, cClass]; rfl) ?_
        refine runk_call rfl rfl rfl rfl rfl (by simp) (cvs_cons cv_refl cvs_nil) (once_ok (namesL y.params) (by simp [namesL]; omega) _) ?_
        refine runk_exec (by simp only [exec, stepQ, wantA, yieldA, kind, qv, qv1, qv2, stO, adrId, dataC, replC, eqNil, binNil, shiftInt, A.down, A1.up, downs, toR, ev, putS, rowO, ofConst, cellsA, cellsC, asC, asCs, ld, ldR, bin, binInt, binStr, binBool, sliceOf, bndOf, repl, fillC, zeroC, chunks, ptrIds, tabs, upd_app, mem_nil_app, entry_zero, entry_succ, entry_nil, top_app, maxStr, ByteArray.size, A.kill, O.kill, killS_app, killM_app, Nat.reduceAdd, Nat.reduceLeDiff, Nat.reduceEqDiff, Nat.reduceMul, Int.reduceToNat, reduceIte, wf_i64, Int.reduceLE, Int.reduceNeg, beq_self_eq_true, decide_true, decide_false, ybeq_some, ybeq_none, beqT, beqF, empty_toList, exs, doneS, doneM, DID, memC, cClass]; rfl) ?_
        refine W.cond rfl ?_ ?_
        · intro hb
          repeat (first | refine W.seq ?_ | refine W.block ?_ | refine W.skip ?_ | refine W.exit ?_ | refine W.region tab_ok 0 (by decide) (exec_run (by simp only [exec, stepQ, wantA, yieldA, kind, qv, qv1, qv2, stO, adrId, dataC, replC, eqNil, binNil, shiftInt, A.down, A1.up, downs, toR, ev, putS, rowO, ofConst, cellsA, cellsC, asC, asCs, ld, ldR, bin, binInt, binStr, binBool, sliceOf, bndOf, repl, fillC, zeroC, chunks, ptrIds, tabs, upd_app, mem_nil_app, entry_zero, entry_succ, entry_nil, top_app, maxStr, ByteArray.size, A.kill, O.kill, killS_app, killM_app, Nat.reduceAdd, Nat.reduceLeDiff, Nat.reduceEqDiff, Nat.reduceMul, Int.reduceToNat, reduceIte, wf_i64, Int.reduceLE, Int.reduceNeg, beq_self_eq_true, decide_true, decide_false, ybeq_some, ybeq_none, beqT, beqF, empty_toList, exs, doneS, doneM, DID, memC, cClass]; rfl)) ?_)
          refine W.ret ⟨.inr rfl, .inr ⟨b, 1002, rfl, rfl, rfl, ?_⟩⟩
          simp only [Try.f26, resA, resOne, toT, fin, doneS, doneM, DID, exec, stepQ, wantA, yieldA, kind, qv, qv1, qv2, stO, adrId, dataC, replC, eqNil, binNil, shiftInt, A.down, A1.up, downs, toR, ev, putS, rowO, ofConst, cellsA, cellsC, asC, asCs, ld, ldR, bin, binInt, binStr, binBool, sliceOf, bndOf, repl, fillC, zeroC, chunks, ptrIds, tabs, upd_app, mem_nil_app, entry_zero, entry_succ, entry_nil, top_app, maxStr, ByteArray.size, A.kill, O.kill, killS_app, killM_app, Nat.reduceAdd, Nat.reduceLeDiff, Nat.reduceEqDiff, Nat.reduceMul, Int.reduceToNat, reduceIte, wf_i64, Int.reduceLE, Int.reduceNeg, beq_self_eq_true, decide_true, decide_false, ybeq_some, ybeq_none, beqT, beqF, empty_toList, exs, memC]
          have : okClassB cs c = false := by
            unfold okClassB
            have : (c.methods.all fun m => onceB (namesL m.params)) = false := by
              rw [List.all_eq_false]
              exact ⟨y, List.mem_of_getElem? hy, by simpa using hb⟩
            rw [this]; simp
          rw [this]
        · intro hb
          repeat (first | refine W.seq ?_ | refine W.block ?_ | refine W.skip ?_ | refine W.exit ?_ | refine W.region tab_ok 0 (by decide) (exec_run (by simp only [exec, stepQ, wantA, yieldA, kind, qv, qv1, qv2, stO, adrId, dataC, replC, eqNil, binNil, shiftInt, A.down, A1.up, downs, toR, ev, putS, rowO, ofConst, cellsA, cellsC, asC, asCs, ld, ldR, bin, binInt, binStr, binBool, sliceOf, bndOf, repl, fillC, zeroC, chunks, ptrIds, tabs, upd_app, mem_nil_app, entry_zero, entry_succ, entry_nil, top_app, maxStr, ByteArray.size, A.kill, O.kill, killS_app, killM_app, Nat.reduceAdd, Nat.reduceLeDiff, Nat.reduceEqDiff, Nat.reduceMul, Int.reduceToNat, reduceIte, wf_i64, Int.reduceLE, Int.reduceNeg, beq_self_eq_true, decide_true, decide_false, ybeq_some, ybeq_none, beqT, beqF, empty_toList, exs, doneS, doneM, DID, memC, cClass]; rfl)) ?_)
          refine ⟨q + 1, ⟨hlt, ?_⟩, by omega, ?_⟩
          · rw [List.take_add_one, hy, List.all_append, hon]; simpa using hb
          simp only [doneS, doneM, memC, DID]
          refine le_mk ?sle ?mle ?swf ?mwf (kept_not hkeep) (by rfl)
          case swf => repeat (first | exact swf_top _ | refine swf_upd ?_ (by simp [A.ids, upd_app, cClass, wrap_succ (show q + 1 < 9223372036854775808 by omega), List.take_add_one, hy, Option.toList_some, List.map_append, cStr]))
          case mwf => repeat (first | exact mwf_nil _ | refine mwf_upd ?_ (by simp [A.ids, O.ids, upd_app, cClass, wrap_succ (show q + 1 < 9223372036854775808 by omega), List.take_add_one, hy, Option.toList_some, List.map_append, cStr]))
          case mle => repeat (first | exact mle_nil _ | exact mle_refl _ | refine mle_upd ?_ (by first | rfl | (simp only [upd_app, killM_app, O.kill, A.kill, Nat.reduceEqDiff, reduceIte, Option.map_some, Option.map_none, List.map_cons, List.map_nil, cClass, wrap_succ (show q + 1 < 9223372036854775808 by omega), List.take_add_one, hy, Option.toList_some, List.map_append, cStr]; done)))
          case sle => repeat (first | exact sle_top _ | exact sle_refl _ | refine sle_upd ?_ (by first | rfl | (simp only [upd_app, killS_app, A.kill, entry_zero, entry_succ, Nat.reduceEqDiff, reduceIte, cClass, wrap_succ (show q + 1 < 9223372036854775808 by omega), List.take_add_one, hy, Option.toList_some, List.map_append, cStr]; done)))
      · intro hge
        simp only [decide_eq_false_iff_not, Int.ofNat_lt] at hge
        obtain rfl : q = c.methods.length := by omega
        rw [List.take_length] at hon
        have hfl := fieldsUp_len hS (upX cs (cs.length + 1) 0 c.name)
        have hul := upX_len cs (cs.length + 1) 0 c.name
        have hval : okClassB cs c = (onceB (fieldsUp cs (upX cs (cs.length + 1) 0 c.name)) && onceB (c.methods.map (·.name))) := by
          unfold okClassB
          rw [hAll, hon]; simp
        repeat (first | refine W.seq ?_ | refine W.block ?_ | refine W.skip ?_ | refine W.exit ?_ | refine W.region tab_ok 0 (by decide) (exec_run (by simp only [exec, stepQ, wantA, yieldA, kind, qv, qv1, qv2, stO, adrId, dataC, replC, eqNil, binNil, shiftInt, A.down, A1.up, downs, toR, ev, putS, rowO, ofConst, cellsA, cellsC, asC, asCs, ld, ldR, bin, binInt, binStr, binBool, sliceOf, bndOf, repl, fillC, zeroC, chunks, ptrIds, tabs, upd_app, mem_nil_app, entry_zero, entry_succ, entry_nil, top_app, maxStr, ByteArray.size, A.kill, O.kill, killS_app, killM_app, Nat.reduceAdd, Nat.reduceLeDiff, Nat.reduceEqDiff, Nat.reduceMul, Int.reduceToNat, reduceIte, wf_i64, Int.reduceLE, Int.reduceNeg, beq_self_eq_true, decide_true, decide_false, ybeq_some, ybeq_none, beqT, beqF, empty_toList, exs, doneS, doneM, DID, memC, cClass]; rfl)) ?_)
        refine W.regionK tab_ok 0 (by decide) ?_
        refine runk_split 1 (by simp only [exec, stepQ, wantA, yieldA, kind, qv, qv1, qv2, stO, adrId, dataC, replC, eqNil, binNil, shiftInt, A.down, A1.up, downs, toR, ev, putS, rowO, ofConst, cellsA, cellsC, asC, asCs, ld, ldR, bin, binInt, binStr, binBool, sliceOf, bndOf, repl, fillC, zeroC, chunks, ptrIds, tabs, upd_app, mem_nil_app, entry_zero, entry_succ, entry_nil, top_app, maxStr, ByteArray.size, A.kill, O.kill, killS_app, killM_app, Nat.reduceAdd, Nat.reduceLeDiff, Nat.reduceEqDiff, Nat.reduceMul, Int.reduceToNat, reduceIte, wf_i64, Int.reduceLE, Int.reduceNeg, beq_self_eq_true, decide_true, decide_false, ybeq_some, ybeq_none, beqT, beqF, empty_toList, exs, doneS, doneM, DID, memC, cClass]; rfl) ?_
        refine runk_call rfl rfl rfl rfl rfl (by simp) (cvs_cons (cv_own rfl) cvs_nil) (once_ok (fieldsUp cs (upX cs (cs.length + 1) 0 c.name)) (by omega) _) ?_
        cases h1 : onceB (fieldsUp cs (upX cs (cs.length + 1) 0 c.name)) with
        | false =>
          refine runk_exec (by simp only [exec, stepQ, wantA, yieldA, kind, qv, qv1, qv2, stO, adrId, dataC, replC, eqNil, binNil, shiftInt, A.down, A1.up, downs, toR, ev, putS, rowO, ofConst, cellsA, cellsC, asC, asCs, ld, ldR, bin, binInt, binStr, binBool, sliceOf, bndOf, repl, fillC, zeroC, chunks, ptrIds, tabs, upd_app, mem_nil_app, entry_zero, entry_succ, entry_nil, top_app, maxStr, ByteArray.size, A.kill, O.kill, killS_app, killM_app, Nat.reduceAdd, Nat.reduceLeDiff, Nat.reduceEqDiff, Nat.reduceMul, Int.reduceToNat, reduceIte, wf_i64, Int.reduceLE, Int.reduceNeg, beq_self_eq_true, decide_true, decide_false, ybeq_some, ybeq_none, beqT, beqF, empty_toList, exs, doneS, doneM, DID, memC, cClass]; rfl) ?_
          refine W.ret ⟨.inr rfl, .inr ⟨b, 1002, rfl, rfl, rfl, ?_⟩⟩
          simp only [Try.f26, resA, resOne, toT, fin, doneS, doneM, DID, exec, stepQ, wantA, yieldA, kind, qv, qv1, qv2, stO, adrId, dataC, replC, eqNil, binNil, shiftInt, A.down, A1.up, downs, toR, ev, putS, rowO, ofConst, cellsA, cellsC, asC, asCs, ld, ldR, bin, binInt, binStr, binBool, sliceOf, bndOf, repl, fillC, zeroC, chunks, ptrIds, tabs, upd_app, mem_nil_app, entry_zero, entry_succ, entry_nil, top_app, maxStr, ByteArray.size, A.kill, O.kill, killS_app, killM_app, Nat.reduceAdd, Nat.reduceLeDiff, Nat.reduceEqDiff, Nat.reduceMul, Int.reduceToNat, reduceIte, wf_i64, Int.reduceLE, Int.reduceNeg, beq_self_eq_true, decide_true, decide_false, ybeq_some, ybeq_none, beqT, beqF, empty_toList, exs, memC]
          rw [hval, h1]; rfl
        | true =>
          refine runk_split 2 (by simp only [exec, stepQ, wantA, yieldA, kind, qv, qv1, qv2, stO, adrId, dataC, replC, eqNil, binNil, shiftInt, A.down, A1.up, downs, toR, ev, putS, rowO, ofConst, cellsA, cellsC, asC, asCs, ld, ldR, bin, binInt, binStr, binBool, sliceOf, bndOf, repl, fillC, zeroC, chunks, ptrIds, tabs, upd_app, mem_nil_app, entry_zero, entry_succ, entry_nil, top_app, maxStr, ByteArray.size, A.kill, O.kill, killS_app, killM_app, Nat.reduceAdd, Nat.reduceLeDiff, Nat.reduceEqDiff, Nat.reduceMul, Int.reduceToNat, reduceIte, wf_i64, Int.reduceLE, Int.reduceNeg, beq_self_eq_true, decide_true, decide_false, ybeq_some, ybeq_none, beqT, beqF, empty_toList, exs, doneS, doneM, DID, memC, cClass, List.take_length]; rfl) ?_
          refine runk_call rfl rfl rfl rfl rfl (by simp) (cvs_cons (cv_own rfl) cvs_nil) (once_ok (c.methods.map (·.name)) (by simp; omega) _) ?_
          refine runk_exec (by simp only [exec, stepQ, wantA, yieldA, kind, qv, qv1, qv2, stO, adrId, dataC, replC, eqNil, binNil, shiftInt, A.down, A1.up, downs, toR, ev, putS, rowO, ofConst, cellsA, cellsC, asC, asCs, ld, ldR, bin, binInt, binStr, binBool, sliceOf, bndOf, repl, fillC, zeroC, chunks, ptrIds, tabs, upd_app, mem_nil_app, entry_zero, entry_succ, entry_nil, top_app, maxStr, ByteArray.size, A.kill, O.kill, killS_app, killM_app, Nat.reduceAdd, Nat.reduceLeDiff, Nat.reduceEqDiff, Nat.reduceMul, Int.reduceToNat, reduceIte, wf_i64, Int.reduceLE, Int.reduceNeg, beq_self_eq_true, decide_true, decide_false, ybeq_some, ybeq_none, beqT, beqF, empty_toList, exs, doneS, doneM, DID, memC, cClass]; rfl) ?_
          refine W.ret ⟨.inr rfl, .inr ⟨b, 1002, rfl, rfl, rfl, ?_⟩⟩
          simp only [Try.f26, resA, resOne, toT, fin, doneS, doneM, DID, exec, stepQ, wantA, yieldA, kind, qv, qv1, qv2, stO, adrId, dataC, replC, eqNil, binNil, shiftInt, A.down, A1.up, downs, toR, ev, putS, rowO, ofConst, cellsA, cellsC, asC, asCs, ld, ldR, bin, binInt, binStr, binBool, sliceOf, bndOf, repl, fillC, zeroC, chunks, ptrIds, tabs, upd_app, mem_nil_app, entry_zero, entry_succ, entry_nil, top_app, maxStr, ByteArray.size, A.kill, O.kill, killS_app, killM_app, Nat.reduceAdd, Nat.reduceLeDiff, Nat.reduceEqDiff, Nat.reduceMul, Int.reduceToNat, reduceIte, wf_i64, Int.reduceLE, Int.reduceNeg, beq_self_eq_true, decide_true, decide_false, ybeq_some, ybeq_none, beqT, beqF, empty_toList, exs, memC]
          rw [hval, h1]; rfl
end V
end Go.Proofs.Ytjciafpihdbedaa
end
section
/- classes.Check, Chain, Below over plain data. -/
set_option linter.unusedVariables false
set_option linter.unusedSimpArgs false
namespace Go.Proofs.Ytjciafpihdbedaa
namespace V
open Go.RowKit
set_option linter.unusedSimpArgs false
theorem check1_ok (cs : List Class) (mn : C) (c : Class) (hS : SmallC cs) (hlen : cs.length ≤ 16) (hc : c ∈ cs) (m : Mem) : COk Try.prog 25 [.agg (cClass c), .rptr [.sl (cs.map cClass), mn]] m (.c (.bool (!okClassB cs c))) := by
  refine (ok_pure tab_ok Try.func25 (by kernel_rfl) rfl rfl (by rfl) (by rfl) (by rfl) (fun R hkeep => ?_) m)
  repeat (first | refine W.seq ?_ | refine W.block ?_ | refine W.skip ?_ | refine W.exit ?_ | refine W.region tab_ok 0 (by decide) (exec_run (by simp only [exec, stepQ, wantA, yieldA, kind, qv, qv1, qv2, stO, adrId, dataC, replC, eqNil, binNil, shiftInt, A.down, A1.up, downs, toR, ev, putS, rowO, ofConst, cellsA, cellsC, asC, asCs, ld, ldR, bin, binInt, binStr, binBool, sliceOf, bndOf, repl, fillC, zeroC, chunks, ptrIds, tabs, upd_app, mem_nil_app, entry_zero, entry_succ, entry_nil, top_app, maxStr, ByteArray.size, A.kill, O.kill, killS_app, killM_app, Nat.reduceAdd, Nat.reduceLeDiff, Nat.reduceEqDiff, Nat.reduceMul, Int.reduceToNat, reduceIte, wf_i64, Int.reduceLE, Int.reduceNeg, beq_self_eq_true, decide_true, decide_false, ybeq_some, ybeq_none, beqT, beqF, empty_toList, exs, cClass]; rfl)) ?_)
  refine W.regionK tab_ok 0 (by decide) ?_
  refine runk_split 2 (by simp only [exec, stepQ, wantA, yieldA, kind, qv, qv1, qv2, stO, adrId, dataC, replC, eqNil, binNil, shiftInt, A.down, A1.up, downs, toR, ev, putS, rowO, ofConst, cellsA, cellsC, asC, asCs, ld, ldR, bin, binInt, binStr, binBool, sliceOf, bndOf, repl, fillC, zeroC, chunks, ptrIds, tabs, upd_app, mem_nil_app, entry_zero, entry_succ, entry_nil, top_app, maxStr, ByteArray.size, A.kill, O.kill, killS_app, killM_app, Nat.reduceAdd, Nat.reduceLeDiff, Nat.reduceEqDiff, Nat.reduceMul, Int.reduceToNat, reduceIte, wf_i64, Int.reduceLE, Int.reduceNeg, beq_self_eq_true, decide_true, decide_false, ybeq_some, ybeq_none, beqT, beqF, empty_toList, exs, cClass]; rfl) ?_
  refine runk_call rfl rfl rfl rfl rfl (by simp) (cvs_cons cv_refl (cvs_cons cv_refl cvs_nil)) (class_ok cs mn c hS hlen hc _) ?_
  refine runk_exec (by simp only [exec, stepQ, wantA, yieldA, kind, qv, qv1, qv2, stO, adrId, dataC, replC, eqNil, binNil, shiftInt, A.down, A1.up, downs, toR, ev, putS, rowO, ofConst, cellsA, cellsC, asC, asCs, ld, ldR, bin, binInt, binStr, binBool, sliceOf, bndOf, repl, fillC, zeroC, chunks, ptrIds, tabs, upd_app, mem_nil_app, entry_zero, entry_succ, entry_nil, top_app, maxStr, ByteArray.size, A.kill, O.kill, killS_app, killM_app, Nat.reduceAdd, Nat.reduceLeDiff, Nat.reduceEqDiff, Nat.reduceMul, Int.reduceToNat, reduceIte, wf_i64, Int.reduceLE, Int.reduceNeg, beq_self_eq_true, decide_true, decide_false, ybeq_some, ybeq_none, beqT, beqF, empty_toList, exs]; rfl) ?_
  refine W.ret ⟨.inr rfl, by rfl, ?_⟩
  simp only [Try.f25, resA, resOne, toT, fin, exec, stepQ, wantA, yieldA, kind, qv, qv1, qv2, stO, adrId, dataC, replC, eqNil, binNil, shiftInt, A.down, A1.up, downs, toR, ev, putS, rowO, ofConst, cellsA, cellsC, asC, asCs, ld, ldR, bin, binInt, binStr, binBool, sliceOf, bndOf, repl, fillC, zeroC, chunks, ptrIds, tabs, upd_app, mem_nil_app, entry_zero, entry_succ, entry_nil, top_app, maxStr, ByteArray.size, A.kill, O.kill, killS_app, killM_app, Nat.reduceAdd, Nat.reduceLeDiff, Nat.reduceEqDiff, Nat.reduceMul, Int.reduceToNat, reduceIte, wf_i64, Int.reduceLE, Int.reduceNeg, beq_self_eq_true, decide_true, decide_false, ybeq_some, ybeq_none, beqT, beqF, empty_toList, exs]
/-- What Check answers; e: what the tree's check says. -/
def chkErr (e : Int) (cs : List Class) : Int :=
  if e = 0 then (if 16 < cs.length then 6 else if onceB (cs.map (·.name)) = false then 60 else if cs.any (fun c => !okClassB cs c) = true then 60 else 0) else e
theorem chkErr_wf {e : Int} (he : (Lit.int .i64 e).wf = true) (cs : List Class) : (Lit.int .i64 (chkErr e cs)).wf = true := by
  unfold chkErr; split
  · split
    · decide
    · split
      · decide
      · split <;> decide
  · exact he
set_option maxHeartbeats 1000000 in
theorem check_ok (p : Program) (e : Int) (hS : SmallC p.classes) (hlen : p.classes.length ≤ 1000000000) (hck : ∀ m, COk Try.prog 22 [.agg (cProg p)] m (.c (.int .i64 e))) (m : Mem) :
    COk Try.prog 9 [.agg (cProg p)] m (.c (.int .i64 (chkErr e p.classes))) := by
  obtain ⟨cs, mn⟩ := p
  dsimp only at hS hlen hck ⊢
  refine (ok_pure tab_ok Try.func9 (by kernel_rfl) rfl rfl (by rfl) (by rfl) (by rfl) (fun R hkeep => ?_) m)
  repeat (first | refine W.seq ?_ | refine W.block ?_ | refine W.skip ?_ | refine W.exit ?_ | refine W.region tab_ok 0 (by decide) (exec_run (by simp only [exec, stepQ, wantA, yieldA, kind, qv, qv1, qv2, stO, adrId, dataC, replC, eqNil, binNil, shiftInt, A.down, A1.up, downs, toR, ev, putS, rowO, ofConst, cellsA, cellsC, asC, asCs, ld, ldR, bin, binInt, binStr, binBool, sliceOf, bndOf, repl, fillC, zeroC, chunks, ptrIds, tabs, upd_app, mem_nil_app, entry_zero, entry_succ, entry_nil, top_app, maxStr, ByteArray.size, A.kill, O.kill, killS_app, killM_app, Nat.reduceAdd, Nat.reduceLeDiff, Nat.reduceEqDiff, Nat.reduceMul, Int.reduceToNat, reduceIte, wf_i64, Int.reduceLE, Int.reduceNeg, beq_self_eq_true, decide_true, decide_false, ybeq_some, ybeq_none, beqT, beqF, empty_toList, exs, cProg]; rfl)) ?_)
  refine W.regionK tab_ok 0 (by decide) ?_
  refine runk_split 1 (by simp only [exec, stepQ, wantA, yieldA, kind, qv, qv1, qv2, stO, adrId, dataC, replC, eqNil, binNil, shiftInt, A.down, A1.up, downs, toR, ev, putS, rowO, ofConst, cellsA, cellsC, asC, asCs, ld, ldR, bin, binInt, binStr, binBool, sliceOf, bndOf, repl, fillC, zeroC, chunks, ptrIds, tabs, upd_app, mem_nil_app, entry_zero, entry_succ, entry_nil, top_app, maxStr, ByteArray.size, A.kill, O.kill, killS_app, killM_app, Nat.reduceAdd, Nat.reduceLeDiff, Nat.reduceEqDiff, Nat.reduceMul, Int.reduceToNat, reduceIte, wf_i64, Int.reduceLE, Int.reduceNeg, beq_self_eq_true, decide_true, decide_false, ybeq_some, ybeq_none, beqT, beqF, empty_toList, exs, cProg]; rfl) ?_
  refine runk_call rfl rfl rfl rfl rfl (by simp) (cvs_cons cv_refl cvs_nil) (hck _) ?_
  refine runk_exec (by simp only [exec, stepQ, wantA, yieldA, kind, qv, qv1, qv2, stO, adrId, dataC, replC, eqNil, binNil, shiftInt, A.down, A1.up, downs, toR, ev, putS, rowO, ofConst, cellsA, cellsC, asC, asCs, ld, ldR, bin, binInt, binStr, binBool, sliceOf, bndOf, repl, fillC, zeroC, chunks, ptrIds, tabs, upd_app, mem_nil_app, entry_zero, entry_succ, entry_nil, top_app, maxStr, ByteArray.size, A.kill, O.kill, killS_app, killM_app, Nat.reduceAdd, Nat.reduceLeDiff, Nat.reduceEqDiff, Nat.reduceMul, Int.reduceToNat, reduceIte, wf_i64, Int.reduceLE, Int.reduceNeg, beq_self_eq_true, decide_true, decide_false, ybeq_some, ybeq_none, beqT, beqF, empty_toList, exs]; rfl) ?_
  repeat (first | refine W.seq ?_ | refine W.block ?_ | refine W.skip ?_ | refine W.exit ?_ | refine W.region tab_ok 0 (by decide) (exec_run (by simp only [exec, stepQ, wantA, yieldA, kind, qv, qv1, qv2, stO, adrId, dataC, replC, eqNil, binNil, shiftInt, A.down, A1.up, downs, toR, ev, putS, rowO, ofConst, cellsA, cellsC, asC, asCs, ld, ldR, bin, binInt, binStr, binBool, sliceOf, bndOf, repl, fillC, zeroC, chunks, ptrIds, tabs, upd_app, mem_nil_app, entry_zero, entry_succ, entry_nil, top_app, maxStr, ByteArray.size, A.kill, O.kill, killS_app, killM_app, Nat.reduceAdd, Nat.reduceLeDiff, Nat.reduceEqDiff, Nat.reduceMul, Int.reduceToNat, reduceIte, wf_i64, Int.reduceLE, Int.reduceNeg, beq_self_eq_true, decide_true, decide_false, ybeq_some, ybeq_none, beqT, beqF, empty_toList, exs]; rfl)) ?_)
  refine W.cond rfl ?_ ?_
  · intro h
    have he : e ≠ 0 := by simpa using h
    repeat (first | refine W.seq ?_ | refine W.block ?_ | refine W.skip ?_ | refine W.exit ?_ | refine W.region tab_ok 0 (by decide) (exec_run (by simp only [exec, stepQ, wantA, yieldA, kind, qv, qv1, qv2, stO, adrId, dataC, replC, eqNil, binNil, shiftInt, A.down, A1.up, downs, toR, ev, putS, rowO, ofConst, cellsA, cellsC, asC, asCs, ld, ldR, bin, binInt, binStr, binBool, sliceOf, bndOf, repl, fillC, zeroC, chunks, ptrIds, tabs, upd_app, mem_nil_app, entry_zero, entry_succ, entry_nil, top_app, maxStr, ByteArray.size, A.kill, O.kill, killS_app, killM_app, Nat.reduceAdd, Nat.reduceLeDiff, Nat.reduceEqDiff, Nat.reduceMul, Int.reduceToNat, reduceIte, wf_i64, Int.reduceLE, Int.reduceNeg, beq_self_eq_true, decide_true, decide_false, ybeq_some, ybeq_none, beqT, beqF, empty_toList, exs]; rfl)) ?_)
    refine W.ret ⟨.inr rfl, by rfl, ?_⟩
    simp only [Try.f9, resA, resOne, toT, fin, exec, stepQ, wantA, yieldA, kind, qv, qv1, qv2, stO, adrId, dataC, replC, eqNil, binNil, shiftInt, A.down, A1.up, downs, toR, ev, putS, rowO, ofConst, cellsA, cellsC, asC, asCs, ld, ldR, bin, binInt, binStr, binBool, sliceOf, bndOf, repl, fillC, zeroC, chunks, ptrIds, tabs, upd_app, mem_nil_app, entry_zero, entry_succ, entry_nil, top_app, maxStr, ByteArray.size, A.kill, O.kill, killS_app, killM_app, Nat.reduceAdd, Nat.reduceLeDiff, Nat.reduceEqDiff, Nat.reduceMul, Int.reduceToNat, reduceIte, wf_i64, Int.reduceLE, Int.reduceNeg, beq_self_eq_true, decide_true, decide_false, ybeq_some, ybeq_none, beqT, beqF, empty_toList, exs]
    simp [chkErr, he]
  intro h
  have he : e = 0 := by simpa using h
  subst he
  repeat (first | refine W.seq ?_ | refine W.block ?_ | refine W.skip ?_ | refine W.exit ?_ | refine W.region tab_ok 0 (by decide) (exec_run (by simp only [exec, stepQ, wantA, yieldA, kind, qv, qv1, qv2, stO, adrId, dataC, replC, eqNil, binNil, shiftInt, A.down, A1.up, downs, toR, ev, putS, rowO, ofConst, cellsA, cellsC, asC, asCs, ld, ldR, bin, binInt, binStr, binBool, sliceOf, bndOf, repl, fillC, zeroC, chunks, ptrIds, tabs, upd_app, mem_nil_app, entry_zero, entry_succ, entry_nil, top_app, maxStr, ByteArray.size, A.kill, O.kill, killS_app, killM_app, Nat.reduceAdd, Nat.reduceLeDiff, Nat.reduceEqDiff, Nat.reduceMul, Int.reduceToNat, reduceIte, wf_i64, Int.reduceLE, Int.reduceNeg, beq_self_eq_true, decide_true, decide_false, ybeq_some, ybeq_none, beqT, beqF, empty_toList, exs]; rfl)) ?_)
  refine W.cond rfl ?_ ?_
  · intro h
    have hl : 16 < cs.length := by simp at h; omega
    repeat (first | refine W.seq ?_ | refine W.block ?_ | refine W.skip ?_ | refine W.exit ?_ | refine W.region tab_ok 0 (by decide) (exec_run (by simp only [exec, stepQ, wantA, yieldA, kind, qv, qv1, qv2, stO, adrId, dataC, replC, eqNil, binNil, shiftInt, A.down, A1.up, downs, toR, ev, putS, rowO, ofConst, cellsA, cellsC, asC, asCs, ld, ldR, bin, binInt, binStr, binBool, sliceOf, bndOf, repl, fillC, zeroC, chunks, ptrIds, tabs, upd_app, mem_nil_app, entry_zero, entry_succ, entry_nil, top_app, maxStr, ByteArray.size, A.kill, O.kill, killS_app, killM_app, Nat.reduceAdd, Nat.reduceLeDiff, Nat.reduceEqDiff, Nat.reduceMul, Int.reduceToNat, reduceIte, wf_i64, Int.reduceLE, Int.reduceNeg, beq_self_eq_true, decide_true, decide_false, ybeq_some, ybeq_none, beqT, beqF, empty_toList, exs]; rfl)) ?_)
    refine W.ret ⟨.inr rfl, by rfl, ?_⟩
    simp only [Try.f9, resA, resOne, toT, fin, exec, stepQ, wantA, yieldA, kind, qv, qv1, qv2, stO, adrId, dataC, replC, eqNil, binNil, shiftInt, A.down, A1.up, downs, toR, ev, putS, rowO, ofConst, cellsA, cellsC, asC, asCs, ld, ldR, bin, binInt, binStr, binBool, sliceOf, bndOf, repl, fillC, zeroC, chunks, ptrIds, tabs, upd_app, mem_nil_app, entry_zero, entry_succ, entry_nil, top_app, maxStr, ByteArray.size, A.kill, O.kill, killS_app, killM_app, Nat.reduceAdd, Nat.reduceLeDiff, Nat.reduceEqDiff, Nat.reduceMul, Int.reduceToNat, reduceIte, wf_i64, Int.reduceLE, Int.reduceNeg, beq_self_eq_true, decide_true, decide_false, ybeq_some, ybeq_none, beqT, beqF, empty_toList, exs]
    simp [chkErr, hl]
  intro h
  have hl : ¬ 16 < cs.length := by simp at h; omega
  repeat (first | refine W.seq ?_ | refine W.block ?_ | refine W.skip ?_ | refine W.exit ?_ | refine W.region tab_ok 0 (by decide) (exec_run (by simp only [exec, stepQ, wantA, yieldA, kind, qv, qv1, qv2, stO, adrId, dataC, replC, eqNil, binNil, shiftInt, A.down, A1.up, downs, toR, ev, putS, rowO, ofConst, cellsA, cellsC, asC, asCs, ld, ldR, bin, binInt, binStr, binBool, sliceOf, bndOf, repl, fillC, zeroC, chunks, ptrIds, tabs, upd_app, mem_nil_app, entry_zero, entry_succ, entry_nil, top_app, maxStr, ByteArray.size, A.kill, O.kill, killS_app, killM_app, Nat.reduceAdd, Nat.reduceLeDiff, Nat.reduceEqDiff, Nat.reduceMul, Int.reduceToNat, reduceIte, wf_i64, Int.reduceLE, Int.reduceNeg, beq_self_eq_true, decide_true, decide_false, ybeq_some, ybeq_none, beqT, beqF, empty_toList, exs]; rfl)) ?_)
  refine W.newArr 4 4 9 1 rfl rfl ?_
  repeat (first | refine W.seq ?_ | refine W.block ?_ | refine W.skip ?_ | refine W.exit ?_ | refine W.region tab_ok 0 (by decide) (exec_run (by simp only [exec, stepQ, wantA, yieldA, kind, qv, qv1, qv2, stO, adrId, dataC, replC, eqNil, binNil, shiftInt, A.down, A1.up, downs, toR, ev, putS, rowO, ofConst, cellsA, cellsC, asC, asCs, ld, ldR, bin, binInt, binStr, binBool, sliceOf, bndOf, repl, fillC, zeroC, chunks, ptrIds, tabs, upd_app, mem_nil_app, entry_zero, entry_succ, entry_nil, top_app, maxStr, ByteArray.size, A.kill, O.kill, killS_app, killM_app, Nat.reduceAdd, Nat.reduceLeDiff, Nat.reduceEqDiff, Nat.reduceMul, Int.reduceToNat, reduceIte, wf_i64, Int.reduceLE, Int.reduceNeg, beq_self_eq_true, decide_true, decide_false, ybeq_some, ybeq_none, beqT, beqF, empty_toList, exs]; rfl)) ?_)
  refine W.loop (ι := Nat) (fun k => ⟨upd (upd (upd (upd (upd (fun _ => .top) 1 (.ptr 1 0)) 4 (.own 4)) 17 (.c (.sl (cs.map cClass)))) 18 (.c (.int .i64 cs.length))) 19 (.c (.int .i64 k)),
    upd (upd Mem.nil 1 (some (.box 25 ((cProg ⟨cs, mn⟩).map A.c)))) 4 (some (.arr 9 1 (((cs.take k).map (·.name)).map cStr)))⟩) (fun k => k ≤ cs.length) (fun k => cs.length - k) 0 ?start (Nat.zero_le _) ?round
  case start =>
    refine le_mk ?sle ?mle ?swf ?mwf ?kept (by rfl)
    case kept => exact kept_not hkeep
    case swf => repeat (first | exact swf_top _ | refine swf_upd ?_ (by simp [A.ids, upd_app]))
    case mwf => repeat (first | exact mwf_nil _ | refine mwf_upd ?_ (by simp [A.ids, O.ids, upd_app]))
    case mle => repeat (first | exact mle_nil _ | exact mle_refl _ | refine mle_upd ?_ (by first | rfl | (simp only [upd_app, killM_app, Nat.reduceEqDiff, reduceIte, cProg, List.map_cons, List.map_nil, List.take_zero]; done)))
    case sle => repeat (first | exact sle_top _ | exact sle_refl _ | refine sle_upd ?_ (by first | rfl | (simp only [upd_app, entry_zero, entry_succ, Nat.reduceEqDiff, reduceIte, cProg, List.map_cons, List.map_nil, List.take_zero]; done)))
  case round =>
    intro k hk
    repeat (first | refine W.seq ?_ | refine W.block ?_ | refine W.skip ?_ | refine W.exit ?_ | refine W.region tab_ok 0 (by decide) (exec_run (by simp only [exec, stepQ, wantA, yieldA, kind, qv, qv1, qv2, stO, adrId, dataC, replC, eqNil, binNil, shiftInt, A.down, A1.up, downs, toR, ev, putS, rowO, ofConst, cellsA, cellsC, asC, asCs, ld, ldR, bin, binInt, binStr, binBool, sliceOf, bndOf, repl, fillC, zeroC, chunks, ptrIds, tabs, upd_app, mem_nil_app, entry_zero, entry_succ, entry_nil, top_app, maxStr, ByteArray.size, A.kill, O.kill, killS_app, killM_app, Nat.reduceAdd, Nat.reduceLeDiff, Nat.reduceEqDiff, Nat.reduceMul, Int.reduceToNat, reduceIte, wf_i64, Int.reduceLE, Int.reduceNeg, beq_self_eq_true, decide_true, decide_false, ybeq_some, ybeq_none, beqT, beqF, empty_toList, exs, cProg]; rfl)) ?_)
    refine W.cond rfl ?_ ?_
    · intro hlt
      simp only [decide_eq_true_eq, Int.ofNat_lt] at hlt
      obtain ⟨x, hx⟩ : ∃ x, cs[k]? = some x := ⟨_, List.getElem?_eq_getElem hlt⟩
      repeat (first | refine W.seq ?_ | refine W.block ?_ | refine W.skip ?_ | refine W.exit ?_ | refine W.region tab_ok 0 (by decide) (exec_run (by simp only [exec, stepQ, wantA, yieldA, kind, qv, qv1, qv2, stO, adrId, dataC, replC, eqNil, binNil, shiftInt, A.down, A1.up, downs, toR, ev, putS, rowO, ofConst, cellsA, cellsC, asC, asCs, ld, ldR, bin, binInt, binStr, binBool, sliceOf, bndOf, repl, fillC, zeroC, chunks, ptrIds, tabs, upd_app, mem_nil_app, entry_zero, entry_succ, entry_nil, top_app, maxStr, ByteArray.size, A.kill, O.kill, killS_app, killM_app, Nat.reduceAdd, Nat.reduceLeDiff, Nat.reduceEqDiff, Nat.reduceMul, Int.reduceToNat, reduceIte, wf_i64, Int.reduceLE, Int.reduceNeg, beq_self_eq_true, decide_true, decide_false, ybeq_some, ybeq_none, beqT, beqF, empty_toList, exs, cProg, at_map hx, cClass]; rfl)) ?_)
      refine W.regionK tab_ok 0 (by decide) ?_
      refine runk_split 4 (by simp only [exec, stepQ, wantA, yieldA, kind, qv, qv1, qv2, stO, adrId, dataC, replC, eqNil, binNil, shiftInt, A.down, A1.up, downs, toR, ev, putS, rowO, ofConst, cellsA, cellsC, asC, asCs, ld, ldR, bin, binInt, binStr, binBool, sliceOf, bndOf, repl, fillC, zeroC, chunks, ptrIds, tabs, upd_app, mem_nil_app, entry_zero, entry_succ, entry_nil, top_app, maxStr, ByteArray.size, A.kill, O.kill, killS_app, killM_app, Nat.reduceAdd, Nat.reduceLeDiff, Nat.reduceEqDiff, Nat.reduceMul, Int.reduceToNat, reduceIte, wf_i64, Int.reduceLE, Int.reduceNeg, beq_self_eq_true, decide_true, decide_false, ybeq_some, ybeq_none, beqT, beqF, empty_toList, exs, cProg]; rfl) ?_
      refine runk_append tab_ok 4 rfl rfl rfl rfl rfl rfl rfl rfl (by first | rfl | (simp only [exec, stepQ, wantA, yieldA, kind, qv, qv1, qv2, stO, adrId, dataC, replC, eqNil, binNil, shiftInt, A.down, A1.up, downs, toR, ev, putS, rowO, ofConst, cellsA, cellsC, asC, asCs, ld, ldR, bin, binInt, binStr, binBool, sliceOf, bndOf, repl, fillC, zeroC, chunks, ptrIds, tabs, upd_app, mem_nil_app, entry_zero, entry_succ, entry_nil, top_app, maxStr, ByteArray.size, A.kill, O.kill, killS_app, killM_app, Nat.reduceAdd, Nat.reduceLeDiff, Nat.reduceEqDiff, Nat.reduceMul, Int.reduceToNat, reduceIte, wf_i64, Int.reduceLE, Int.reduceNeg, beq_self_eq_true, decide_true, decide_false, ybeq_some, ybeq_none, beqT, beqF, empty_toList, exs, cProg]; rfl)) rfl rfl rfl rfl (nokeep hkeep) (by simp) (by have := List.length_take_le k cs; simp only [List.length_map, List.length_cons, List.length_nil]; omega) (by decide) ?_
      refine runk_exec (by simp only [exec, stepQ, wantA, yieldA, kind, qv, qv1, qv2, stO, adrId, dataC, replC, eqNil, binNil, shiftInt, A.down, A1.up, downs, toR, ev, putS, rowO, ofConst, cellsA, cellsC, asC, asCs, ld, ldR, bin, binInt, binStr, binBool, sliceOf, bndOf, repl, fillC, zeroC, chunks, ptrIds, tabs, upd_app, mem_nil_app, entry_zero, entry_succ, entry_nil, top_app, maxStr, ByteArray.size, A.kill, O.kill, killS_app, killM_app, Nat.reduceAdd, Nat.reduceLeDiff, Nat.reduceEqDiff, Nat.reduceMul, Int.reduceToNat, reduceIte, wf_i64, Int.reduceLE, Int.reduceNeg, beq_self_eq_true, decide_true, decide_false, ybeq_some, ybeq_none, beqT, beqF, empty_toList, exs, cProg]; rfl) ?_
      repeat (first | refine W.seq ?_ | refine W.block ?_ | refine W.skip ?_ | refine W.exit ?_ | refine W.region tab_ok 0 (by decide) (exec_run (by simp only [exec, stepQ, wantA, yieldA, kind, qv, qv1, qv2, stO, adrId, dataC, replC, eqNil, binNil, shiftInt, A.down, A1.up, downs, toR, ev, putS, rowO, ofConst, cellsA, cellsC, asC, asCs, ld, ldR, bin, binInt, binStr, binBool, sliceOf, bndOf, repl, fillC, zeroC, chunks, ptrIds, tabs, upd_app, mem_nil_app, entry_zero, entry_succ, entry_nil, top_app, maxStr, ByteArray.size, A.kill, O.kill, killS_app, killM_app, Nat.reduceAdd, Nat.reduceLeDiff, Nat.reduceEqDiff, Nat.reduceMul, Int.reduceToNat, reduceIte, wf_i64, Int.reduceLE, Int.reduceNeg, beq_self_eq_true, decide_true, decide_false, ybeq_some, ybeq_none, beqT, beqF, empty_toList, exs, cProg]; rfl)) ?_)
      refine ⟨k + 1, hlt, by omega, ?_⟩
      refine le_mk ?sle ?mle ?swf ?mwf ?kept (by rfl)
      case kept => exact kept_not hkeep
      case swf => repeat (first | exact swf_top _ | refine swf_upd ?_ (by simp [A.ids, upd_app]))
      case mwf => repeat (first | exact mwf_nil _ | refine mwf_upd ?_ (by simp [A.ids, O.ids, upd_app]))
      case mle => repeat (first | exact mle_nil _ | exact mle_refl _ | refine mle_upd ?_ (by first | rfl | (simp only [upd_app, killM_app, Nat.reduceEqDiff, reduceIte, cProg, O.kill, A.kill, Option.map_some, wrap_succ (show k + 1 < 9223372036854775808 by omega), List.take_add_one, hx, Option.toList_some, List.map_append, List.map_cons, List.map_nil, cStr]; done)))
      case sle => repeat (first | exact sle_top _ | exact sle_refl _ | refine sle_upd ?_ (by first | rfl | (simp only [upd_app, entry_zero, entry_succ, Nat.reduceEqDiff, reduceIte, cProg, O.kill, A.kill, Option.map_some, wrap_succ (show k + 1 < 9223372036854775808 by omega), List.take_add_one, hx, Option.toList_some, List.map_append, List.map_cons, List.map_nil, cStr]; done)))
    · intro hge
      simp only [decide_eq_false_iff_not, Int.ofNat_lt] at hge
      obtain rfl : k = cs.length := by omega
      repeat (first | refine W.seq ?_ | refine W.block ?_ | refine W.skip ?_ | refine W.exit ?_ | refine W.region tab_ok 0 (by decide) (exec_run (by simp only [exec, stepQ, wantA, yieldA, kind, qv, qv1, qv2, stO, adrId, dataC, replC, eqNil, binNil, shiftInt, A.down, A1.up, downs, toR, ev, putS, rowO, ofConst, cellsA, cellsC, asC, asCs, ld, ldR, bin, binInt, binStr, binBool, sliceOf, bndOf, repl, fillC, zeroC, chunks, ptrIds, tabs, upd_app, mem_nil_app, entry_zero, entry_succ, entry_nil, top_app, maxStr, ByteArray.size, A.kill, O.kill, killS_app, killM_app, Nat.reduceAdd, Nat.reduceLeDiff, Nat.reduceEqDiff, Nat.reduceMul, Int.reduceToNat, reduceIte, wf_i64, Int.reduceLE, Int.reduceNeg, beq_self_eq_true, decide_true, decide_false, ybeq_some, ybeq_none, beqT, beqF, empty_toList, exs, cProg]; rfl)) ?_)
      refine W.regionK tab_ok 0 (by decide) ?_
      refine runk_split 1 (by simp only [exec, stepQ, wantA, yieldA, kind, qv, qv1, qv2, stO, adrId, dataC, replC, eqNil, binNil, shiftInt, A.down, A1.up, downs, toR, ev, putS, rowO, ofConst, cellsA, cellsC, asC, asCs, ld, ldR, bin, binInt, binStr, binBool, sliceOf, bndOf, repl, fillC, zeroC, chunks, ptrIds, tabs, upd_app, mem_nil_app, entry_zero, entry_succ, entry_nil, top_app, maxStr, ByteArray.size, A.kill, O.kill, killS_app, killM_app, Nat.reduceAdd, Nat.reduceLeDiff, Nat.reduceEqDiff, Nat.reduceMul, Int.reduceToNat, reduceIte, wf_i64, Int.reduceLE, Int.reduceNeg, beq_self_eq_true, decide_true, decide_false, ybeq_some, ybeq_none, beqT, beqF, empty_toList, exs, cProg, List.take_length]; rfl) ?_
      refine runk_call rfl rfl rfl rfl rfl (by simp) (cvs_cons (cv_own rfl) cvs_nil) (once_ok (cs.map (·.name)) (by simp; omega) _) ?_
      cases h1 : onceB (cs.map (·.name)) with
      | false =>
        refine runk_exec (by simp only [exec, stepQ, wantA, yieldA, kind, qv, qv1, qv2, stO, adrId, dataC, replC, eqNil, binNil, shiftInt, A.down, A1.up, downs, toR, ev, putS, rowO, ofConst, cellsA, cellsC, asC, asCs, ld, ldR, bin, binInt, binStr, binBool, sliceOf, bndOf, repl, fillC, zeroC, chunks, ptrIds, tabs, upd_app, mem_nil_app, entry_zero, entry_succ, entry_nil, top_app, maxStr, ByteArray.size, A.kill, O.kill, killS_app, killM_app, Nat.reduceAdd, Nat.reduceLeDiff, Nat.reduceEqDiff, Nat.reduceMul, Int.reduceToNat, reduceIte, wf_i64, Int.reduceLE, Int.reduceNeg, beq_self_eq_true, decide_true, decide_false, ybeq_some, ybeq_none, beqT, beqF, empty_toList, exs, cProg]; rfl) ?_
        repeat (first | refine W.seq ?_ | refine W.block ?_ | refine W.skip ?_ | refine W.exit ?_ | refine W.region tab_ok 0 (by decide) (exec_run (by simp only [exec, stepQ, wantA, yieldA, kind, qv, qv1, qv2, stO, adrId, dataC, replC, eqNil, binNil, shiftInt, A.down, A1.up, downs, toR, ev, putS, rowO, ofConst, cellsA, cellsC, asC, asCs, ld, ldR, bin, binInt, binStr, binBool, sliceOf, bndOf, repl, fillC, zeroC, chunks, ptrIds, tabs, upd_app, mem_nil_app, entry_zero, entry_succ, entry_nil, top_app, maxStr, ByteArray.size, A.kill, O.kill, killS_app, killM_app, Nat.reduceAdd, Nat.reduceLeDiff, Nat.reduceEqDiff, Nat.reduceMul, Int.reduceToNat, reduceIte, wf_i64, Int.reduceLE, Int.reduceNeg, beq_self_eq_true, decide_true, decide_false, ybeq_some, ybeq_none, beqT, beqF, empty_toList, exs, cProg]; rfl)) ?_)
        refine W.cond rfl (fun _ => ?_) (fun h => by cases h)
        repeat (first | refine W.seq ?_ | refine W.block ?_ | refine W.skip ?_ | refine W.exit ?_ | refine W.region tab_ok 0 (by decide) (exec_run (by simp only [exec, stepQ, wantA, yieldA, kind, qv, qv1, qv2, stO, adrId, dataC, replC, eqNil, binNil, shiftInt, A.down, A1.up, downs, toR, ev, putS, rowO, ofConst, cellsA, cellsC, asC, asCs, ld, ldR, bin, binInt, binStr, binBool, sliceOf, bndOf, repl, fillC, zeroC, chunks, ptrIds, tabs, upd_app, mem_nil_app, entry_zero, entry_succ, entry_nil, top_app, maxStr, ByteArray.size, A.kill, O.kill, killS_app, killM_app, Nat.reduceAdd, Nat.reduceLeDiff, Nat.reduceEqDiff, Nat.reduceMul, Int.reduceToNat, reduceIte, wf_i64, Int.reduceLE, Int.reduceNeg, beq_self_eq_true, decide_true, decide_false, ybeq_some, ybeq_none, beqT, beqF, empty_toList, exs, cProg]; rfl)) ?_)
        refine W.ret ⟨.inr rfl, by rfl, ?_⟩
        simp only [Try.f9, resA, resOne, toT, fin, exec, stepQ, wantA, yieldA, kind, qv, qv1, qv2, stO, adrId, dataC, replC, eqNil, binNil, shiftInt, A.down, A1.up, downs, toR, ev, putS, rowO, ofConst, cellsA, cellsC, asC, asCs, ld, ldR, bin, binInt, binStr, binBool, sliceOf, bndOf, repl, fillC, zeroC, chunks, ptrIds, tabs, upd_app, mem_nil_app, entry_zero, entry_succ, entry_nil, top_app, maxStr, ByteArray.size, A.kill, O.kill, killS_app, killM_app, Nat.reduceAdd, Nat.reduceLeDiff, Nat.reduceEqDiff, Nat.reduceMul, Int.reduceToNat, reduceIte, wf_i64, Int.reduceLE, Int.reduceNeg, beq_self_eq_true, decide_true, decide_false, ybeq_some, ybeq_none, beqT, beqF, empty_toList, exs]
        simp [chkErr, hl, h1]
      | true =>
        refine runk_split 5 (by simp only [exec, stepQ, wantA, yieldA, kind, qv, qv1, qv2, stO, adrId, dataC, replC, eqNil, binNil, shiftInt, A.down, A1.up, downs, toR, ev, putS, rowO, ofConst, cellsA, cellsC, asC, asCs, ld, ldR, bin, binInt, binStr, binBool, sliceOf, bndOf, repl, fillC, zeroC, chunks, ptrIds, tabs, upd_app, mem_nil_app, entry_zero, entry_succ, entry_nil, top_app, maxStr, ByteArray.size, A.kill, O.kill, killS_app, killM_app, Nat.reduceAdd, Nat.reduceLeDiff, Nat.reduceEqDiff, Nat.reduceMul, Int.reduceToNat, reduceIte, wf_i64, Int.reduceLE, Int.reduceNeg, beq_self_eq_true, decide_true, decide_false, ybeq_some, ybeq_none, beqT, beqF, empty_toList, exs, cProg]; rfl) ?_
        refine runk_callR rfl rfl rfl rfl rfl (by simp) (cvrs_cons cvr_refl (cvrs_cons (cvr_fn (caps_one rfl rfl)) cvrs_nil)) (by rfl) (by rfl) (anyClass_ok cs 25 [[.sl (cs.map cClass), .sl (cStmts mn)]] (fun c => !okClassB cs c) (by omega) (fun x hx m => check1_ok cs (.sl (cStmts mn)) x hS (by omega) hx m)) ?_
        refine runk_exec (by simp only [exec, stepQ, wantA, yieldA, kind, qv, qv1, qv2, stO, adrId, dataC, replC, eqNil, binNil, shiftInt, A.down, A1.up, downs, toR, ev, putS, rowO, ofConst, cellsA, cellsC, asC, asCs, ld, ldR, bin, binInt, binStr, binBool, sliceOf, bndOf, repl, fillC, zeroC, chunks, ptrIds, tabs, upd_app, mem_nil_app, entry_zero, entry_succ, entry_nil, top_app, maxStr, ByteArray.size, A.kill, O.kill, killS_app, killM_app, Nat.reduceAdd, Nat.reduceLeDiff, Nat.reduceEqDiff, Nat.reduceMul, Int.reduceToNat, reduceIte, wf_i64, Int.reduceLE, Int.reduceNeg, beq_self_eq_true, decide_true, decide_false, ybeq_some, ybeq_none, beqT, beqF, empty_toList, exs, cProg]; rfl) ?_
        refine W.cond rfl ?_ ?_
        · intro hb
          have hb : cs.any (fun c => !okClassB cs c) = true := hb
          repeat (first | refine W.seq ?_ | refine W.block ?_ | refine W.skip ?_ | refine W.exit ?_ | refine W.region tab_ok 0 (by decide) (exec_run (by simp only [exec, stepQ, wantA, yieldA, kind, qv, qv1, qv2, stO, adrId, dataC, replC, eqNil, binNil, shiftInt, A.down, A1.up, downs, toR, ev, putS, rowO, ofConst, cellsA, cellsC, asC, asCs, ld, ldR, bin, binInt, binStr, binBool, sliceOf, bndOf, repl, fillC, zeroC, chunks, ptrIds, tabs, upd_app, mem_nil_app, entry_zero, entry_succ, entry_nil, top_app, maxStr, ByteArray.size, A.kill, O.kill, killS_app, killM_app, Nat.reduceAdd, Nat.reduceLeDiff, Nat.reduceEqDiff, Nat.reduceMul, Int.reduceToNat, reduceIte, wf_i64, Int.reduceLE, Int.reduceNeg, beq_self_eq_true, decide_true, decide_false, ybeq_some, ybeq_none, beqT, beqF, empty_toList, exs, cProg]; rfl)) ?_)
          refine W.ret ⟨.inr rfl, by rfl, ?_⟩
          simp only [Try.f9, resA, resOne, toT, fin, exec, stepQ, wantA, yieldA, kind, qv, qv1, qv2, stO, adrId, dataC, replC, eqNil, binNil, shiftInt, A.down, A1.up, downs, toR, ev, putS, rowO, ofConst, cellsA, cellsC, asC, asCs, ld, ldR, bin, binInt, binStr, binBool, sliceOf, bndOf, repl, fillC, zeroC, chunks, ptrIds, tabs, upd_app, mem_nil_app, entry_zero, entry_succ, entry_nil, top_app, maxStr, ByteArray.size, A.kill, O.kill, killS_app, killM_app, Nat.reduceAdd, Nat.reduceLeDiff, Nat.reduceEqDiff, Nat.reduceMul, Int.reduceToNat, reduceIte, wf_i64, Int.reduceLE, Int.reduceNeg, beq_self_eq_true, decide_true, decide_false, ybeq_some, ybeq_none, beqT, beqF, empty_toList, exs]
          simp only [chkErr, if_true, if_neg hl, h1, hb]; rfl
        · intro hb
          have hb : cs.any (fun c => !okClassB cs c) = false := hb
          repeat (first | refine W.seq ?_ | refine W.block ?_ | refine W.skip ?_ | refine W.exit ?_ | refine W.region tab_ok 0 (by decide) (exec_run (by simp only [exec, stepQ, wantA, yieldA, kind, qv, qv1, qv2, stO, adrId, dataC, replC, eqNil, binNil, shiftInt, A.down, A1.up, downs, toR, ev, putS, rowO, ofConst, cellsA, cellsC, asC, asCs, ld, ldR, bin, binInt, binStr, binBool, sliceOf, bndOf, repl, fillC, zeroC, chunks, ptrIds, tabs, upd_app, mem_nil_app, entry_zero, entry_succ, entry_nil, top_app, maxStr, ByteArray.size, A.kill, O.kill, killS_app, killM_app, Nat.reduceAdd, Nat.reduceLeDiff, Nat.reduceEqDiff, Nat.reduceMul, Int.reduceToNat, reduceIte, wf_i64, Int.reduceLE, Int.reduceNeg, beq_self_eq_true, decide_true, decide_false, ybeq_some, ybeq_none, beqT, beqF, empty_toList, exs, cProg]; rfl)) ?_)
          refine W.ret ⟨.inr rfl, by rfl, ?_⟩
          simp only [Try.f9, resA, resOne, toT, fin, exec, stepQ, wantA, yieldA, kind, qv, qv1, qv2, stO, adrId, dataC, replC, eqNil, binNil, shiftInt, A.down, A1.up, downs, toR, ev, putS, rowO, ofConst, cellsA, cellsC, asC, asCs, ld, ldR, bin, binInt, binStr, binBool, sliceOf, bndOf, repl, fillC, zeroC, chunks, ptrIds, tabs, upd_app, mem_nil_app, entry_zero, entry_succ, entry_nil, top_app, maxStr, ByteArray.size, A.kill, O.kill, killS_app, killM_app, Nat.reduceAdd, Nat.reduceLeDiff, Nat.reduceEqDiff, Nat.reduceMul, Int.reduceToNat, reduceIte, wf_i64, Int.reduceLE, Int.reduceNeg, beq_self_eq_true, decide_true, decide_false, ybeq_some, ybeq_none, beqT, beqF, empty_toList, exs]
          simp only [chkErr, if_true, if_neg hl, h1, hb]; rfl
/-- The names of a class and all above it. -/
def nameAt (cs : List Class) (x : Nat × Nat) : List ByteArray := match cs[x.2]? with | some k => [k.name] | none => []
def upNames (cs : List Class) (l : List (Nat × Nat)) : List ByteArray := l.flatMap (nameAt cs)
theorem upNames_len (cs : List Class) : ∀ l : List (Nat × Nat), (upNames cs l).length ≤ l.length
  | [] => by simp [upNames]
  | x :: l => by
    have ih := upNames_len cs l
    unfold upNames at *
    rw [List.flatMap_cons, List.length_append, List.length_cons]
    have : (nameAt cs x).length ≤ 1 := by unfold nameAt; split <;> simp
    omega
def chainR (E : Int) (cs : List Class) (n : ByteArray) : List ByteArray := if E = 0 then upNames cs (upX cs (cs.length + 1) 0 n) else []
def memH (cs : List Class) (mn : C) (l : List ByteArray) : Mem :=
  upd (upd (upd Mem.nil 2 (some (.box 25 [.c (.sl (cs.map cClass)), .c mn]))) 4 (some (.box 30 [.own 50]))) 50 (some (.arr 9 1 (l.map cStr)))
def slotH : Nat → A := upd (upd (fun _ => .top) 2 (.ptr 2 0)) 4 (.ptr 4 0)
theorem slotH_ids : ∀ t, ∀ j ∈ (slotH t).ids, j ≤ 5 := by
  intro t j hj
  unfold slotH upd at hj
  repeat' (split at hj)
  all_goals (simp [A.ids] at hj)
  all_goals omega
set_option maxHeartbeats 1000000 in
theorem chainP_ok (p : Program) (E : Int) (name : ByteArray) (hlen : p.classes.length ≤ 1000000000) (hchk : ∀ m, COk Try.prog 9 [.agg (cProg p)] m (.c (.int .i64 E))) (m : Mem) :
    COk Try.prog 11 [.agg (cProg p), .c (.str name)] m (.c (.sl ((chainR E p.classes name).map cStr))) := by
  obtain ⟨cs, mn'⟩ := p
  dsimp only at hlen hchk ⊢
  generalize hmn : C.sl (cStmts mn') = mn
  have hpr : cProg ⟨cs, mn'⟩ = [.sl (cs.map cClass), mn] := by rw [← hmn]; rfl
  rw [hpr] at hchk ⊢
  refine (ok_pureM tab_ok Try.func11 (by kernel_rfl) rfl rfl (by rfl) (by rfl) (by rfl) (fun R hkeep => ?_) m)
  repeat (first | refine W.seq ?_ | refine W.block ?_ | refine W.skip ?_ | refine W.exit ?_ | refine W.region tab_ok 0 (by decide) (exec_run (by simp only [exec, stepQ, wantA, yieldA, kind, qv, qv1, qv2, stO, adrId, dataC, replC, eqNil, binNil, shiftInt, A.down, A1.up, downs, toR, ev, putS, rowO, ofConst, cellsA, cellsC, asC, asCs, ld, ldR, bin, binInt, binStr, binBool, sliceOf, bndOf, repl, fillC, zeroC, chunks, ptrIds, tabs, upd_app, mem_nil_app, entry_zero, entry_succ, entry_nil, top_app, maxStr, ByteArray.size, A.kill, O.kill, killS_app, killM_app, Nat.reduceAdd, Nat.reduceLeDiff, Nat.reduceEqDiff, Nat.reduceMul, Int.reduceToNat, reduceIte, wf_i64, Int.reduceLE, Int.reduceNeg, beq_self_eq_true, decide_true, decide_false, ybeq_some, ybeq_none, beqT, beqF, empty_toList, exs]; rfl)) ?_)
  refine W.regionK tab_ok 0 (by decide) ?_
  refine runk_split 1 (by simp only [exec, stepQ, wantA, yieldA, kind, qv, qv1, qv2, stO, adrId, dataC, replC, eqNil, binNil, shiftInt, A.down, A1.up, downs, toR, ev, putS, rowO, ofConst, cellsA, cellsC, asC, asCs, ld, ldR, bin, binInt, binStr, binBool, sliceOf, bndOf, repl, fillC, zeroC, chunks, ptrIds, tabs, upd_app, mem_nil_app, entry_zero, entry_succ, entry_nil, top_app, maxStr, ByteArray.size, A.kill, O.kill, killS_app, killM_app, Nat.reduceAdd, Nat.reduceLeDiff, Nat.reduceEqDiff, Nat.reduceMul, Int.reduceToNat, reduceIte, wf_i64, Int.reduceLE, Int.reduceNeg, beq_self_eq_true, decide_true, decide_false, ybeq_some, ybeq_none, beqT, beqF, empty_toList, exs]; rfl) ?_
  refine runk_call rfl rfl rfl rfl rfl (by simp) (cvs_cons cv_refl cvs_nil) (hchk _) ?_
  refine runk_exec (by simp only [exec, stepQ, wantA, yieldA, kind, qv, qv1, qv2, stO, adrId, dataC, replC, eqNil, binNil, shiftInt, A.down, A1.up, downs, toR, ev, putS, rowO, ofConst, cellsA, cellsC, asC, asCs, ld, ldR, bin, binInt, binStr, binBool, sliceOf, bndOf, repl, fillC, zeroC, chunks, ptrIds, tabs, upd_app, mem_nil_app, entry_zero, entry_succ, entry_nil, top_app, maxStr, ByteArray.size, A.kill, O.kill, killS_app, killM_app, Nat.reduceAdd, Nat.reduceLeDiff, Nat.reduceEqDiff, Nat.reduceMul, Int.reduceToNat, reduceIte, wf_i64, Int.reduceLE, Int.reduceNeg, beq_self_eq_true, decide_true, decide_false, ybeq_some, ybeq_none, beqT, beqF, empty_toList, exs]; rfl) ?_
  refine W.cond rfl ?_ ?_
  · intro h
    have he : E ≠ 0 := by simpa using h
    repeat (first | refine W.seq ?_ | refine W.block ?_ | refine W.skip ?_ | refine W.exit ?_ | refine W.region tab_ok 0 (by decide) (exec_run (by simp only [exec, stepQ, wantA, yieldA, kind, qv, qv1, qv2, stO, adrId, dataC, replC, eqNil, binNil, shiftInt, A.down, A1.up, downs, toR, ev, putS, rowO, ofConst, cellsA, cellsC, asC, asCs, ld, ldR, bin, binInt, binStr, binBool, sliceOf, bndOf, repl, fillC, zeroC, chunks, ptrIds, tabs, upd_app, mem_nil_app, entry_zero, entry_succ, entry_nil, top_app, maxStr, ByteArray.size, A.kill, O.kill, killS_app, killM_app, Nat.reduceAdd, Nat.reduceLeDiff, Nat.reduceEqDiff, Nat.reduceMul, Int.reduceToNat, reduceIte, wf_i64, Int.reduceLE, Int.reduceNeg, beq_self_eq_true, decide_true, decide_false, ybeq_some, ybeq_none, beqT, beqF, empty_toList, exs]; rfl)) ?_)
    refine W.ret ⟨.inr rfl, .inl ⟨rfl, ?_⟩⟩
    simp only [Try.f11, resA, resOne, toT, fin, exec, stepQ, wantA, yieldA, kind, qv, qv1, qv2, stO, adrId, dataC, replC, eqNil, binNil, shiftInt, A.down, A1.up, downs, toR, ev, putS, rowO, ofConst, cellsA, cellsC, asC, asCs, ld, ldR, bin, binInt, binStr, binBool, sliceOf, bndOf, repl, fillC, zeroC, chunks, ptrIds, tabs, upd_app, mem_nil_app, entry_zero, entry_succ, entry_nil, top_app, maxStr, ByteArray.size, A.kill, O.kill, killS_app, killM_app, Nat.reduceAdd, Nat.reduceLeDiff, Nat.reduceEqDiff, Nat.reduceMul, Int.reduceToNat, reduceIte, wf_i64, Int.reduceLE, Int.reduceNeg, beq_self_eq_true, decide_true, decide_false, ybeq_some, ybeq_none, beqT, beqF, empty_toList, exs]
    simp [chainR, he]
  intro h
  have he : E = 0 := by simpa using h
  subst he
  repeat (first | refine W.seq ?_ | refine W.block ?_ | refine W.skip ?_ | refine W.exit ?_ | refine W.region tab_ok 0 (by decide) (exec_run (by simp only [exec, stepQ, wantA, yieldA, kind, qv, qv1, qv2, stO, adrId, dataC, replC, eqNil, binNil, shiftInt, A.down, A1.up, downs, toR, ev, putS, rowO, ofConst, cellsA, cellsC, asC, asCs, ld, ldR, bin, binInt, binStr, binBool, sliceOf, bndOf, repl, fillC, zeroC, chunks, ptrIds, tabs, upd_app, mem_nil_app, entry_zero, entry_succ, entry_nil, top_app, maxStr, ByteArray.size, A.kill, O.kill, killS_app, killM_app, Nat.reduceAdd, Nat.reduceLeDiff, Nat.reduceEqDiff, Nat.reduceMul, Int.reduceToNat, reduceIte, wf_i64, Int.reduceLE, Int.reduceNeg, beq_self_eq_true, decide_true, decide_false, ybeq_some, ybeq_none, beqT, beqF, empty_toList, exs]; rfl)) ?_)
  refine W.newRowBox true 4 0 50 9 1 rfl rfl rfl ?_
  repeat (first | refine W.seq ?_ | refine W.block ?_ | refine W.skip ?_ | refine W.exit ?_ | refine W.region tab_ok 0 (by decide) (exec_run (by simp only [exec, stepQ, wantA, yieldA, kind, qv, qv1, qv2, stO, adrId, dataC, replC, eqNil, binNil, shiftInt, A.down, A1.up, downs, toR, ev, putS, rowO, ofConst, cellsA, cellsC, asC, asCs, ld, ldR, bin, binInt, binStr, binBool, sliceOf, bndOf, repl, fillC, zeroC, chunks, ptrIds, tabs, upd_app, mem_nil_app, entry_zero, entry_succ, entry_nil, top_app, maxStr, ByteArray.size, A.kill, O.kill, killS_app, killM_app, Nat.reduceAdd, Nat.reduceLeDiff, Nat.reduceEqDiff, Nat.reduceMul, Int.reduceToNat, reduceIte, wf_i64, Int.reduceLE, Int.reduceNeg, beq_self_eq_true, decide_true, decide_false, ybeq_some, ybeq_none, beqT, beqF, empty_toList, exs]; rfl)) ?_)
  refine W.regionK tab_ok 0 (by decide) ?_
  refine runk_split 2 (by simp only [exec, stepQ, wantA, yieldA, kind, qv, qv1, qv2, stO, adrId, dataC, replC, eqNil, binNil, shiftInt, A.down, A1.up, downs, toR, ev, putS, rowO, ofConst, cellsA, cellsC, asC, asCs, ld, ldR, bin, binInt, binStr, binBool, sliceOf, bndOf, repl, fillC, zeroC, chunks, ptrIds, tabs, upd_app, mem_nil_app, entry_zero, entry_succ, entry_nil, top_app, maxStr, ByteArray.size, A.kill, O.kill, killS_app, killM_app, Nat.reduceAdd, Nat.reduceLeDiff, Nat.reduceEqDiff, Nat.reduceMul, Int.reduceToNat, reduceIte, wf_i64, Int.reduceLE, Int.reduceNeg, beq_self_eq_true, decide_true, decide_false, ybeq_some, ybeq_none, beqT, beqF, empty_toList, exs]; rfl) ?_
  refine runk_call0 rfl rfl rfl rfl rfl rfl (by simp) (cvs_cons cv_refl (cvs_cons cv_refl cvs_nil)) (up_ok (cs.map cClass) mn name _ 1000 1001 rfl rfl (by decide)) ?_
  refine runk_exec (by simp only [exec, stepQ, wantA, yieldA, kind, qv, qv1, qv2, stO, adrId, dataC, replC, eqNil, binNil, shiftInt, A.down, A1.up, downs, toR, ev, putS, rowO, ofConst, cellsA, cellsC, asC, asCs, ld, ldR, bin, binInt, binStr, binBool, sliceOf, bndOf, repl, fillC, zeroC, chunks, ptrIds, tabs, upd_app, mem_nil_app, entry_zero, entry_succ, entry_nil, top_app, maxStr, ByteArray.size, A.kill, O.kill, killS_app, killM_app, Nat.reduceAdd, Nat.reduceLeDiff, Nat.reduceEqDiff, Nat.reduceMul, Int.reduceToNat, reduceIte, wf_i64, Int.reduceLE, Int.reduceNeg, beq_self_eq_true, decide_true, decide_false, ybeq_some, ybeq_none, beqT, beqF, empty_toList, exs]; rfl) ?_
  repeat (first | refine W.seq ?_ | refine W.block ?_ | refine W.skip ?_ | refine W.exit ?_ | refine W.region tab_ok 0 (by decide) (exec_run (by simp only [exec, stepQ, wantA, yieldA, kind, qv, qv1, qv2, stO, adrId, dataC, replC, eqNil, binNil, shiftInt, A.down, A1.up, downs, toR, ev, putS, rowO, ofConst, cellsA, cellsC, asC, asCs, ld, ldR, bin, binInt, binStr, binBool, sliceOf, bndOf, repl, fillC, zeroC, chunks, ptrIds, tabs, upd_app, mem_nil_app, entry_zero, entry_succ, entry_nil, top_app, maxStr, ByteArray.size, A.kill, O.kill, killS_app, killM_app, Nat.reduceAdd, Nat.reduceLeDiff, Nat.reduceEqDiff, Nat.reduceMul, Int.reduceToNat, reduceIte, wf_i64, Int.reduceLE, Int.reduceNeg, beq_self_eq_true, decide_true, decide_false, ybeq_some, ybeq_none, beqT, beqF, empty_toList, exs]; rfl)) ?_)
  have hG : ∀ l, GoodM R.keep slotH 1000 1001 1002 1003 (memH cs mn l) := fun l => by
    refine ⟨?_, rfl, rfl, rfl, rfl, ?_, kept_not hkeep⟩
    · unfold memH
      show MWf _ _
      (repeat (first | exact mwf_nil _ | refine mwf_upd ?_ (by simp [A.ids, O.ids, upd_app])))
    · show SWf _ _
      unfold memH slotH
      (repeat (first | exact swf_top _ | refine swf_upd ?_ (by simp [A.ids, upd_app])))
  have hul := upX_len cs (cs.length + 1) 0 name
  refine W.rangeUp cs name mn 1000 1001 1002 1003 slotH (fun k => memH cs mn (upNames cs ((upX cs (cs.length + 1) 0 name).take k))) (fun _ => True) (by omega) rfl rfl rfl (by decide) rfl rfl (by decide) trivial rfl ?sle ?sn ?m0 (fun k _ => hG _) ?round ?done
  case sle =>
    unfold slotH
    (repeat (first | exact sle_top _ | exact sle_refl _ | refine sle_upd ?_ (by first | rfl | (simp only [upd_app, entry_zero, entry_succ, Nat.reduceEqDiff, reduceIte]; done))))
  case sn =>
    unfold slotH
    (repeat (first | exact sn_top | refine sn_upd ?_ (by decide)))
  case m0 =>
    refine mle_some ?_
    unfold memH
    (repeat (first | exact mle_nil _ | exact mle_refl _ | refine mle_upd ?_ (by first | rfl | (simp only [upd_app, killM_app, Nat.reduceEqDiff, reduceIte, List.take_zero, upNames, List.flatMap_nil, List.map_nil]; done))))
  case round =>
    intro R' l hk' k j kc x1 x2 xL _ hitem hkc
    have hn50 : ¬ R'.keep 50 := fun h => by
      rw [hk', hkeep] at h
      rcases h with h | ⟨t, h⟩ | h
      · exact h
      · have := slotH_ids t 50 h; omega
      · omega
    have hF : List.map cStr (upNames cs ((upX cs (cs.length + 1) 0 name).take k)) ++ [cStr kc.name] = List.map cStr (upNames cs ((upX cs (cs.length + 1) 0 name).take (k + 1))) := by
      rw [List.take_add_one, hitem]
      simp [upNames, nameAt, hkc]
    repeat (first | refine WI.seq ?_ | refine WI.block ?_ | refine WI.skip ?_ | refine WI.exit ?_ | refine WI.region tab_ok 0 (by decide) (by kernel_rfl) (exec_run (by simp only [exec, stepQ, wantA, yieldA, kind, qv, qv1, qv2, stO, adrId, dataC, replC, eqNil, binNil, shiftInt, A.down, A1.up, downs, toR, ev, putS, rowO, ofConst, cellsA, cellsC, asC, asCs, ld, ldR, bin, binInt, binStr, binBool, sliceOf, bndOf, repl, fillC, zeroC, chunks, ptrIds, tabs, upd_app, mem_nil_app, entry_zero, entry_succ, entry_nil, top_app, maxStr, ByteArray.size, A.kill, O.kill, killS_app, killM_app, Nat.reduceAdd, Nat.reduceLeDiff, Nat.reduceEqDiff, Nat.reduceMul, Int.reduceToNat, reduceIte, wf_i64, Int.reduceLE, Int.reduceNeg, beq_self_eq_true, decide_true, decide_false, ybeq_some, ybeq_none, beqT, beqF, empty_toList, exs, fullM, memH, slotH, cClass]; rfl)) ?_)
    refine ⟨rfl, fun xL' => ?_⟩
    repeat (first | refine WI.seq ?_ | refine WI.block ?_ | refine WI.skip ?_ | refine WI.exit ?_ | refine WI.region tab_ok 0 (by decide) (by kernel_rfl) (exec_run (by simp only [exec, stepQ, wantA, yieldA, kind, qv, qv1, qv2, stO, adrId, dataC, replC, eqNil, binNil, shiftInt, A.down, A1.up, downs, toR, ev, putS, rowO, ofConst, cellsA, cellsC, asC, asCs, ld, ldR, bin, binInt, binStr, binBool, sliceOf, bndOf, repl, fillC, zeroC, chunks, ptrIds, tabs, upd_app, mem_nil_app, entry_zero, entry_succ, entry_nil, top_app, maxStr, ByteArray.size, A.kill, O.kill, killS_app, killM_app, Nat.reduceAdd, Nat.reduceLeDiff, Nat.reduceEqDiff, Nat.reduceMul, Int.reduceToNat, reduceIte, wf_i64, Int.reduceLE, Int.reduceNeg, beq_self_eq_true, decide_true, decide_false, ybeq_some, ybeq_none, beqT, beqF, empty_toList, exs, fullM, memH, slotH, cClass]; rfl)) ?_)
    refine WI.regionK tab_ok 0 (by decide) (by kernel_rfl) ?_
    refine runk_split 4 (by simp only [exec, stepQ, wantA, yieldA, kind, qv, qv1, qv2, stO, adrId, dataC, replC, eqNil, binNil, shiftInt, A.down, A1.up, downs, toR, ev, putS, rowO, ofConst, cellsA, cellsC, asC, asCs, ld, ldR, bin, binInt, binStr, binBool, sliceOf, bndOf, repl, fillC, zeroC, chunks, ptrIds, tabs, upd_app, mem_nil_app, entry_zero, entry_succ, entry_nil, top_app, maxStr, ByteArray.size, A.kill, O.kill, killS_app, killM_app, Nat.reduceAdd, Nat.reduceLeDiff, Nat.reduceEqDiff, Nat.reduceMul, Int.reduceToNat, reduceIte, wf_i64, Int.reduceLE, Int.reduceNeg, beq_self_eq_true, decide_true, decide_false, ybeq_some, ybeq_none, beqT, beqF, empty_toList, exs, fullM, memH, slotH]; rfl) ?_
    refine runk_append tab_ok 50 rfl rfl rfl rfl rfl rfl rfl rfl (by first | rfl | (simp only [exec, stepQ, wantA, yieldA, kind, qv, qv1, qv2, stO, adrId, dataC, replC, eqNil, binNil, shiftInt, A.down, A1.up, downs, toR, ev, putS, rowO, ofConst, cellsA, cellsC, asC, asCs, ld, ldR, bin, binInt, binStr, binBool, sliceOf, bndOf, repl, fillC, zeroC, chunks, ptrIds, tabs, upd_app, mem_nil_app, entry_zero, entry_succ, entry_nil, top_app, maxStr, ByteArray.size, A.kill, O.kill, killS_app, killM_app, Nat.reduceAdd, Nat.reduceLeDiff, Nat.reduceEqDiff, Nat.reduceMul, Int.reduceToNat, reduceIte, wf_i64, Int.reduceLE, Int.reduceNeg, beq_self_eq_true, decide_true, decide_false, ybeq_some, ybeq_none, beqT, beqF, empty_toList, exs, fullM, memH, slotH]; rfl)) rfl rfl rfl rfl hn50 (by simp) (by have h1 := upNames_len cs ((upX cs (cs.length + 1) 0 name).take k); have h3 := List.length_take_le k (upX cs (cs.length + 1) 0 name); have h4 := (List.getElem?_eq_some_iff.1 hitem).1; simp only [List.length_map, List.length_cons, List.length_nil, List.length_take] at *; omega) (by decide) ?_
    refine runk_exec (by simp only [exec, stepQ, wantA, yieldA, kind, qv, qv1, qv2, stO, adrId, dataC, replC, eqNil, binNil, shiftInt, A.down, A1.up, downs, toR, ev, putS, rowO, ofConst, cellsA, cellsC, asC, asCs, ld, ldR, bin, binInt, binStr, binBool, sliceOf, bndOf, repl, fillC, zeroC, chunks, ptrIds, tabs, upd_app, mem_nil_app, entry_zero, entry_succ, entry_nil, top_app, maxStr, ByteArray.size, A.kill, O.kill, killS_app, killM_app, Nat.reduceAdd, Nat.reduceLeDiff, Nat.reduceEqDiff, Nat.reduceMul, Int.reduceToNat, reduceIte, wf_i64, Int.reduceLE, Int.reduceNeg, beq_self_eq_true, decide_true, decide_false, ybeq_some, ybeq_none, beqT, beqF, empty_toList, exs, fullM, memH, slotH]; rfl) ?_
    repeat (first | refine WI.seq ?_ | refine WI.block ?_ | refine WI.skip ?_ | refine WI.exit ?_ | refine WI.region tab_ok 0 (by decide) (by kernel_rfl) (exec_run (by simp only [exec, stepQ, wantA, yieldA, kind, qv, qv1, qv2, stO, adrId, dataC, replC, eqNil, binNil, shiftInt, A.down, A1.up, downs, toR, ev, putS, rowO, ofConst, cellsA, cellsC, asC, asCs, ld, ldR, bin, binInt, binStr, binBool, sliceOf, bndOf, repl, fillC, zeroC, chunks, ptrIds, tabs, upd_app, mem_nil_app, entry_zero, entry_succ, entry_nil, top_app, maxStr, ByteArray.size, A.kill, O.kill, killS_app, killM_app, Nat.reduceAdd, Nat.reduceLeDiff, Nat.reduceEqDiff, Nat.reduceMul, Int.reduceToNat, reduceIte, wf_i64, Int.reduceLE, Int.reduceNeg, beq_self_eq_true, decide_true, decide_false, ybeq_some, ybeq_none, beqT, beqF, empty_toList, exs, fullM, memH, slotH]; rfl)) ?_)
    refine ⟨trivial, fun j => j, Le.toT ?_⟩
    simp only [fullM, memH, ← hF]
    refine le_mk ?sle ?mle ?swf ?mwf (fun j hj => fullM_keep (hF ▸ hG _) hj) (by rfl)
    case swf => repeat (first | exact swf_top _ | refine swf_upd ?_ (by simp [A.ids, upd_app, fullM, memH, cStr]))
    case mwf => repeat (first | exact mwf_nil _ | refine mwf_upd ?_ (by simp [A.ids, O.ids, upd_app, fullM, memH, cStr]))
    case mle => repeat (first | exact mle_nil _ | exact mle_refl _ | refine mle_upd ?_ (by first | rfl | (simp only [upd_app, killM_app, O.kill, A.kill, Nat.reduceEqDiff, reduceIte, Option.map_some, Option.map_none, List.map_cons, List.map_nil, fullM, memH, cStr]; done)))
    case sle => repeat (first | exact sle_top _ | exact sle_refl _ | refine sle_upd ?_ (by first | rfl | (simp only [upd_app, killS_app, A.kill, entry_zero, entry_succ, Nat.reduceEqDiff, reduceIte, fullM, memH, cStr]; done)))
  case done =>
    intro _ b
    rw [List.take_length]
    repeat (first | refine W.seq ?_ | refine W.block ?_ | refine W.skip ?_ | refine W.exit ?_ | refine W.region tab_ok 0 (by decide) (exec_run (by simp only [exec, stepQ, wantA, yieldA, kind, qv, qv1, qv2, stO, adrId, dataC, replC, eqNil, binNil, shiftInt, A.down, A1.up, downs, toR, ev, putS, rowO, ofConst, cellsA, cellsC, asC, asCs, ld, ldR, bin, binInt, binStr, binBool, sliceOf, bndOf, repl, fillC, zeroC, chunks, ptrIds, tabs, upd_app, mem_nil_app, entry_zero, entry_succ, entry_nil, top_app, maxStr, ByteArray.size, A.kill, O.kill, killS_app, killM_app, Nat.reduceAdd, Nat.reduceLeDiff, Nat.reduceEqDiff, Nat.reduceMul, Int.reduceToNat, reduceIte, wf_i64, Int.reduceLE, Int.reduceNeg, beq_self_eq_true, decide_true, decide_false, ybeq_some, ybeq_none, beqT, beqF, empty_toList, exs, doneS, doneM, DID, memH, slotH]; rfl)) ?_)
    refine W.ret ⟨.inr rfl, .inr ⟨b, 1002, rfl, rfl, rfl, ?_⟩⟩
    simp only [Try.f11, resA, resOne, toT, fin, doneS, doneM, DID, exec, stepQ, wantA, yieldA, kind, qv, qv1, qv2, stO, adrId, dataC, replC, eqNil, binNil, shiftInt, A.down, A1.up, downs, toR, ev, putS, rowO, ofConst, cellsA, cellsC, asC, asCs, ld, ldR, bin, binInt, binStr, binBool, sliceOf, bndOf, repl, fillC, zeroC, chunks, ptrIds, tabs, upd_app, mem_nil_app, entry_zero, entry_succ, entry_nil, top_app, maxStr, ByteArray.size, A.kill, O.kill, killS_app, killM_app, Nat.reduceAdd, Nat.reduceLeDiff, Nat.reduceEqDiff, Nat.reduceMul, Int.reduceToNat, reduceIte, wf_i64, Int.reduceLE, Int.reduceNeg, beq_self_eq_true, decide_true, decide_false, ybeq_some, ybeq_none, beqT, beqF, empty_toList, exs, memH]
    simp [chainR]
theorem index_ok (l : List ByteArray) (s : ByteArray) (hlen : l.length ≤ 1000000000000) (m : Mem) : COk Try.prog 59 [.c (.sl (l.map cStr)), .c (.str s)] m (.c (.int .i64 (idxB (fun x => s.toList == x.toList) l))) := by
  refine (ok_pure tab_ok Try.func59 (by kernel_rfl) rfl rfl (by rfl) (by rfl) (by rfl) (fun R hkeep => ?_) m)
  repeat (first | refine W.seq ?_ | refine W.block ?_ | refine W.skip ?_ | refine W.exit ?_ | refine W.region tab_ok 0 (by decide) (exec_run (by simp only [exec, stepQ, wantA, yieldA, kind, qv, qv1, qv2, stO, adrId, dataC, replC, eqNil, binNil, shiftInt, A.down, A1.up, downs, toR, ev, putS, rowO, ofConst, cellsA, cellsC, asC, asCs, ld, ldR, bin, binInt, binStr, binBool, sliceOf, bndOf, repl, fillC, zeroC, chunks, ptrIds, tabs, upd_app, mem_nil_app, entry_zero, entry_succ, entry_nil, top_app, maxStr, ByteArray.size, A.kill, O.kill, killS_app, killM_app, Nat.reduceAdd, Nat.reduceLeDiff, Nat.reduceEqDiff, Nat.reduceMul, Int.reduceToNat, reduceIte, wf_i64, Int.reduceLE, Int.reduceNeg, beq_self_eq_true, decide_true, decide_false, ybeq_some, ybeq_none, beqT, beqF, empty_toList, exs]; rfl)) ?_)
  refine W.loop (ι := Nat) (fun k => ⟨upd (upd (upd (upd (upd (fun _ => .top) 0 (.c (.sl (l.map cStr)))) 1 (.c (.str s))) 4 (.c (.int .i64 0))) 7 (.c (.int .i64 l.length))) 8 (.c (.int .i64 k)), Mem.nil⟩) (fun k => k ≤ l.length ∧ (l.take k).any (fun x => s.toList == x.toList) = false) (fun k => l.length - k) 0 ?start ⟨Nat.zero_le _, rfl⟩ ?round
  case start =>
    refine le_mk ?sle ?mle ?swf ?mwf ?kept (by rfl)
    case kept => exact kept_not hkeep
    case swf => repeat (first | exact swf_top _ | refine swf_upd ?_ (by simp [A.ids, upd_app]))
    case mwf => repeat (first | exact mwf_nil _ | refine mwf_upd ?_ (by simp [A.ids, O.ids, upd_app]))
    case mle => repeat (first | exact mle_nil _ | exact mle_refl _ | refine mle_upd ?_ (by first | rfl | (simp only [upd_app, killM_app, Nat.reduceEqDiff, reduceIte]; done)))
    case sle => repeat (first | exact sle_top _ | exact sle_refl _ | refine sle_upd ?_ (by first | rfl | (simp only [upd_app, entry_zero, entry_succ, Nat.reduceEqDiff, reduceIte]; done)))
  case round =>
    rintro k ⟨hkl, hno⟩
    repeat (first | refine W.seq ?_ | refine W.block ?_ | refine W.skip ?_ | refine W.exit ?_ | refine W.region tab_ok 0 (by decide) (exec_run (by simp only [exec, stepQ, wantA, yieldA, kind, qv, qv1, qv2, stO, adrId, dataC, replC, eqNil, binNil, shiftInt, A.down, A1.up, downs, toR, ev, putS, rowO, ofConst, cellsA, cellsC, asC, asCs, ld, ldR, bin, binInt, binStr, binBool, sliceOf, bndOf, repl, fillC, zeroC, chunks, ptrIds, tabs, upd_app, mem_nil_app, entry_zero, entry_succ, entry_nil, top_app, maxStr, ByteArray.size, A.kill, O.kill, killS_app, killM_app, Nat.reduceAdd, Nat.reduceLeDiff, Nat.reduceEqDiff, Nat.reduceMul, Int.reduceToNat, reduceIte, wf_i64, Int.reduceLE, Int.reduceNeg, beq_self_eq_true, decide_true, decide_false, ybeq_some, ybeq_none, beqT, beqF, empty_toList, exs]; rfl)) ?_)
    refine W.cond rfl ?_ ?_
    · intro hlt
      simp only [decide_eq_true_eq, Int.ofNat_lt] at hlt
      obtain ⟨x, hx⟩ : ∃ x, l[k]? = some x := ⟨_, List.getElem?_eq_getElem hlt⟩
      repeat (first | refine W.seq ?_ | refine W.block ?_ | refine W.skip ?_ | refine W.exit ?_ | refine W.region tab_ok 0 (by decide) (exec_run (by simp only [exec, stepQ, wantA, yieldA, kind, qv, qv1, qv2, stO, adrId, dataC, replC, eqNil, binNil, shiftInt, A.down, A1.up, downs, toR, ev, putS, rowO, ofConst, cellsA, cellsC, asC, asCs, ld, ldR, bin, binInt, binStr, binBool, sliceOf, bndOf, repl, fillC, zeroC, chunks, ptrIds, tabs, upd_app, mem_nil_app, entry_zero, entry_succ, entry_nil, top_app, maxStr, ByteArray.size, A.kill, O.kill, killS_app, killM_app, Nat.reduceAdd, Nat.reduceLeDiff, Nat.reduceEqDiff, Nat.reduceMul, Int.reduceToNat, reduceIte, wf_i64, Int.reduceLE, Int.reduceNeg, beq_self_eq_true, decide_true, decide_false, ybeq_some, ybeq_none, beqT, beqF, empty_toList, exs, at_map hx, cStr]; rfl)) ?_)
      refine W.cond rfl ?_ ?_
      · intro hp
        repeat (first | refine W.seq ?_ | refine W.block ?_ | refine W.skip ?_ | refine W.exit ?_ | refine W.region tab_ok 0 (by decide) (exec_run (by simp only [exec, stepQ, wantA, yieldA, kind, qv, qv1, qv2, stO, adrId, dataC, replC, eqNil, binNil, shiftInt, A.down, A1.up, downs, toR, ev, putS, rowO, ofConst, cellsA, cellsC, asC, asCs, ld, ldR, bin, binInt, binStr, binBool, sliceOf, bndOf, repl, fillC, zeroC, chunks, ptrIds, tabs, upd_app, mem_nil_app, entry_zero, entry_succ, entry_nil, top_app, maxStr, ByteArray.size, A.kill, O.kill, killS_app, killM_app, Nat.reduceAdd, Nat.reduceLeDiff, Nat.reduceEqDiff, Nat.reduceMul, Int.reduceToNat, reduceIte, wf_i64, Int.reduceLE, Int.reduceNeg, beq_self_eq_true, decide_true, decide_false, ybeq_some, ybeq_none, beqT, beqF, empty_toList, exs]; rfl)) ?_)
        refine W.ret ⟨.inr rfl, by rfl, ?_⟩
        simp only [Try.f59, resA, resOne, toT, fin, exec, stepQ, wantA, yieldA, kind, qv, qv1, qv2, stO, adrId, dataC, replC, eqNil, binNil, shiftInt, A.down, A1.up, downs, toR, ev, putS, rowO, ofConst, cellsA, cellsC, asC, asCs, ld, ldR, bin, binInt, binStr, binBool, sliceOf, bndOf, repl, fillC, zeroC, chunks, ptrIds, tabs, upd_app, mem_nil_app, entry_zero, entry_succ, entry_nil, top_app, maxStr, ByteArray.size, A.kill, O.kill, killS_app, killM_app, Nat.reduceAdd, Nat.reduceLeDiff, Nat.reduceEqDiff, Nat.reduceMul, Int.reduceToNat, reduceIte, wf_i64, Int.reduceLE, Int.reduceNeg, beq_self_eq_true, decide_true, decide_false, ybeq_some, ybeq_none, beqT, beqF, empty_toList, exs]
        rw [idxB_at hno hx hp]
      · intro hp
        repeat (first | refine W.seq ?_ | refine W.block ?_ | refine W.skip ?_ | refine W.exit ?_ | refine W.region tab_ok 0 (by decide) (exec_run (by simp only [exec, stepQ, wantA, yieldA, kind, qv, qv1, qv2, stO, adrId, dataC, replC, eqNil, binNil, shiftInt, A.down, A1.up, downs, toR, ev, putS, rowO, ofConst, cellsA, cellsC, asC, asCs, ld, ldR, bin, binInt, binStr, binBool, sliceOf, bndOf, repl, fillC, zeroC, chunks, ptrIds, tabs, upd_app, mem_nil_app, entry_zero, entry_succ, entry_nil, top_app, maxStr, ByteArray.size, A.kill, O.kill, killS_app, killM_app, Nat.reduceAdd, Nat.reduceLeDiff, Nat.reduceEqDiff, Nat.reduceMul, Int.reduceToNat, reduceIte, wf_i64, Int.reduceLE, Int.reduceNeg, beq_self_eq_true, decide_true, decide_false, ybeq_some, ybeq_none, beqT, beqF, empty_toList, exs]; rfl)) ?_)
        refine ⟨k + 1, ⟨hlt, ?_⟩, by omega, ?_⟩
        · rw [List.take_add_one, hx, List.any_append, hno]; simpa using hp
        refine le_mk ?sle ?mle ?swf ?mwf ?kept (by rfl)
        case kept => exact kept_not hkeep
        case swf => repeat (first | exact swf_top _ | refine swf_upd ?_ (by simp [A.ids, upd_app]))
        case mwf => repeat (first | exact mwf_nil _ | refine mwf_upd ?_ (by simp [A.ids, O.ids, upd_app]))
        case mle => repeat (first | exact mle_nil _ | exact mle_refl _ | refine mle_upd ?_ (by first | rfl | (simp only [upd_app, killM_app, Nat.reduceEqDiff, reduceIte, wrap_succ (show k + 1 < 9223372036854775808 by omega)]; done)))
        case sle => repeat (first | exact sle_top _ | exact sle_refl _ | refine sle_upd ?_ (by first | rfl | (simp only [upd_app, entry_zero, entry_succ, Nat.reduceEqDiff, reduceIte, wrap_succ (show k + 1 < 9223372036854775808 by omega)]; done)))
    · intro hge
      simp only [decide_eq_false_iff_not, Int.ofNat_lt] at hge
      obtain rfl : k = l.length := by omega
      rw [List.take_length] at hno
      repeat (first | refine W.seq ?_ | refine W.block ?_ | refine W.skip ?_ | refine W.exit ?_ | refine W.region tab_ok 0 (by decide) (exec_run (by simp only [exec, stepQ, wantA, yieldA, kind, qv, qv1, qv2, stO, adrId, dataC, replC, eqNil, binNil, shiftInt, A.down, A1.up, downs, toR, ev, putS, rowO, ofConst, cellsA, cellsC, asC, asCs, ld, ldR, bin, binInt, binStr, binBool, sliceOf, bndOf, repl, fillC, zeroC, chunks, ptrIds, tabs, upd_app, mem_nil_app, entry_zero, entry_succ, entry_nil, top_app, maxStr, ByteArray.size, A.kill, O.kill, killS_app, killM_app, Nat.reduceAdd, Nat.reduceLeDiff, Nat.reduceEqDiff, Nat.reduceMul, Int.reduceToNat, reduceIte, wf_i64, Int.reduceLE, Int.reduceNeg, beq_self_eq_true, decide_true, decide_false, ybeq_some, ybeq_none, beqT, beqF, empty_toList, exs]; rfl)) ?_)
      refine W.ret ⟨.inr rfl, by rfl, ?_⟩
      simp only [Try.f59, resA, resOne, toT, fin, exec, stepQ, wantA, yieldA, kind, qv, qv1, qv2, stO, adrId, dataC, replC, eqNil, binNil, shiftInt, A.down, A1.up, downs, toR, ev, putS, rowO, ofConst, cellsA, cellsC, asC, asCs, ld, ldR, bin, binInt, binStr, binBool, sliceOf, bndOf, repl, fillC, zeroC, chunks, ptrIds, tabs, upd_app, mem_nil_app, entry_zero, entry_succ, entry_nil, top_app, maxStr, ByteArray.size, A.kill, O.kill, killS_app, killM_app, Nat.reduceAdd, Nat.reduceLeDiff, Nat.reduceEqDiff, Nat.reduceMul, Int.reduceToNat, reduceIte, wf_i64, Int.reduceLE, Int.reduceNeg, beq_self_eq_true, decide_true, decide_false, ybeq_some, ybeq_none, beqT, beqF, empty_toList, exs]
      rw [idxB_none hno]
theorem contains_ok (l : List ByteArray) (s : ByteArray) (hlen : l.length ≤ 1000000000000) (m : Mem) : COk Try.prog 35 [.c (.sl (l.map cStr)), .c (.str s)] m (.c (.bool (l.any (fun x => s.toList == x.toList)))) := by
  refine (ok_pure tab_ok Try.func35 (by kernel_rfl) rfl rfl (by rfl) (by rfl) (by rfl) (fun R hkeep => ?_) m)
  repeat (first | refine W.seq ?_ | refine W.block ?_ | refine W.skip ?_ | refine W.exit ?_ | refine W.region tab_ok 0 (by decide) (exec_run (by simp only [exec, stepQ, wantA, yieldA, kind, qv, qv1, qv2, stO, adrId, dataC, replC, eqNil, binNil, shiftInt, A.down, A1.up, downs, toR, ev, putS, rowO, ofConst, cellsA, cellsC, asC, asCs, ld, ldR, bin, binInt, binStr, binBool, sliceOf, bndOf, repl, fillC, zeroC, chunks, ptrIds, tabs, upd_app, mem_nil_app, entry_zero, entry_succ, entry_nil, top_app, maxStr, ByteArray.size, A.kill, O.kill, killS_app, killM_app, Nat.reduceAdd, Nat.reduceLeDiff, Nat.reduceEqDiff, Nat.reduceMul, Int.reduceToNat, reduceIte, wf_i64, Int.reduceLE, Int.reduceNeg, beq_self_eq_true, decide_true, decide_false, ybeq_some, ybeq_none, beqT, beqF, empty_toList, exs]; rfl)) ?_)
  refine W.regionK tab_ok 0 (by decide) ?_
  refine runk_split 2 (by simp only [exec, stepQ, wantA, yieldA, kind, qv, qv1, qv2, stO, adrId, dataC, replC, eqNil, binNil, shiftInt, A.down, A1.up, downs, toR, ev, putS, rowO, ofConst, cellsA, cellsC, asC, asCs, ld, ldR, bin, binInt, binStr, binBool, sliceOf, bndOf, repl, fillC, zeroC, chunks, ptrIds, tabs, upd_app, mem_nil_app, entry_zero, entry_succ, entry_nil, top_app, maxStr, ByteArray.size, A.kill, O.kill, killS_app, killM_app, Nat.reduceAdd, Nat.reduceLeDiff, Nat.reduceEqDiff, Nat.reduceMul, Int.reduceToNat, reduceIte, wf_i64, Int.reduceLE, Int.reduceNeg, beq_self_eq_true, decide_true, decide_false, ybeq_some, ybeq_none, beqT, beqF, empty_toList, exs]; rfl) ?_
  refine runk_call rfl rfl rfl rfl rfl (by simp) (cvs_cons cv_refl (cvs_cons cv_refl cvs_nil)) (index_ok l s hlen _) ?_
  refine runk_exec (by simp only [exec, stepQ, wantA, yieldA, kind, qv, qv1, qv2, stO, adrId, dataC, replC, eqNil, binNil, shiftInt, A.down, A1.up, downs, toR, ev, putS, rowO, ofConst, cellsA, cellsC, asC, asCs, ld, ldR, bin, binInt, binStr, binBool, sliceOf, bndOf, repl, fillC, zeroC, chunks, ptrIds, tabs, upd_app, mem_nil_app, entry_zero, entry_succ, entry_nil, top_app, maxStr, ByteArray.size, A.kill, O.kill, killS_app, killM_app, Nat.reduceAdd, Nat.reduceLeDiff, Nat.reduceEqDiff, Nat.reduceMul, Int.reduceToNat, reduceIte, wf_i64, Int.reduceLE, Int.reduceNeg, beq_self_eq_true, decide_true, decide_false, ybeq_some, ybeq_none, beqT, beqF, empty_toList, exs]; rfl) ?_
  repeat (first | refine W.seq ?_ | refine W.block ?_ | refine W.skip ?_ | refine W.exit ?_ | refine W.region tab_ok 0 (by decide) (exec_run (by simp only [exec, stepQ, wantA, yieldA, kind, qv, qv1, qv2, stO, adrId, dataC, replC, eqNil, binNil, shiftInt, A.down, A1.up, downs, toR, ev, putS, rowO, ofConst, cellsA, cellsC, asC, asCs, ld, ldR, bin, binInt, binStr, binBool, sliceOf, bndOf, repl, fillC, zeroC, chunks, ptrIds, tabs, upd_app, mem_nil_app, entry_zero, entry_succ, entry_nil, top_app, maxStr, ByteArray.size, A.kill, O.kill, killS_app, killM_app, Nat.reduceAdd, Nat.reduceLeDiff, Nat.reduceEqDiff, Nat.reduceMul, Int.reduceToNat, reduceIte, wf_i64, Int.reduceLE, Int.reduceNeg, beq_self_eq_true, decide_true, decide_false, ybeq_some, ybeq_none, beqT, beqF, empty_toList, exs]; rfl)) ?_)
  refine W.ret ⟨.inr rfl, by rfl, ?_⟩
  simp only [Try.f35, resA, resOne, toT, fin, exec, stepQ, wantA, yieldA, kind, qv, qv1, qv2, stO, adrId, dataC, replC, eqNil, binNil, shiftInt, A.down, A1.up, downs, toR, ev, putS, rowO, ofConst, cellsA, cellsC, asC, asCs, ld, ldR, bin, binInt, binStr, binBool, sliceOf, bndOf, repl, fillC, zeroC, chunks, ptrIds, tabs, upd_app, mem_nil_app, entry_zero, entry_succ, entry_nil, top_app, maxStr, ByteArray.size, A.kill, O.kill, killS_app, killM_app, Nat.reduceAdd, Nat.reduceLeDiff, Nat.reduceEqDiff, Nat.reduceMul, Int.reduceToNat, reduceIte, wf_i64, Int.reduceLE, Int.reduceNeg, beq_self_eq_true, decide_true, decide_false, ybeq_some, ybeq_none, beqT, beqF, empty_toList, exs]
  rw [idxB_any (fun x : ByteArray => s.toList == x.toList) l]
def belowR (E : Int) (cs : List Class) (a b : ByteArray) : Bool := (chainR E cs a).any (fun x => b.toList == x.toList)
theorem chainR_len (E : Int) (cs : List Class) (n : ByteArray) : (chainR E cs n).length ≤ cs.length + 1 := by
  unfold chainR
  split
  · exact Nat.le_trans (upNames_len _ _) (upX_len _ _ _ _)
  · simp
theorem below_ok (p : Program) (E : Int) (a b : ByteArray) (hlen : p.classes.length ≤ 1000000000) (hchk : ∀ m, COk Try.prog 9 [.agg (cProg p)] m (.c (.int .i64 E))) (m : Mem) :
    COk Try.prog 14 [.agg (cProg p), .c (.str a), .c (.str b)] m (.c (.bool (belowR E p.classes a b))) := by
  have hcl := chainR_len E p.classes a
  refine (ok_pure tab_ok Try.func14 (by kernel_rfl) rfl rfl (by rfl) (by rfl) (by rfl) (fun R hkeep => ?_) m)
  repeat (first | refine W.seq ?_ | refine W.block ?_ | refine W.skip ?_ | refine W.exit ?_ | refine W.region tab_ok 0 (by decide) (exec_run (by simp only [exec, stepQ, wantA, yieldA, kind, qv, qv1, qv2, stO, adrId, dataC, replC, eqNil, binNil, shiftInt, A.down, A1.up, downs, toR, ev, putS, rowO, ofConst, cellsA, cellsC, asC, asCs, ld, ldR, bin, binInt, binStr, binBool, sliceOf, bndOf, repl, fillC, zeroC, chunks, ptrIds, tabs, upd_app, mem_nil_app, entry_zero, entry_succ, entry_nil, top_app, maxStr, ByteArray.size, A.kill, O.kill, killS_app, killM_app, Nat.reduceAdd, Nat.reduceLeDiff, Nat.reduceEqDiff, Nat.reduceMul, Int.reduceToNat, reduceIte, wf_i64, Int.reduceLE, Int.reduceNeg, beq_self_eq_true, decide_true, decide_false, ybeq_some, ybeq_none, beqT, beqF, empty_toList, exs, cProg]; rfl)) ?_)
  refine W.regionK tab_ok 0 (by decide) ?_
  refine runk_split 2 (by simp only [exec, stepQ, wantA, yieldA, kind, qv, qv1, qv2, stO, adrId, dataC, replC, eqNil, binNil, shiftInt, A.down, A1.up, downs, toR, ev, putS, rowO, ofConst, cellsA, cellsC, asC, asCs, ld, ldR, bin, binInt, binStr, binBool, sliceOf, bndOf, repl, fillC, zeroC, chunks, ptrIds, tabs, upd_app, mem_nil_app, entry_zero, entry_succ, entry_nil, top_app, maxStr, ByteArray.size, A.kill, O.kill, killS_app, killM_app, Nat.reduceAdd, Nat.reduceLeDiff, Nat.reduceEqDiff, Nat.reduceMul, Int.reduceToNat, reduceIte, wf_i64, Int.reduceLE, Int.reduceNeg, beq_self_eq_true, decide_true, decide_false, ybeq_some, ybeq_none, beqT, beqF, empty_toList, exs, cProg]; rfl) ?_
  refine runk_call rfl rfl rfl rfl rfl (by simp) (cvs_cons cv_refl (cvs_cons cv_refl cvs_nil)) (chainP_ok p E a hlen hchk _) ?_
  refine runk_split 1 (by simp only [exec, stepQ, wantA, yieldA, kind, qv, qv1, qv2, stO, adrId, dataC, replC, eqNil, binNil, shiftInt, A.down, A1.up, downs, toR, ev, putS, rowO, ofConst, cellsA, cellsC, asC, asCs, ld, ldR, bin, binInt, binStr, binBool, sliceOf, bndOf, repl, fillC, zeroC, chunks, ptrIds, tabs, upd_app, mem_nil_app, entry_zero, entry_succ, entry_nil, top_app, maxStr, ByteArray.size, A.kill, O.kill, killS_app, killM_app, Nat.reduceAdd, Nat.reduceLeDiff, Nat.reduceEqDiff, Nat.reduceMul, Int.reduceToNat, reduceIte, wf_i64, Int.reduceLE, Int.reduceNeg, beq_self_eq_true, decide_true, decide_false, ybeq_some, ybeq_none, beqT, beqF, empty_toList, exs, cProg]; rfl) ?_
  refine runk_call rfl rfl rfl rfl rfl (by simp) (cvs_cons cv_refl (cvs_cons cv_refl cvs_nil)) (contains_ok (chainR E p.classes a) b (by omega) _) ?_
  refine runk_exec (by simp only [exec, stepQ, wantA, yieldA, kind, qv, qv1, qv2, stO, adrId, dataC, replC, eqNil, binNil, shiftInt, A.down, A1.up, downs, toR, ev, putS, rowO, ofConst, cellsA, cellsC, asC, asCs, ld, ldR, bin, binInt, binStr, binBool, sliceOf, bndOf, repl, fillC, zeroC, chunks, ptrIds, tabs, upd_app, mem_nil_app, entry_zero, entry_succ, entry_nil, top_app, maxStr, ByteArray.size, A.kill, O.kill, killS_app, killM_app, Nat.reduceAdd, Nat.reduceLeDiff, Nat.reduceEqDiff, Nat.reduceMul, Int.reduceToNat, reduceIte, wf_i64, Int.reduceLE, Int.reduceNeg, beq_self_eq_true, decide_true, decide_false, ybeq_some, ybeq_none, beqT, beqF, empty_toList, exs]; rfl) ?_
  refine W.ret ⟨.inr rfl, by rfl, ?_⟩
  simp only [Try.f14, resA, resOne, toT, fin, exec, stepQ, wantA, yieldA, kind, qv, qv1, qv2, stO, adrId, dataC, replC, eqNil, binNil, shiftInt, A.down, A1.up, downs, toR, ev, putS, rowO, ofConst, cellsA, cellsC, asC, asCs, ld, ldR, bin, binInt, binStr, binBool, sliceOf, bndOf, repl, fillC, zeroC, chunks, ptrIds, tabs, upd_app, mem_nil_app, entry_zero, entry_succ, entry_nil, top_app, maxStr, ByteArray.size, A.kill, O.kill, killS_app, killM_app, Nat.reduceAdd, Nat.reduceLeDiff, Nat.reduceEqDiff, Nat.reduceMul, Int.reduceToNat, reduceIte, wf_i64, Int.reduceLE, Int.reduceNeg, beq_self_eq_true, decide_true, decide_false, ybeq_some, ybeq_none, beqT, beqF, empty_toList, exs]
  rfl
end V
end Go.Proofs.Ytjciafpihdbedaa
end
section
/- The document's Chain and Below, over plain data. -/
namespace Go.Proofs.Ytjciafpihdbedaa
namespace V
open Go.RowKit
set_option linter.unusedSimpArgs false
def refChainF (E : Int) (cs : List Class) (n : ByteArray) : List ByteArray := if E = 0 then chainF cs (cs.length + 1) n else []
theorem refChain_ok (p : Program) (E : Int) (name : ByteArray) (hlen : p.classes.length ≤ 1000000000) (hchk : ∀ m, COk Try.prog 10 [.agg (cProg p)] m (.c (.int .i64 E))) (m : Mem) :
    COk Try.prog 13 [.agg (cProg p), .c (.str name)] m (.c (.sl ((refChainF E p.classes name).map cStr))) := by
  obtain ⟨cs, mn⟩ := p
  dsimp only at hlen hchk ⊢
  refine (ok_pure tab_ok Try.func13 (by kernel_rfl) rfl rfl (by rfl) (by rfl) (by rfl) (fun R hkeep => ?_) m)
  repeat (first | refine W.seq ?_ | refine W.block ?_ | refine W.skip ?_ | refine W.exit ?_ | refine W.region tab_ok 0 (by decide) (exec_run (by simp only [exec, stepQ, wantA, yieldA, kind, qv, qv1, qv2, stO, adrId, dataC, replC, eqNil, binNil, shiftInt, A.down, A1.up, downs, toR, ev, putS, rowO, ofConst, cellsA, cellsC, asC, asCs, ld, ldR, bin, binInt, binStr, binBool, sliceOf, bndOf, repl, fillC, zeroC, chunks, ptrIds, tabs, upd_app, mem_nil_app, entry_zero, entry_succ, entry_nil, top_app, maxStr, ByteArray.size, A.kill, O.kill, killS_app, killM_app, Nat.reduceAdd, Nat.reduceLeDiff, Nat.reduceEqDiff, Nat.reduceMul, Int.reduceToNat, reduceIte, wf_i64, Int.reduceLE, Int.reduceNeg, beq_self_eq_true, decide_true, decide_false, ybeq_some, ybeq_none, beqT, beqF, empty_toList, exs, cProg]; rfl)) ?_)
  refine W.regionK tab_ok 0 (by decide) ?_
  refine runk_split 1 (by simp only [exec, stepQ, wantA, yieldA, kind, qv, qv1, qv2, stO, adrId, dataC, replC, eqNil, binNil, shiftInt, A.down, A1.up, downs, toR, ev, putS, rowO, ofConst, cellsA, cellsC, asC, asCs, ld, ldR, bin, binInt, binStr, binBool, sliceOf, bndOf, repl, fillC, zeroC, chunks, ptrIds, tabs, upd_app, mem_nil_app, entry_zero, entry_succ, entry_nil, top_app, maxStr, ByteArray.size, A.kill, O.kill, killS_app, killM_app, Nat.reduceAdd, Nat.reduceLeDiff, Nat.reduceEqDiff, Nat.reduceMul, Int.reduceToNat, reduceIte, wf_i64, Int.reduceLE, Int.reduceNeg, beq_self_eq_true, decide_true, decide_false, ybeq_some, ybeq_none, beqT, beqF, empty_toList, exs, cProg]; rfl) ?_
  refine runk_call rfl rfl rfl rfl rfl (by simp) (cvs_cons cv_refl cvs_nil) (hchk _) ?_
  refine runk_exec (by simp only [exec, stepQ, wantA, yieldA, kind, qv, qv1, qv2, stO, adrId, dataC, replC, eqNil, binNil, shiftInt, A.down, A1.up, downs, toR, ev, putS, rowO, ofConst, cellsA, cellsC, asC, asCs, ld, ldR, bin, binInt, binStr, binBool, sliceOf, bndOf, repl, fillC, zeroC, chunks, ptrIds, tabs, upd_app, mem_nil_app, entry_zero, entry_succ, entry_nil, top_app, maxStr, ByteArray.size, A.kill, O.kill, killS_app, killM_app, Nat.reduceAdd, Nat.reduceLeDiff, Nat.reduceEqDiff, Nat.reduceMul, Int.reduceToNat, reduceIte, wf_i64, Int.reduceLE, Int.reduceNeg, beq_self_eq_true, decide_true, decide_false, ybeq_some, ybeq_none, beqT, beqF, empty_toList, exs]; rfl) ?_
  refine W.cond rfl ?_ ?_
  · intro h
    have he : E ≠ 0 := by simpa using h
    repeat (first | refine W.seq ?_ | refine W.block ?_ | refine W.skip ?_ | refine W.exit ?_ | refine W.region tab_ok 0 (by decide) (exec_run (by simp only [exec, stepQ, wantA, yieldA, kind, qv, qv1, qv2, stO, adrId, dataC, replC, eqNil, binNil, shiftInt, A.down, A1.up, downs, toR, ev, putS, rowO, ofConst, cellsA, cellsC, asC, asCs, ld, ldR, bin, binInt, binStr, binBool, sliceOf, bndOf, repl, fillC, zeroC, chunks, ptrIds, tabs, upd_app, mem_nil_app, entry_zero, entry_succ, entry_nil, top_app, maxStr, ByteArray.size, A.kill, O.kill, killS_app, killM_app, Nat.reduceAdd, Nat.reduceLeDiff, Nat.reduceEqDiff, Nat.reduceMul, Int.reduceToNat, reduceIte, wf_i64, Int.reduceLE, Int.reduceNeg, beq_self_eq_true, decide_true, decide_false, ybeq_some, ybeq_none, beqT, beqF, empty_toList, exs]; rfl)) ?_)
    refine W.ret ⟨.inr rfl, by rfl, ?_⟩
    simp only [Try.f13, resA, resOne, toT, fin, exec, stepQ, wantA, yieldA, kind, qv, qv1, qv2, stO, adrId, dataC, replC, eqNil, binNil, shiftInt, A.down, A1.up, downs, toR, ev, putS, rowO, ofConst, cellsA, cellsC, asC, asCs, ld, ldR, bin, binInt, binStr, binBool, sliceOf, bndOf, repl, fillC, zeroC, chunks, ptrIds, tabs, upd_app, mem_nil_app, entry_zero, entry_succ, entry_nil, top_app, maxStr, ByteArray.size, A.kill, O.kill, killS_app, killM_app, Nat.reduceAdd, Nat.reduceLeDiff, Nat.reduceEqDiff, Nat.reduceMul, Int.reduceToNat, reduceIte, wf_i64, Int.reduceLE, Int.reduceNeg, beq_self_eq_true, decide_true, decide_false, ybeq_some, ybeq_none, beqT, beqF, empty_toList, exs]
    simp [refChainF, he]
  intro h
  have he : E = 0 := by simpa using h
  repeat (first | refine W.seq ?_ | refine W.block ?_ | refine W.skip ?_ | refine W.exit ?_ | refine W.region tab_ok 0 (by decide) (exec_run (by simp only [exec, stepQ, wantA, yieldA, kind, qv, qv1, qv2, stO, adrId, dataC, replC, eqNil, binNil, shiftInt, A.down, A1.up, downs, toR, ev, putS, rowO, ofConst, cellsA, cellsC, asC, asCs, ld, ldR, bin, binInt, binStr, binBool, sliceOf, bndOf, repl, fillC, zeroC, chunks, ptrIds, tabs, upd_app, mem_nil_app, entry_zero, entry_succ, entry_nil, top_app, maxStr, ByteArray.size, A.kill, O.kill, killS_app, killM_app, Nat.reduceAdd, Nat.reduceLeDiff, Nat.reduceEqDiff, Nat.reduceMul, Int.reduceToNat, reduceIte, wf_i64, Int.reduceLE, Int.reduceNeg, beq_self_eq_true, decide_true, decide_false, ybeq_some, ybeq_none, beqT, beqF, empty_toList, exs]; rfl)) ?_)
  refine W.regionK tab_ok 0 (by decide) ?_
  refine runk_split 2 (by simp only [exec, stepQ, wantA, yieldA, kind, qv, qv1, qv2, stO, adrId, dataC, replC, eqNil, binNil, shiftInt, A.down, A1.up, downs, toR, ev, putS, rowO, ofConst, cellsA, cellsC, asC, asCs, ld, ldR, bin, binInt, binStr, binBool, sliceOf, bndOf, repl, fillC, zeroC, chunks, ptrIds, tabs, upd_app, mem_nil_app, entry_zero, entry_succ, entry_nil, top_app, maxStr, ByteArray.size, A.kill, O.kill, killS_app, killM_app, Nat.reduceAdd, Nat.reduceLeDiff, Nat.reduceEqDiff, Nat.reduceMul, Int.reduceToNat, reduceIte, wf_i64, Int.reduceLE, Int.reduceNeg, beq_self_eq_true, decide_true, decide_false, ybeq_some, ybeq_none, beqT, beqF, empty_toList, exs, cProg]; rfl) ?_
  refine runk_call rfl rfl rfl rfl rfl (by simp) (cvs_cons cv_refl (cvs_cons cv_refl cvs_nil)) (chain_ok cs (.sl (cStmts mn)) name hlen _) ?_
  refine runk_exec (by simp only [exec, stepQ, wantA, yieldA, kind, qv, qv1, qv2, stO, adrId, dataC, replC, eqNil, binNil, shiftInt, A.down, A1.up, downs, toR, ev, putS, rowO, ofConst, cellsA, cellsC, asC, asCs, ld, ldR, bin, binInt, binStr, binBool, sliceOf, bndOf, repl, fillC, zeroC, chunks, ptrIds, tabs, upd_app, mem_nil_app, entry_zero, entry_succ, entry_nil, top_app, maxStr, ByteArray.size, A.kill, O.kill, killS_app, killM_app, Nat.reduceAdd, Nat.reduceLeDiff, Nat.reduceEqDiff, Nat.reduceMul, Int.reduceToNat, reduceIte, wf_i64, Int.reduceLE, Int.reduceNeg, beq_self_eq_true, decide_true, decide_false, ybeq_some, ybeq_none, beqT, beqF, empty_toList, exs]; rfl) ?_
  repeat (first | refine W.seq ?_ | refine W.block ?_ | refine W.skip ?_ | refine W.exit ?_ | refine W.region tab_ok 0 (by decide) (exec_run (by simp only [exec, stepQ, wantA, yieldA, kind, qv, qv1, qv2, stO, adrId, dataC, replC, eqNil, binNil, shiftInt, A.down, A1.up, downs, toR, ev, putS, rowO, ofConst, cellsA, cellsC, asC, asCs, ld, ldR, bin, binInt, binStr, binBool, sliceOf, bndOf, repl, fillC, zeroC, chunks, ptrIds, tabs, upd_app, mem_nil_app, entry_zero, entry_succ, entry_nil, top_app, maxStr, ByteArray.size, A.kill, O.kill, killS_app, killM_app, Nat.reduceAdd, Nat.reduceLeDiff, Nat.reduceEqDiff, Nat.reduceMul, Int.reduceToNat, reduceIte, wf_i64, Int.reduceLE, Int.reduceNeg, beq_self_eq_true, decide_true, decide_false, ybeq_some, ybeq_none, beqT, beqF, empty_toList, exs]; rfl)) ?_)
  refine W.ret ⟨.inr rfl, by rfl, ?_⟩
  simp only [Try.f13, resA, resOne, toT, fin, exec, stepQ, wantA, yieldA, kind, qv, qv1, qv2, stO, adrId, dataC, replC, eqNil, binNil, shiftInt, A.down, A1.up, downs, toR, ev, putS, rowO, ofConst, cellsA, cellsC, asC, asCs, ld, ldR, bin, binInt, binStr, binBool, sliceOf, bndOf, repl, fillC, zeroC, chunks, ptrIds, tabs, upd_app, mem_nil_app, entry_zero, entry_succ, entry_nil, top_app, maxStr, ByteArray.size, A.kill, O.kill, killS_app, killM_app, Nat.reduceAdd, Nat.reduceLeDiff, Nat.reduceEqDiff, Nat.reduceMul, Int.reduceToNat, reduceIte, wf_i64, Int.reduceLE, Int.reduceNeg, beq_self_eq_true, decide_true, decide_false, ybeq_some, ybeq_none, beqT, beqF, empty_toList, exs]
  simp [refChainF, he]
theorem refBelow_ok (p : Program) (E : Int) (a b : ByteArray) (hlen : p.classes.length ≤ 1000000000) (hchk : ∀ m, COk Try.prog 10 [.agg (cProg p)] m (.c (.int .i64 E))) (m : Mem) :
    COk Try.prog 15 [.agg (cProg p), .c (.str a), .c (.str b)] m (.c (.bool ((refChainF E p.classes a).any (fun x => x.toList == b.toList)))) := by
  have hc := fun m => refChain_ok p E a hlen hchk m
  have hL : (refChainF E p.classes a).length ≤ 1000000001 := by
    unfold refChainF
    split
    · have := chainF_len p.classes (p.classes.length + 1) a; omega
    · simp
  generalize refChainF E p.classes a = L at *
  refine (ok_pure tab_ok Try.func15 (by kernel_rfl) rfl rfl (by rfl) (by rfl) (by rfl) (fun R hkeep => ?_) m)
  repeat (first | refine W.seq ?_ | refine W.block ?_ | refine W.skip ?_ | refine W.exit ?_ | refine W.region tab_ok 0 (by decide) (exec_run (by simp only [exec, stepQ, wantA, yieldA, kind, qv, qv1, qv2, stO, adrId, dataC, replC, eqNil, binNil, shiftInt, A.down, A1.up, downs, toR, ev, putS, rowO, ofConst, cellsA, cellsC, asC, asCs, ld, ldR, bin, binInt, binStr, binBool, sliceOf, bndOf, repl, fillC, zeroC, chunks, ptrIds, tabs, upd_app, mem_nil_app, entry_zero, entry_succ, entry_nil, top_app, maxStr, ByteArray.size, A.kill, O.kill, killS_app, killM_app, Nat.reduceAdd, Nat.reduceLeDiff, Nat.reduceEqDiff, Nat.reduceMul, Int.reduceToNat, reduceIte, wf_i64, Int.reduceLE, Int.reduceNeg, beq_self_eq_true, decide_true, decide_false, ybeq_some, ybeq_none, beqT, beqF, empty_toList, exs]; rfl)) ?_)
  refine W.regionK tab_ok 0 (by decide) ?_
  refine runk_split 2 (by simp only [exec, stepQ, wantA, yieldA, kind, qv, qv1, qv2, stO, adrId, dataC, replC, eqNil, binNil, shiftInt, A.down, A1.up, downs, toR, ev, putS, rowO, ofConst, cellsA, cellsC, asC, asCs, ld, ldR, bin, binInt, binStr, binBool, sliceOf, bndOf, repl, fillC, zeroC, chunks, ptrIds, tabs, upd_app, mem_nil_app, entry_zero, entry_succ, entry_nil, top_app, maxStr, ByteArray.size, A.kill, O.kill, killS_app, killM_app, Nat.reduceAdd, Nat.reduceLeDiff, Nat.reduceEqDiff, Nat.reduceMul, Int.reduceToNat, reduceIte, wf_i64, Int.reduceLE, Int.reduceNeg, beq_self_eq_true, decide_true, decide_false, ybeq_some, ybeq_none, beqT, beqF, empty_toList, exs]; rfl) ?_
  refine runk_call rfl rfl rfl rfl rfl (by simp) (cvs_cons cv_refl (cvs_cons cv_refl cvs_nil)) (hc _) ?_
  refine runk_exec (by simp only [exec, stepQ, wantA, yieldA, kind, qv, qv1, qv2, stO, adrId, dataC, replC, eqNil, binNil, shiftInt, A.down, A1.up, downs, toR, ev, putS, rowO, ofConst, cellsA, cellsC, asC, asCs, ld, ldR, bin, binInt, binStr, binBool, sliceOf, bndOf, repl, fillC, zeroC, chunks, ptrIds, tabs, upd_app, mem_nil_app, entry_zero, entry_succ, entry_nil, top_app, maxStr, ByteArray.size, A.kill, O.kill, killS_app, killM_app, Nat.reduceAdd, Nat.reduceLeDiff, Nat.reduceEqDiff, Nat.reduceMul, Int.reduceToNat, reduceIte, wf_i64, Int.reduceLE, Int.reduceNeg, beq_self_eq_true, decide_true, decide_false, ybeq_some, ybeq_none, beqT, beqF, empty_toList, exs]; rfl) ?_
  repeat (first | refine W.seq ?_ | refine W.block ?_ | refine W.skip ?_ | refine W.exit ?_ | refine W.region tab_ok 0 (by decide) (exec_run (by simp only [exec, stepQ, wantA, yieldA, kind, qv, qv1, qv2, stO, adrId, dataC, replC, eqNil, binNil, shiftInt, A.down, A1.up, downs, toR, ev, putS, rowO, ofConst, cellsA, cellsC, asC, asCs, ld, ldR, bin, binInt, binStr, binBool, sliceOf, bndOf, repl, fillC, zeroC, chunks, ptrIds, tabs, upd_app, mem_nil_app, entry_zero, entry_succ, entry_nil, top_app, maxStr, ByteArray.size, A.kill, O.kill, killS_app, killM_app, Nat.reduceAdd, Nat.reduceLeDiff, Nat.reduceEqDiff, Nat.reduceMul, Int.reduceToNat, reduceIte, wf_i64, Int.reduceLE, Int.reduceNeg, beq_self_eq_true, decide_true, decide_false, ybeq_some, ybeq_none, beqT, beqF, empty_toList, exs]; rfl)) ?_)
  refine W.loop (ι := Nat) (fun k => ⟨upd (upd (upd (upd (fun _ => .top) 2 (.c (.str b))) 11 (.c (.sl (L.map cStr)))) 12 (.c (.int .i64 L.length))) 13 (.c (.int .i64 k)), Mem.nil⟩)
    (fun k => k ≤ L.length ∧ ∀ i < k, (L[i]?).any (fun x => x.toList == b.toList) = false) (fun k => L.length - k) 0 ?start ⟨Nat.zero_le _, fun i hi => by omega⟩ ?round
  case start =>
    refine le_mk ?sle ?mle ?swf ?mwf ?kept (by rfl)
    case kept => exact kept_not hkeep
    case swf => repeat (first | exact swf_top _ | refine swf_upd ?_ (by simp [A.ids, upd_app]))
    case mwf => repeat (first | exact mwf_nil _ | refine mwf_upd ?_ (by simp [A.ids, O.ids, upd_app]))
    case mle => repeat (first | exact mle_nil _ | exact mle_refl _ | refine mle_upd ?_ (by first | rfl | (simp only [upd_app, killM_app, Nat.reduceEqDiff, reduceIte]; done)))
    case sle => repeat (first | exact sle_top _ | exact sle_refl _ | refine sle_upd ?_ (by first | rfl | (simp only [upd_app, entry_zero, entry_succ, Nat.reduceEqDiff, reduceIte]; done)))
  case round =>
    rintro k ⟨hk, hall⟩
    repeat (first | refine W.seq ?_ | refine W.block ?_ | refine W.skip ?_ | refine W.exit ?_ | refine W.region tab_ok 0 (by decide) (exec_run (by simp only [exec, stepQ, wantA, yieldA, kind, qv, qv1, qv2, stO, adrId, dataC, replC, eqNil, binNil, shiftInt, A.down, A1.up, downs, toR, ev, putS, rowO, ofConst, cellsA, cellsC, asC, asCs, ld, ldR, bin, binInt, binStr, binBool, sliceOf, bndOf, repl, fillC, zeroC, chunks, ptrIds, tabs, upd_app, mem_nil_app, entry_zero, entry_succ, entry_nil, top_app, maxStr, ByteArray.size, A.kill, O.kill, killS_app, killM_app, Nat.reduceAdd, Nat.reduceLeDiff, Nat.reduceEqDiff, Nat.reduceMul, Int.reduceToNat, reduceIte, wf_i64, Int.reduceLE, Int.reduceNeg, beq_self_eq_true, decide_true, decide_false, ybeq_some, ybeq_none, beqT, beqF, empty_toList, exs]; rfl)) ?_)
    refine W.cond rfl ?_ ?_
    · intro hlt
      simp only [decide_eq_true_eq, Int.ofNat_lt] at hlt
      obtain ⟨x, hx⟩ : ∃ x, L[k]? = some x := ⟨_, List.getElem?_eq_getElem hlt⟩
      repeat (first | refine W.seq ?_ | refine W.block ?_ | refine W.skip ?_ | refine W.exit ?_ | refine W.region tab_ok 0 (by decide) (exec_run (by simp only [exec, stepQ, wantA, yieldA, kind, qv, qv1, qv2, stO, adrId, dataC, replC, eqNil, binNil, shiftInt, A.down, A1.up, downs, toR, ev, putS, rowO, ofConst, cellsA, cellsC, asC, asCs, ld, ldR, bin, binInt, binStr, binBool, sliceOf, bndOf, repl, fillC, zeroC, chunks, ptrIds, tabs, upd_app, mem_nil_app, entry_zero, entry_succ, entry_nil, top_app, maxStr, ByteArray.size, A.kill, O.kill, killS_app, killM_app, Nat.reduceAdd, Nat.reduceLeDiff, Nat.reduceEqDiff, Nat.reduceMul, Int.reduceToNat, reduceIte, wf_i64, Int.reduceLE, Int.reduceNeg, beq_self_eq_true, decide_true, decide_false, ybeq_some, ybeq_none, beqT, beqF, empty_toList, exs, at_map hx, cStr]; rfl)) ?_)
      refine W.cond rfl ?_ ?_
      · intro h
        repeat (first | refine W.seq ?_ | refine W.block ?_ | refine W.skip ?_ | refine W.exit ?_ | refine W.region tab_ok 0 (by decide) (exec_run (by simp only [exec, stepQ, wantA, yieldA, kind, qv, qv1, qv2, stO, adrId, dataC, replC, eqNil, binNil, shiftInt, A.down, A1.up, downs, toR, ev, putS, rowO, ofConst, cellsA, cellsC, asC, asCs, ld, ldR, bin, binInt, binStr, binBool, sliceOf, bndOf, repl, fillC, zeroC, chunks, ptrIds, tabs, upd_app, mem_nil_app, entry_zero, entry_succ, entry_nil, top_app, maxStr, ByteArray.size, A.kill, O.kill, killS_app, killM_app, Nat.reduceAdd, Nat.reduceLeDiff, Nat.reduceEqDiff, Nat.reduceMul, Int.reduceToNat, reduceIte, wf_i64, Int.reduceLE, Int.reduceNeg, beq_self_eq_true, decide_true, decide_false, ybeq_some, ybeq_none, beqT, beqF, empty_toList, exs]; rfl)) ?_)
        refine W.ret ⟨.inr rfl, by rfl, ?_⟩
        simp only [Try.f15, resA, resOne, toT, fin, exec, stepQ, wantA, yieldA, kind, qv, qv1, qv2, stO, adrId, dataC, replC, eqNil, binNil, shiftInt, A.down, A1.up, downs, toR, ev, putS, rowO, ofConst, cellsA, cellsC, asC, asCs, ld, ldR, bin, binInt, binStr, binBool, sliceOf, bndOf, repl, fillC, zeroC, chunks, ptrIds, tabs, upd_app, mem_nil_app, entry_zero, entry_succ, entry_nil, top_app, maxStr, ByteArray.size, A.kill, O.kill, killS_app, killM_app, Nat.reduceAdd, Nat.reduceLeDiff, Nat.reduceEqDiff, Nat.reduceMul, Int.reduceToNat, reduceIte, wf_i64, Int.reduceLE, Int.reduceNeg, beq_self_eq_true, decide_true, decide_false, ybeq_some, ybeq_none, beqT, beqF, empty_toList, exs]
        have h' : (x.toList == b.toList) = true := by simpa using h
        rw [List.any_eq_true.2 ⟨x, List.mem_of_getElem? hx, h'⟩]
      · intro h
        repeat (first | refine W.seq ?_ | refine W.block ?_ | refine W.skip ?_ | refine W.exit ?_ | refine W.region tab_ok 0 (by decide) (exec_run (by simp only [exec, stepQ, wantA, yieldA, kind, qv, qv1, qv2, stO, adrId, dataC, replC, eqNil, binNil, shiftInt, A.down, A1.up, downs, toR, ev, putS, rowO, ofConst, cellsA, cellsC, asC, asCs, ld, ldR, bin, binInt, binStr, binBool, sliceOf, bndOf, repl, fillC, zeroC, chunks, ptrIds, tabs, upd_app, mem_nil_app, entry_zero, entry_succ, entry_nil, top_app, maxStr, ByteArray.size, A.kill, O.kill, killS_app, killM_app, Nat.reduceAdd, Nat.reduceLeDiff, Nat.reduceEqDiff, Nat.reduceMul, Int.reduceToNat, reduceIte, wf_i64, Int.reduceLE, Int.reduceNeg, beq_self_eq_true, decide_true, decide_false, ybeq_some, ybeq_none, beqT, beqF, empty_toList, exs]; rfl)) ?_)
        refine ⟨k + 1, ⟨hlt, fun i hi => ?_⟩, by omega, ?_⟩
        · rcases Nat.lt_succ_iff_lt_or_eq.1 hi with q | q
          · exact hall i q
          · subst q; rw [hx]; simpa using h
        refine le_mk ?sle ?mle ?swf ?mwf ?kept (by rfl)
        case kept => exact kept_not hkeep
        case swf => repeat (first | exact swf_top _ | refine swf_upd ?_ (by simp [A.ids, upd_app]))
        case mwf => repeat (first | exact mwf_nil _ | refine mwf_upd ?_ (by simp [A.ids, O.ids, upd_app]))
        case mle => repeat (first | exact mle_nil _ | exact mle_refl _ | refine mle_upd ?_ (by first | rfl | (simp only [upd_app, killM_app, Nat.reduceEqDiff, reduceIte, wrap_succ (show k + 1 < 9223372036854775808 by omega)]; done)))
        case sle => repeat (first | exact sle_top _ | exact sle_refl _ | refine sle_upd ?_ (by first | rfl | (simp only [upd_app, entry_zero, entry_succ, Nat.reduceEqDiff, reduceIte, wrap_succ (show k + 1 < 9223372036854775808 by omega)]; done)))
    · intro hge
      simp only [decide_eq_false_iff_not, Int.ofNat_lt] at hge
      obtain rfl : k = L.length := by omega
      repeat (first | refine W.seq ?_ | refine W.block ?_ | refine W.skip ?_ | refine W.exit ?_ | refine W.region tab_ok 0 (by decide) (exec_run (by simp only [exec, stepQ, wantA, yieldA, kind, qv, qv1, qv2, stO, adrId, dataC, replC, eqNil, binNil, shiftInt, A.down, A1.up, downs, toR, ev, putS, rowO, ofConst, cellsA, cellsC, asC, asCs, ld, ldR, bin, binInt, binStr, binBool, sliceOf, bndOf, repl, fillC, zeroC, chunks, ptrIds, tabs, upd_app, mem_nil_app, entry_zero, entry_succ, entry_nil, top_app, maxStr, ByteArray.size, A.kill, O.kill, killS_app, killM_app, Nat.reduceAdd, Nat.reduceLeDiff, Nat.reduceEqDiff, Nat.reduceMul, Int.reduceToNat, reduceIte, wf_i64, Int.reduceLE, Int.reduceNeg, beq_self_eq_true, decide_true, decide_false, ybeq_some, ybeq_none, beqT, beqF, empty_toList, exs]; rfl)) ?_)
      refine W.ret ⟨.inr rfl, by rfl, ?_⟩
      simp only [Try.f15, resA, resOne, toT, fin, exec, stepQ, wantA, yieldA, kind, qv, qv1, qv2, stO, adrId, dataC, replC, eqNil, binNil, shiftInt, A.down, A1.up, downs, toR, ev, putS, rowO, ofConst, cellsA, cellsC, asC, asCs, ld, ldR, bin, binInt, binStr, binBool, sliceOf, bndOf, repl, fillC, zeroC, chunks, ptrIds, tabs, upd_app, mem_nil_app, entry_zero, entry_succ, entry_nil, top_app, maxStr, ByteArray.size, A.kill, O.kill, killS_app, killM_app, Nat.reduceAdd, Nat.reduceLeDiff, Nat.reduceEqDiff, Nat.reduceMul, Int.reduceToNat, reduceIte, wf_i64, Int.reduceLE, Int.reduceNeg, beq_self_eq_true, decide_true, decide_false, ybeq_some, ybeq_none, beqT, beqF, empty_toList, exs]
      have : L.any (fun x => x.toList == b.toList) = false := List.any_eq_false.2 fun x hx => by
        obtain ⟨i, hi⟩ := List.getElem?_of_mem hx
        have := hall i (List.getElem?_eq_some_iff.1 hi).1
        rw [hi] at this
        simpa using this
      rw [this]
end V
end Go.Proofs.Ytjciafpihdbedaa
end
section
/- The checks of trees, told as contracts over plain data. -/
namespace Go.Proofs.Ytjciafpihdbedaa
namespace V
open Go.RowKit
theorem treeErr_wf (b : Bool) : (Lit.int .i64 (treeErr b)).wf = true := by cases b <;> decide
theorem refTree_ok (p : Program) (m : Mem) : COk Try.prog 27 [.agg (cProg p)] m (.c (.int .i64 (treeErr (checkB p)))) := by
  refine ⟨enters_of Try.func27 (by kernel_rfl) rfl, rfl, fun m' _ => ?_⟩
  intro w0 I0 B I w vals hm hv
  match vals, hv with
  | [v], ⟨h1, _⟩ =>
    obtain ⟨d, hp⟩ := rprog_of hm.there h1
    refine (refCheck_any d w v p hp).mono ?_
    rintro e w' ⟨rfl, hb⟩
    exact ⟨_, I, rfl, hb, fun _ _ k => k, fun _ _ k => .inl k, .int (treeErr_wf _)⟩
theorem tree_ok (p : Program) (m : Mem) : COk Try.prog 22 [.agg (cProg p)] m (.c (.int .i64 (treeErr (checkB p)))) := by
  refine ⟨enters_of Try.func22 (by kernel_rfl) rfl, rfl, fun m' _ => ?_⟩
  intro w0 I0 B I w vals hm hv
  match vals, hv with
  | [v], ⟨h1, _⟩ =>
    obtain ⟨d, hp⟩ := rprog_of hm.there h1
    refine (check_any d w v p hm.globNow hp).mono ?_
    rintro e w' ⟨rfl, hb⟩
    exact ⟨_, I, rfl, hb, fun _ _ k => k, fun _ _ k => .inl k, .int (treeErr_wf _)⟩
end V
end Go.Proofs.Ytjciafpihdbedaa
end
