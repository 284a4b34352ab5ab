/- Joined by my own program, in build order: Vd, Ve, Vf, Vf2, Vf3, Vg, Vh, Vt, Vi, Vj, Vq. -/
import Derived.Test.YtbmbmcdaabhgnaaDoorA18
import Derived.Deep.LoopGhost
import Derived.KernelRfl
import Derived.Shelf.Abstract
import Derived.Test.YtbmbmcdaabhgnaaDoorA1
set_option linter.unusedVariables false
set_option linter.unusedSimpArgs false
section
namespace Go.Proofs.YtbmbmcdaabhgnaaDoor
namespace V
open Go.RowKit
structure St where
  s : Nat → A
  m : Mem
def putS (s : Nat → A) : Option Nat → A → Nat → A
  | some d, r => upd s d r
  | none, _ => s
structure Ref where
  w0 : World
  I0 : Nat → Nat → Prop
  w : World
  I : Nat → Nat → Prop
  B : Nat → Value
  keep : Nat → Prop
def DID : Nat := 1000000
def dfs : A → List Deferred
  | .defs l => l
  | _ => []
theorem dfs_kill (id : Nat) (a : A) : dfs (a.kill id) = dfs a := by
  cases a <;> simp only [A.kill] <;> (try split) <;> rfl
theorem putS_did {n : Nat} (hn : n ≤ DID) {s : Nat → A} {dst : Option Nat} {r : A} (hd : ∀ d, dst = some d → d < n) : putS s dst r DID = s DID := by
  cases dst with
  | none => rfl
  | some d => exact upd_ne _ _ (fun e => by have := hd d rfl; omega)
structure SR (R : Ref) (n : Nat) (ds : List Deferred) (st : St) (a : Act) (w : World) : Prop where
  ex : ∃ B I, MR R.w0 R.I0 B I st.m w ∧ Ext R.w w R.I I ∧ (∀ j, R.keep j → B j = R.B j) ∧ ∀ t, RV B w I (st.s t) (a.tmps.getD t undef)
  ids : ∀ t, ∀ j ∈ (st.s t).ids, (st.m j).isSome = true
  size : a.tmps.size = n
  nn : n ≤ DID
  defs : a.defers = dfs (st.s DID) ++ ds
  kept : ∀ j, R.keep j → (st.m j).isSome = true
structure WF (st : St) : Prop where
  ids : ∀ t, ∀ j ∈ (st.s t).ids, (st.m j).isSome = true
  live : ∀ id o, st.m id = some o → ∀ j ∈ o.ids, (st.m j).isSome = true
theorem SR.wf {R : Ref} {w : World} {n : Nat} {ds : List Deferred} {st : St} {a : Act} (h : SR R n ds st a w) : WF st := ⟨h.ids, let ⟨_, _, hm, _⟩ := h.ex; hm.live⟩
def yieldA (ops : Array Oper) (s : Nat → A) (j : Nat) : Option (Option Bool) :=
  match (ops[j]?).bind (·.dst) with
  | none => some none
  | some d => match s d with | .c (.bool b) => some (some b) | .undef => some none | _ => none
def wantA (ops : Array Oper) (o : Oper) (s : Nat → A) : Option Bool :=
  match o.guard with
  | none => some true
  | some (j, want) => match yieldA ops s j with | some y => some (y == some want) | none => none
theorem getD_lt {xs : Array Value} {d : Nat} {v : Value} (h : xs.getD d undef = v) (hv : v ≠ undef) : xs[d]? = some v := by
  rw [Array.getD_eq_getD_getElem?] at h
  cases hx : xs[d]? with
  | none => rw [hx] at h; exact absurd h.symm hv
  | some u => rw [hx] at h; exact congrArg some h
theorem want_snd {B : Nat → Value} {w : World} {I : Nat → Nat → Prop} {ops : Array Oper} {o : Oper} {s : Nat → A} {a : Act} {b : Bool} (hs : ∀ t, RV B w I (s t) (a.tmps.getD t undef)) (h : wantA ops o s = some b) : Region.wanted o (yielded ops a.tmps) = b := by
  unfold wantA at h
  unfold Region.wanted
  split at h
  · rename_i hg; cases h; rw [hg]
  · rename_i j want hg
    rw [hg]
    split at h
    · rename_i y hy
      cases h
      dsimp only
      congr 1
      unfold yieldA at hy
      unfold yielded
      split at hy
      · rename_i e; rw [e]; cases hy; rfl
      · rename_i d e
        rw [e]
        have hd := hs d
        split at hy
        · rename_i b' eb
          rw [eb] at hd
          have := getD_lt (RC.toBool hd) (by intro h; cases h)
          cases hy
          simp [this]
        · rename_i eb
          rw [eb] at hd
          cases hy
          have hu : a.tmps.getD d undef = undef := hd
          cases hx : a.tmps[d]? with
          | none => simp [hx]
          | some u =>
            rw [Array.getD_eq_getD_getElem?, hx] at hu
            have : u = undef := hu
            subst this
            simp [hx, undef]
        · cases hy
    · cases h
def Cv (m : Mem) (a a' : A) : Prop := a' = a ∨ a' = .top ∨ ∃ x, asC m a = some x ∧ a' = .c x
def Cvs (m : Mem) : List A → List A → Prop
  | [], [] => True
  | a :: l, a' :: l' => Cv m a a' ∧ Cvs m l l'
  | _, _ => False
def RVl (B : Nat → Value) (w : World) (I : Nat → Nat → Prop) : List A → List Value → Prop
  | [], [] => True
  | a :: al, v :: vs => RV B w I a v ∧ RVl B w I al vs
  | _, _ => False
inductive Reach (m : Mem) (args : List A) : Nat → Prop where
  | arg {a : A} {j : Nat} (h : a ∈ args) (hj : j ∈ a.ids) : Reach m args j
  | obj {i j : Nat} {o : O} (h : Reach m args i) (ho : m i = some o) (hj : j ∈ o.ids) : Reach m args j
def CallSem (P : Go.Program) (f : FuncId) (args : List A) (m : Mem) (r : A) : Prop :=
  ∀ (w0 : World) (I0 : Nat → Nat → Prop) (B : Nat → Value) (I : Nat → Nat → Prop) (w : World) (vals : List Value), MR w0 I0 B I m w → RVl B w I args vals →
    Calls P f vals.toArray w fun e w' => ∃ v I', e = .returned v ∧ Below w.heap.size w w' ∧ (∀ b o, I b o → I' b o) ∧ (∀ b o, I' b o → I b o ∨ (w.heap.size ≤ b ∧ b < w'.heap.size)) ∧ RV B w' I' r v
theorem CallSem.ofBelow {P : Go.Program} {f : FuncId} {args : List A} {m : Mem} {r : A} (h : CallSem P f args m r) : CallSem P f args m r := h
def COk (P : Go.Program) (f : FuncId) (args : List A) (m : Mem) (r : A) : Prop :=
  (∀ args w, (callFunc f args).run P w = .ok (.enter f args) w) ∧ r.ids = [] ∧ ∀ m', (∀ j, Reach m args j → m' j = m j) → CallSem P f args m' r
def capsOf (m : Mem) : List Nat → Option (List (List C))
  | [] => some []
  | j :: l => match m j with
    | some (.box _ cells) => (match asCs m cells, capsOf m l with | some xs, some r => some (xs :: r) | _, _ => none)
    | _ => none
def asL (m : Mem) : A → Option C
  | .own id => match m id with | some (.arr _ _ xs) => some (.sl xs) | some (.mrow _ _ xs) => some (.sl xs) | _ => none
  | a => asC m a
def asLs (m : Mem) : List A → Option (List C)
  | [] => some []
  | a :: l => match asL m a, asLs m l with | some x, some xs => some (x :: xs) | _, _ => none
def CvR (m : Mem) (a a' : A) : Prop := Cv m a a' ∨ (∃ j ty cells xs, a = .ptr j 0 ∧ m j = some (.box ty cells) ∧ asLs m cells = some xs ∧ a' = .rptr xs) ∨ (∃ f ids caps, a = .fn f ids ∧ capsOf m ids = some caps ∧ a' = .fnR f caps) ∨ ∃ id ty e xs, a = .own id ∧ m id = some (.mrow ty e xs) ∧ a' = .c (.sl xs)
def CvRs (m : Mem) : List A → List A → Prop
  | [], [] => True
  | a :: l, a' :: l' => CvR m a a' ∧ CvRs m l l'
  | _, _ => False
def flatC : C → Bool
  | .sl _ => false
  | _ => true
def flatA : A → Bool
  | .c x => flatC x
  | .tup xs => xs.all fun p => p.2.all flatC
  | _ => false
theorem flatC_rc {w w' : World} {I I' : Nat → Nat → Prop} {x : C} {v : Value} (h : flatC x = true) (hv : RC w I v x) : RC w' I' v x := by
  cases hv with
  | int k => exact .int k
  | bool => exact .bool
  | str k => exact .str k
  | sl => cases h
theorem flatC_rcs {w w' : World} {I I' : Nat → Nat → Prop} : ∀ {xs : List C} {vs : List Value}, xs.all flatC = true → RCs w I vs xs → RCs w' I' vs xs
  | [], [], _, _ => trivial
  | x :: xs, v :: vs, h, hv => by
    simp only [List.all_cons, Bool.and_eq_true] at h
    exact ⟨flatC_rc h.1 hv.1, flatC_rcs h.2 hv.2⟩
theorem flatC_rts {w w' : World} {I I' : Nat → Nat → Prop} : ∀ {xs : List (Bool × List C)} {vs : List Value}, (xs.all fun p => p.2.all flatC) = true → RTs w I vs xs → RTs w' I' vs xs
  | [], [], _, _ => trivial
  | x :: xs, v :: vs, h, hv => by
    simp only [List.all_cons, Bool.and_eq_true] at h
    refine ⟨?_, flatC_rts h.2 hv.2⟩
    have h1 := hv.1
    unfold RT at h1 ⊢
    split
    · rename_i hx; rw [if_pos hx] at h1; obtain ⟨us, k1, k2⟩ := h1; exact ⟨us, k1, flatC_rcs h.1 k2⟩
    · rename_i hx; rw [if_neg hx] at h1; obtain ⟨y, k1, k2⟩ := h1
      rw [k1] at h
      exact ⟨y, k1, flatC_rc (by simpa using h.1) k2⟩
theorem flatA_rv {B B' : Nat → Value} {w w' : World} {I I' : Nat → Nat → Prop} {r : A} {v : Value} (h : flatA r = true) (hv : RV B w I r v) : RV B' w' I' r v := by
  cases r with
  | c x => exact flatC_rc h hv
  | tup xs => obtain ⟨vs, k1, k2⟩ := hv; exact ⟨vs, k1, flatC_rts h k2⟩
  | _ => cases h
def idOf (base : Nat) (o : Oper) : Nat := base + o.dst.getD 0
inductive HV (P : Go.Program) (T : Tab) (base : Nat) (ops : Array Oper) (o : Oper) (st : St) : A → Option O → Prop where
  | skip (h : wantA ops o st.s = some false) : HV P T base ops o st .undef none
  | val {r : A} {ob : Option O} (h : wantA ops o st.s = some true) (hq : qv T st.s st.m (idOf base o) o.op = some (r, ob)) (hid : ob.isSome = true → st.m (idOf base o) = none) (hd : ob.isSome = true → o.dst.isSome = true) : HV P T base ops o st r ob
  | call {r : A} {c : Call} {x : Operand} {f : FuncId} {ids : List Nat} {args : List A} (h : wantA ops o st.s = some true) (hop : o.op = .call c) (hc : c.callee = .value x) (hx : ev st.s x = .fn f ids) (hb : ∀ j ∈ ids, ∃ ty cells, st.m j = some (.box ty cells))
      (ha : Cvs st.m (c.args.toList.map (ev st.s) ++ ids.map (A.ptr · 0)) args) (hk : COk P f args st.m r) : HV P T base ops o st r none
  | callF {r : A} {c : Call} {x : Operand} {f : FuncId} {caps : List (List C)} {args : List A} (h : wantA ops o st.s = some true) (hop : o.op = .call c) (hc : c.callee = .value x) (hx : ev st.s x = .fnR f caps)
      (ha : Cvs st.m (c.args.toList.map (ev st.s) ++ caps.map A.rptr) args) (hk : COk P f args st.m r) : HV P T base ops o st r none
  | callR {r : A} {c : Call} {x : Operand} {f : FuncId} {ids : List Nat} {args : List A} (h : wantA ops o st.s = some true) (hop : o.op = .call c) (hc : c.callee = .value x) (hx : ev st.s x = .fn f ids) (hb : ∀ j ∈ ids, ∃ ty cells, st.m j = some (.box ty cells))
      (ha : CvRs st.m (c.args.toList.map (ev st.s) ++ ids.map (A.ptr · 0)) args) (hi : ∀ a ∈ args, a.ids = []) (hf : flatA r = true) (hk : ∀ m, COk P f args m r) : HV P T base ops o st r none
theorem putS_rv {B : Nat → Value} {w : World} {I : Nat → Nat → Prop} {s : Nat → A} {a : Act} {dst : Option Nat} {r : A} {v : Value} (hs : ∀ t, RV B w I (s t) (a.tmps.getD t undef)) (hv : RV B w I r v) (hd : ∀ d, dst = some d → d < a.tmps.size) :
    ∀ t, RV B w I (putS s dst r t) ((a.put dst v).tmps.getD t undef) := by
  cases dst with
  | none => exact hs
  | some d =>
    intro t
    have hd := hd d rfl
    simp only [putS, upd, Act.put]
    by_cases e : t = d
    · subst e
      simp [hd, hv]
    · rw [if_neg e]
      have := hs t
      rw [Array.getD_eq_getD_getElem?] at this ⊢
      rw [Array.getElem?_setIfInBounds_ne (Ne.symm e)]
      exact this
theorem putS_ids {s : Nat → A} {m : Mem} {dst : Option Nat} {r : A} (h : ∀ t, ∀ j ∈ (s t).ids, (m j).isSome = true) (hr : ∀ j ∈ r.ids, (m j).isSome = true) : ∀ t, ∀ j ∈ (putS s dst r t).ids, (m j).isSome = true := by
  intro t j hj
  cases dst with
  | none => exact h t j hj
  | some d =>
    simp only [putS, upd] at hj
    split at hj
    · exact hr j hj
    · exact h t j hj
theorem put_live {m : Mem} {id : Nat} {ob : Option O} {j : Nat} (h : (m j).isSome = true) : (m.put id ob j).isSome = true := by
  cases ob with
  | none => exact h
  | some x =>
    simp only [Mem.put, upd]
    split
    · rfl
    · exact h
theorem put_dst_size (a : Act) (dst : Option Nat) (v : Value) : (a.put dst v).tmps.size = a.tmps.size ∧ (a.put dst v).defers = a.defers := by
  cases dst <;> simp [Act.put]
theorem cvs_rvl {w0 w : World} {I0 I : Nat → Nat → Prop} {B : Nat → Value} {m : Mem} (hm : MR w0 I0 B I m w) : ∀ {al al' : List A} {vs : List Value}, Cvs m al al' → RVl B w I al vs → RVl B w I al' vs
  | [], [], [], _, _ => trivial
  | _ :: _, _ :: _, _ :: _, h, k => ⟨by
      rcases h.1 with e | e | ⟨x, hx, e⟩
      · rw [e]; exact k.1
      · rw [e]; trivial
      · rw [e]; exact asC_rc hm hx k.1, cvs_rvl hm h.2 k.2⟩
theorem rvl_map {B : Nat → Value} {w : World} {I : Nat → Nat → Prop} {ρ : Operand → Value} {s : Nat → A} (hev : ∀ x, RV B w I (ev s x) (ρ x)) : ∀ l : List Operand, RVl B w I (l.map (ev s)) (l.map ρ)
  | [] => trivial
  | x :: l => ⟨hev x, rvl_map hev l⟩
theorem RVl.append {B : Nat → Value} {w : World} {I : Nat → Nat → Prop} : ∀ {al bl : List A} {vs us : List Value}, RVl B w I al vs → RVl B w I bl us → RVl B w I (al ++ bl) (vs ++ us)
  | [], _, [], _, _, h => h
  | _ :: _, _, _ :: _, _, h, k => ⟨h.1, RVl.append h.2 k⟩
theorem rvl_ptrs {w0 w : World} {I0 I : Nat → Nat → Prop} {B : Nat → Value} {m : Mem} (hm : MR w0 I0 B I m w) : ∀ {ids : List Nat}, (∀ j ∈ ids, ∃ ty cells, m j = some (.box ty cells)) → RVl B w I (ids.map (A.ptr · 0)) (ids.map B)
  | [], _ => trivial
  | j :: ids, h => ⟨by
      obtain ⟨ty, cells, hj⟩ := h j (by simp)
      obtain ⟨b, vs, h1, -⟩ := hm.objs j _ hj
      exact ⟨b, h1, h1⟩, rvl_ptrs hm fun i hi => h i (by simp [hi])⟩
theorem mrow_rc0 {B : Nat → Value} {w : World} {I I' : Nat → Nat → Prop} {id : Nat} {ty : TypeId} {e : Nat} {xs : List (List C)} (hI : ∀ b o, I b o → I' b o) (hN : ∀ b, (B id).ownBlock = some b → ∀ o, I' b o) (h : RO B w I id (.mrow ty e xs)) : RC w I' (B id) (.sl xs) := by
  obtain ⟨vs, hrow, hvs, hlx, hnI⟩ := h
  have hvs' : RCs w I' vs (flat xs) := hvs.mono ⟨hI, fun _ _ _ => rfl⟩
  obtain ⟨hl, ho⟩ := hrow
  rcases ho with ⟨ev, hn⟩ | ⟨g, off, cap, cur, ev, hcell, q1, q2, q3, q4⟩
  · obtain rfl : xs = [] := List.length_eq_zero_iff.1 hn
    rw [ev]
    exact RC.sl (e := 0) (fun _ _ => undef) rfl (Nat.le_refl _) (Nat.zero_le _) (fun x hx => by cases hx) (fun i x hx => by simp at hx) (fun i j x c hx _ => by simp at hx)
  · have hat : ∀ i j x, xs[i]? = some x → j < e → i * e + j < xs.length * e := fun i j x hx hj => by
      have hi := (List.getElem?_eq_some_iff.1 hx).1
      have : (i + 1) * e ≤ xs.length * e := Nat.mul_le_mul_right _ hi
      rw [Nat.add_mul] at this
      omega
    rw [ev]
    refine RC.sl (e := e) (fun i j => vs.getD (i * e + j) undef) rfl q1 q2 hlx (fun i x hx => ⟨g, off, rfl, fun j hj => ⟨hN g (by rw [ev]; rfl) _, ?_⟩⟩) (fun i j x c hx hc => ?_)
    · have hlt := hat i j x hx hj
      have hcur : cur[off + (i * e + j)]? = vs[i * e + j]? := by
        rw [← q4, List.getElem?_take, if_pos hlt, List.getElem?_drop, Array.getElem?_toList]
      rw [Nat.add_assoc]
      have hv : vs[i * e + j]? = some (vs.getD (i * e + j) undef) := by
        rw [List.getD_eq_getElem?_getD, List.getElem?_eq_getElem (by omega)]; rfl
      rw [← hv, ← hcur]
      simp [World.cell?, hcell]
    · have hj : j < e := by rw [← hlx x (List.mem_of_getElem? hx)]; exact (List.getElem?_eq_some_iff.1 hc).1
      have hfl := flat_at hlx i j x hx hj
      rw [hc] at hfl
      obtain ⟨u, hu, hr⟩ := hvs'.at _ _ hfl
      rw [List.getD_eq_getElem?_getD, hu]
      exact hr
def lentI (B : Nat → Value) (I : Nat → Nat → Prop) (m : Mem) : Nat → Nat → Prop := fun b o => I b o ∨ ∃ j x, m j = some x ∧ foot B j x b
theorem lent_mr {w0 w : World} {I0 I : Nat → Nat → Prop} {B : Nat → Value} {m : Mem} (hm : MR w0 I0 B I m w) : MR w0 I0 B (lentI B I m) Mem.nil w := by
  refine ⟨hm.below, hm.glob, fun b o h => .inl (hm.base b o h), fun b o h => ?_, fun b o h => ?_, fun _ _ h => absurd h (noneSome _), fun _ _ h => absurd h (noneSome _), fun _ _ _ _ h => absurd h (noneSome _), fun _ _ h => absurd h (noneSome _)⟩
  · rcases h with h | ⟨j, x, h1, h2⟩
    · exact hm.old b o h
    · exact .inr (hm.low j _ h1 b h2).1
  · rcases h with h | ⟨j, x, h1, h2⟩
    · exact hm.there b o h
    · exact (hm.low j _ h1 b h2).2
theorem lent_ext {B : Nat → Value} {w : World} {I : Nat → Nat → Prop} {m : Mem} : Ext w w I (lentI B I m) := ⟨fun _ _ h => .inl h, fun _ _ _ => rfl⟩
theorem lent_box {w0 w : World} {I0 I : Nat → Nat → Prop} {B : Nat → Value} {m : Mem} (hm : MR w0 I0 B I m w) {j : Nat} {ty : TypeId} {cells : List A} {xs : List C} (hj : m j = some (.box ty cells)) (hx : asCs m cells = some xs) :
    ∃ b us, B j = .pointer (some ⟨b, 0, none⟩) ∧ RCs w (lentI B I m) us xs ∧ ∀ i x, us[i]? = some x → lentI B I m b (0 + i) ∧ w.cell? ⟨b, 0 + i, none⟩ = some x := by
  obtain ⟨b, vs, h1, h2, h3, -⟩ := hm.objs j _ hj
  refine ⟨b, vs, h1, (asCs_rcs hm hx h3).mono lent_ext, fun i x hi => ⟨.inr ⟨j, _, hj, ⟨0, h1⟩⟩, ?_⟩⟩
  simp only [World.cell?, h2]
  simpa using hi
theorem asL_rc {w0 w : World} {I0 I : Nat → Nat → Prop} {B : Nat → Value} {m : Mem} (hm : MR w0 I0 B I m w) {a : A} {x : C} {v : Value} (hx : asL m a = some x) (hv : RV B w I a v) : RC w (lentI B I m) v x := by
  have key : asC m a = some x → RC w (lentI B I m) v x := fun h => RC.mono lent_ext (asC_rc hm h hv)
  cases a with
  | own id =>
    have hvB : v = B id := hv.1
    simp only [asL] at hx
    split at hx
    · rename_i ty e xs hj
      exact key (by simp only [asC, hj]; exact hx)
    · rename_i ty e xs hj
      cases hx
      rw [hvB]
      exact mrow_rc0 (fun _ _ h => .inl h) (fun b hb o => .inr ⟨id, _, hj, hb⟩) (hm.objs _ _ hj)
    · cases hx
  | _ => exact key hx
theorem asLs_rcs {w0 w : World} {I0 I : Nat → Nat → Prop} {B : Nat → Value} {m : Mem} (hm : MR w0 I0 B I m w) : ∀ {al : List A} {xs : List C} {vs : List Value}, asLs m al = some xs → RVs B w I al vs → RCs w (lentI B I m) vs xs
  | [], xs, [], h, _ => by simp [asLs] at h; subst h; trivial
  | a :: al, xs, v :: vs, h, hv => by
    simp only [asLs] at h
    split at h
    · rename_i x r h1 h2
      cases h
      exact ⟨asL_rc hm h1 hv.1.1, asLs_rcs hm h2 hv.2⟩
    · cases h
theorem lent_boxL {w0 w : World} {I0 I : Nat → Nat → Prop} {B : Nat → Value} {m : Mem} (hm : MR w0 I0 B I m w) {j : Nat} {ty : TypeId} {cells : List A} {xs : List C} (hj : m j = some (.box ty cells)) (hx : asLs m cells = some xs) :
    ∃ b us, B j = .pointer (some ⟨b, 0, none⟩) ∧ RCs w (lentI B I m) us xs ∧ ∀ i x, us[i]? = some x → lentI B I m b (0 + i) ∧ w.cell? ⟨b, 0 + i, none⟩ = some x := by
  obtain ⟨b, vs, h1, h2, h3, -⟩ := hm.objs j _ hj
  refine ⟨b, vs, h1, asLs_rcs hm hx h3, fun i x hi => ⟨.inr ⟨j, _, hj, ⟨0, h1⟩⟩, ?_⟩⟩
  simp only [World.cell?, h2]
  simpa using hi
theorem lent_caps {w0 w : World} {I0 I : Nat → Nat → Prop} {B : Nat → Value} {m : Mem} (hm : MR w0 I0 B I m w) : ∀ {ids : List Nat} {caps : List (List C)}, capsOf m ids = some caps → RPs w (lentI B I m) caps (ids.map B)
  | [], caps, h => by simp [capsOf] at h; subst h; trivial
  | j :: ids, caps, h => by
    simp only [capsOf] at h
    split at h
    · rename_i ty cells hj
      split at h
      · rename_i xs r hx hr
        cases h
        obtain ⟨b, us, h1, h2, h3⟩ := lent_box hm hj hx
        exact ⟨⟨b, 0, us, h1, h2, h3⟩, lent_caps hm hr⟩
      · cases h
    · cases h
theorem cvrs_rvl {w0 w : World} {I0 I : Nat → Nat → Prop} {B : Nat → Value} {m : Mem} (hm : MR w0 I0 B I m w) : ∀ {al al' : List A} {vs : List Value}, CvRs m al al' → RVl B w I al vs → RVl B w (lentI B I m) al' vs
  | [], [], [], _, _ => trivial
  | _ :: _, _ :: _, _ :: _, h, k => ⟨by
      rcases h.1 with (e | e | ⟨x, hx, e⟩) | ⟨j, ty, cells, xs, e1, hj, hx, e⟩ | ⟨f, ids, caps, e1, hcp, e⟩ | ⟨id, ty, e0, xs, e1, hj, e⟩
      · rw [e]; exact k.1.mono lent_ext fun _ _ => rfl
      · rw [e]; trivial
      · rw [e]; exact RC.mono lent_ext (asC_rc hm hx k.1)
      · rw [e]
        have k1 := k.1
        rw [e1] at k1
        obtain ⟨b, h1, h2⟩ := k1
        obtain ⟨b', us, h3, h4, h5⟩ := lent_boxL hm hj hx
        rw [h1] at h3; cases h3
        exact ⟨b, 0, us, h2, h4, h5⟩
      · rw [e]
        have k1 := k.1
        rw [e1] at k1
        exact ⟨ids.map B, k1, lent_caps hm hcp⟩
      · rw [e]
        have k1 := k.1
        rw [e1] at k1
        rw [k1.1]
        exact mrow_rc0 (fun _ _ h => .inl h) (fun b hb o => .inr ⟨id, _, hj, hb⟩) (hm.objs _ _ hj), cvrs_rvl hm h.2 k.2⟩
theorem rps_rvl {B : Nat → Value} {w : World} {I : Nat → Nat → Prop} : ∀ {caps : List (List C)} {ps : List Value}, RPs w I caps ps → RVl B w I (caps.map A.rptr) ps
  | [], [], _ => trivial
  | _ :: _, _ :: _, ⟨h, k⟩ => ⟨h, rps_rvl k⟩
section
variable {P : Go.Program} {T : Tab} (hT : T.Ok P) {R : Ref} {w : World} {n base : Nat} {ds : List Deferred} {ops : Array Oper} {o : Oper} {st : St} {r : A} {ob : Option O} {a : Act}
include hT
theorem HV.snd (h : HV P T base ops o st r ob) (hr : SR R n ds st a w) (hd : ∀ d, o.dst = some d → d < n) {K : Act → World → Prop} {Q : Exit → Act → World → Prop} (hK : ∀ a' w', SR R n ds ⟨putS st.s o.dst r, st.m.put (idOf base o) ob⟩ a' w' → K a' w') :
    if Region.wanted o (yielded ops a.tmps) = true then o.wp P a w K Q else K (a.put o.dst undef) w := by
  obtain ⟨B, I, hm, hx0, hkp, hs⟩ := hr.ex
  have hd' : ∀ d, o.dst = some d → d < a.tmps.size := fun d e => by rw [hr.size]; exact hd d e
  have done : ∀ {B' : Nat → Value} {I' : Nat → Nat → Prop} {w' : World} {v : Value}, MR R.w0 R.I0 B' I' (st.m.put (idOf base o) ob) w' → Ext w w' I I' → (∀ j, (st.m j).isSome = true → B' j = B j) → (∀ t, RV B' w' I' (st.s t) (a.tmps.getD t undef)) → RV B' w' I' r v → (∀ j ∈ r.ids, (st.m.put (idOf base o) ob j).isSome = true) → K (a.put o.dst v) w' :=
    fun h1 he hb h2 h3 h4 => hK _ _ ⟨⟨_, _, h1, hx0.trans he, fun j hj => (hb j (hr.kept j hj)).trans (hkp j hj), putS_rv h2 h3 hd'⟩, putS_ids (fun t j hj => put_live (hr.ids t j hj)) h4, by rw [(put_dst_size _ _ _).1]; exact hr.size, hr.nn, by rw [(put_dst_size _ _ _).2]; show a.defers = dfs (putS st.s o.dst r DID) ++ ds; rw [putS_did hr.nn hd]; exact hr.defs, fun j hj => put_live (hr.kept j hj)⟩
  cases h with
  | skip h =>
    rw [want_snd hs h]
    rw [if_neg (by simp)]
    exact done hm (Ext.refl _ _) (fun _ _ => rfl) hs rfl (fun j hj => by simp [A.ids] at hj)
  | val h hq hid hdd =>
    rw [want_snd hs h, if_pos rfl]
    obtain ⟨v, w', B', I', h1, h2, h3, h4, h5, h6, h7⟩ := qv_snd hT (a := a) hm hs hr.ids hid hq
    unfold Oper.wp Oper.upon
    rw [h1]
    exact done h2 (hm.ext h3 h4) h5 (fun t => (hs t).mono (hm.ext h3 h4) fun j hj => h5 j (hr.ids t j hj)) h6 h7
  | @call _ c x f ids args h hop hc hx hb ha hk =>
    rw [want_snd hs h, if_pos rfl]
    have hev := ev_rv hs
    have hfv : a.eval x = .func (.func f) #[] (ids.map B).toArray := by have := hev x; rw [hx] at this; exact this
    have hrv := cvs_rvl hm ha ((rvl_map hev c.args.toList).append (rvl_ptrs hm hb))
    have hcl := hk.2.2 st.m (fun _ _ => rfl) R.w0 R.I0 B I w _ hm hrv
    unfold Oper.wp Oper.upon
    have hrun : (execOp a.eval o).run P w = .ok (.enter f (c.args.toList.map a.eval ++ ids.map B).toArray) w := by
      simp only [execOp, hop, resolve, hc, hfv, Deferred.ofValue, Sem.run_bind, Sem.run_pure, Result.andThen_ok, invoke]
      rw [show (#[] ++ Array.map a.eval c.args ++ (List.map B ids).toArray) = (List.map a.eval c.args.toList ++ List.map B ids).toArray by rw [← List.map_toArray]; simp]
      exact hk.1 _ _
    rw [hrun]
    refine hcl.mono ?_
    rintro e w' ⟨v, I', rfl, h1, h2, h3, h4⟩
    exact done (hm.grow h1 h2 h3) (hm.ext h1 h2) (fun _ _ => rfl) (fun t => (hs t).mono (hm.ext h1 h2) fun _ _ => rfl) h4 (fun j hj => by rw [hk.2.1] at hj; simp at hj)
  | @callF _ c x f caps args h hop hc hx ha hk =>
    rw [want_snd hs h, if_pos rfl]
    have hev := ev_rv hs
    have hfx := hev x
    rw [hx] at hfx
    obtain ⟨ps, hfv, hps⟩ := hfx
    have hrv := cvs_rvl hm ha ((rvl_map hev c.args.toList).append (rps_rvl hps))
    have hcl := hk.2.2 st.m (fun _ _ => rfl) R.w0 R.I0 B I w _ hm hrv
    unfold Oper.wp Oper.upon
    have hrun : (execOp a.eval o).run P w = .ok (.enter f (c.args.toList.map a.eval ++ ps).toArray) w := by
      simp only [execOp, hop, resolve, hc, hfv, Deferred.ofValue, Sem.run_bind, Sem.run_pure, Result.andThen_ok, invoke]
      rw [show (#[] ++ Array.map a.eval c.args ++ ps.toArray) = (List.map a.eval c.args.toList ++ ps).toArray by simp]
      exact hk.1 _ _
    rw [hrun]
    refine hcl.mono ?_
    rintro e w' ⟨v, I', rfl, h1, h2, h3, h4⟩
    exact done (hm.grow h1 h2 h3) (hm.ext h1 h2) (fun _ _ => rfl) (fun t => (hs t).mono (hm.ext h1 h2) fun _ _ => rfl) h4 (fun j hj => by rw [hk.2.1] at hj; simp at hj)
  | @callR _ c x f ids args h hop hc hx hb ha hi hf hk =>
    rw [want_snd hs h, if_pos rfl]
    have hev := ev_rv hs
    have hfv : a.eval x = .func (.func f) #[] (ids.map B).toArray := by have := hev x; rw [hx] at this; exact this
    have hrv := cvrs_rvl hm ha ((rvl_map hev c.args.toList).append (rvl_ptrs hm hb))
    have hcl := (hk Mem.nil).2.2 Mem.nil (fun _ _ => rfl) R.w0 R.I0 B _ w _ (lent_mr hm) hrv
    unfold Oper.wp Oper.upon
    have hrun : (execOp a.eval o).run P w = .ok (.enter f (c.args.toList.map a.eval ++ ids.map B).toArray) w := by
      simp only [execOp, hop, resolve, hc, hfv, Deferred.ofValue, Sem.run_bind, Sem.run_pure, Result.andThen_ok, invoke]
      rw [show (#[] ++ Array.map a.eval c.args ++ (List.map B ids).toArray) = (List.map a.eval c.args.toList ++ List.map B ids).toArray by rw [← List.map_toArray]; simp]
      exact (hk Mem.nil).1 _ _
    rw [hrun]
    refine hcl.mono ?_
    rintro e w' ⟨v, I', rfl, h1, h2, h3, h4⟩
    have hIe : ∀ b o, I b o → I b o := fun _ _ h => h
    exact done (hm.grow h1 hIe (fun _ _ h => .inl h)) (hm.ext h1 hIe) (fun _ _ => rfl) (fun t => (hs t).mono (hm.ext h1 hIe) fun _ _ => rfl) (flatA_rv hf h4) (fun j hj => by rw [(hk Mem.nil).2.1] at hj; simp at hj)
end
end V
end Go.Proofs.YtbmbmcdaabhgnaaDoor
end
section
namespace Go.Proofs.YtbmbmcdaabhgnaaDoor
namespace V
open Go.RowKit
theorem asC_congr {m m' : Mem} {a : A} (h : ∀ j ∈ a.ids, m' j = m j) : asC m' a = asC m a := by
  cases a with
  | own id => simp only [asC]; rw [h id (by simp [A.ids])]
  | _ => rfl
theorem cellsC_congr {m m' : Mem} {a : A} (h : ∀ j ∈ a.ids, m' j = m j) : cellsC m' a = cellsC m a := by
  cases a <;> simp only [cellsC] <;> rw [asC_congr h]
theorem asCs_congr {m m' : Mem} : ∀ {l : List A}, (∀ a ∈ l, ∀ j ∈ a.ids, m' j = m j) → asCs m' l = asCs m l
  | [], _ => rfl
  | a :: l, h => by simp only [asCs]; rw [asC_congr (h a (by simp)), asCs_congr fun b hb => h b (by simp [hb])]
theorem asL_congr {m m' : Mem} {a : A} (h : ∀ j ∈ a.ids, m' j = m j) : asL m' a = asL m a := by
  cases a with
  | own id => simp only [asL]; rw [h id (by simp [A.ids])]
  | _ => exact asC_congr h
theorem asLs_congr {m m' : Mem} : ∀ {l : List A}, (∀ a ∈ l, ∀ j ∈ a.ids, m' j = m j) → asLs m' l = asLs m l
  | [], _ => rfl
  | a :: l, h => by simp only [asLs]; rw [asL_congr (h a (by simp)), asLs_congr fun b hb => h b (by simp [hb])]
theorem ld_congr {T : Tab} {m m' : Mem} {ty : Nat} {l : List A} (h : ∀ a ∈ l, ∀ j ∈ a.ids, m' j = m j) : ld T m' ty l = ld T m ty l := by
  unfold ld
  split
  · rw [asCs_congr fun a ha => h a (List.mem_of_mem_take ha)]
  · rfl
  · rfl
theorem qv1_congr {T : Tab} {s s' : Nat → A} {m m' : Mem} {id : Nat} {op : Op} (hs : ∀ x ∈ op.operands, ev s' x = ev s x) (hm : ∀ j, (m j).isSome = true → m' j = m j) (hl : ∀ x, ∀ j ∈ (ev s x).ids, (m j).isSome = true) (hw : ∀ id o, m id = some o → ∀ j ∈ o.ids, (m j).isSome = true) :
    qv1 T s' m' id op = qv1 T s m id op := by
  have hml : ∀ x, ∀ j ∈ (ev s x).ids, m' j = m j := fun x j hj => hm j (hl x j hj)
  have hac : ∀ x, asC m' (ev s x) = asC m (ev s x) := fun x => asC_congr (hml x)
  cases op with
  | move x => simp only [qv1]; rw [hs x (by simp [Op.operands])]
  | assign x => simp only [qv1]; rw [hs x (by simp [Op.operands])]
  | pick c a b => simp only [qv1]; rw [hs c (by simp [Op.operands]), hs a (by simp [Op.operands]), hs b (by simp [Op.operands])]
  | box ty x => simp only [qv1]; rw [hs x (by simp [Op.operands])]
  | alloc ty => rfl
  | load ty x =>
    simp only [qv1]
    rw [hs x (by simp [Op.operands])]
    have hx := hml x
    split
    · rename_i j off e
      rw [e] at hx
      rw [hx j (by simp [A.ids])]
      split
      · rename_i ty' cells hj
        rw [ld_congr fun a ha i hi => hm i (hw j _ hj i (List.mem_flatMap.2 ⟨a, List.mem_of_mem_drop ha, hi⟩))]
      · rfl
    · rfl
    · rfl
  | fieldAddr ty x f => simp only [qv1]; rw [hs x (by simp [Op.operands])]
  | field ty x f => simp only [qv1]; rw [hs x (by simp [Op.operands])]
  | indexAddr ty x i => simp only [qv1]; rw [hs x (by simp [Op.operands]), hs i (by simp [Op.operands]), hac x]
  | binOp op ty x y yt => simp only [qv1]; rw [hs x (by simp [Op.operands]), hs y (by simp [Op.operands])]
  | unOp op ty x =>
    cases op with
    | not => simp only [qv1]; rw [hs x (by simp [Op.operands])]
    | _ => rfl
  | extract x i => simp only [qv1]; rw [hs x (by simp [Op.operands])]
  | makeFunc fn first caps =>
    cases fn with
    | func f =>
      simp only [qv1]
      rw [show caps.toList.map (ev s') = caps.toList.map (ev s) from List.map_congr_left fun x hx => hs x (by simp [Op.operands]; exact .inr (by simpa using hx))]
    | _ => rfl
  | nilCheck x => simp only [qv1]; rw [hs x (by simp [Op.operands])]
  | slice ty x lo hi mx =>
    cases mx with
    | some y => rfl
    | none =>
      simp only [qv1]
      rw [hs x (by simp [Op.operands]), hac x]
      rw [show lo.map (ev s') = lo.map (ev s) by cases lo with | none => rfl | some y => simp [hs y (by simp [Op.operands])],
        show hi.map (ev s') = hi.map (ev s) by cases hi with | none => rfl | some y => simp [hs y (by simp [Op.operands])]]
  | build ty parts =>
    simp only [qv1]
    rw [show (parts.toList.map fun p => (p.1, cellsC m' (ev s' p.2))) = parts.toList.map fun p => (p.1, cellsC m (ev s p.2)) from List.map_congr_left fun p hp => by
      have e : ev s' p.2 = ev s p.2 := hs p.2 (by simp only [Op.operands, List.mem_toArray, List.mem_map]; exact ⟨p, hp, rfl⟩)
      simp only [e, cellsC_congr (hml p.2)]]
  | buildSlice ty len parts =>
    simp only [qv1]
    rw [show (parts.toList.map fun p => (p.1, cellsC m' (ev s' p.2))) = parts.toList.map fun p => (p.1, cellsC m (ev s p.2)) from List.map_congr_left fun p hp => by
      have e : ev s' p.2 = ev s p.2 := hs p.2 (by simp only [Op.operands, List.mem_toArray, List.mem_map]; exact ⟨p, hp, rfl⟩)
      simp only [e, cellsC_congr (hml p.2)]]
  | call c =>
    simp only [qv1]
    split
    · rename_i x t hc hargs hty
      have hx : x ∈ (Op.call c).operands := by
        simp only [Op.operands, Call.operands]
        have : x ∈ c.args := by rw [← Array.mem_toList_iff, hargs]; simp
        exact Array.mem_append.2 (.inr this)
      rw [hs x hx, hac x]
    · rfl
  | _ => rfl
theorem toR_congr {m m' : Mem} {a : A} (h : ∀ j ∈ a.ids, m' j = m j) : toR m' a = toR m a := by unfold toR; cases a <;> simp [asC_congr h]
theorem qv2_congr {T : Tab} {s s' : Nat → A} {m m' : Mem} {id : Nat} {op : Op} (hs : ∀ x ∈ op.operands, ev s' x = ev s x) (hm : ∀ j, (m j).isSome = true → m' j = m j) (hl : ∀ x, ∀ j ∈ (ev s x).ids, (m j).isSome = true) :
    qv2 T s' m' id op = qv2 T s m id op := by
  have hml : ∀ x, ∀ j ∈ (ev s x).ids, m' j = m j := fun x j hj => hm j (hl x j hj)
  cases op with
  | buildSlice ty len parts =>
    simp only [qv2]
    rw [show (parts.toList.map fun p => (p.1, cellsC m' (ev s' p.2))) = parts.toList.map fun p => (p.1, cellsC m (ev s p.2)) from List.map_congr_left fun p hp => by
      have e : ev s' p.2 = ev s p.2 := hs p.2 (by simp only [Op.operands, List.mem_toArray, List.mem_map]; exact ⟨p, hp, rfl⟩)
      simp only [e, cellsC_congr (hml p.2)]]
  | build ty parts =>
    simp only [qv2]
    rw [show (parts.toList.map fun p => (p.1, partA (ev s' p.2))) = parts.toList.map fun p => (p.1, partA (ev s p.2)) from List.map_congr_left fun p hp => by
      have e : ev s' p.2 = ev s p.2 := hs p.2 (by simp only [Op.operands, List.mem_toArray, List.mem_map]; exact ⟨p, hp, rfl⟩)
      simp only [e]]
  | load ty x =>
    simp only [qv2]
    rw [hs x (by simp [Op.operands])]
    have hx := hml x
    split
    · rename_i j e i f ex
      rw [ex] at hx
      rw [hx j (by simp [A.ids])]
    · rfl
  | fieldAddr ty x f => simp only [qv2]; rw [hs x (by simp [Op.operands])]
  | field ty x f => simp only [qv2]; rw [hs x (by simp [Op.operands])]
  | indexAddr ty x i =>
    simp only [qv2]
    rw [hs x (by simp [Op.operands]), hs i (by simp [Op.operands])]
    have hx := hml x
    split
    · rename_i et n j k kn he ex ei
      rw [ex] at hx
      rw [hx j (by simp [A.ids])]
    · rfl
  | nilCheck x => simp only [qv2]; rw [hs x (by simp [Op.operands])]
  | slice ty x lo hi mx =>
    cases mx with
    | some y => rfl
    | none =>
      simp only [qv2]
      rw [hs x (by simp [Op.operands])]
      rw [show lo.map (ev s') = lo.map (ev s) by cases lo with | none => rfl | some y => simp [hs y (by simp [Op.operands])],
        show hi.map (ev s') = hi.map (ev s) by cases hi with | none => rfl | some y => simp [hs y (by simp [Op.operands])]]
      have hx := hml x
      split
      · rename_i et n j he ex
        rw [ex] at hx
        rw [hx j (by simp [A.ids])]
      · rfl
  | makeSlice t l c => simp only [qv2]; rw [hs l (by simp [Op.operands]), hs c (by simp [Op.operands])]
  | makeMap t rs => cases rs <;> rfl
  | lookup t x k ok =>
    simp only [qv2]
    rw [hs x (by simp [Op.operands]), hs k (by simp [Op.operands])]
    have hx := hml x
    split
    · split
      · split
        · rename_i j ex
          rw [ex] at hx
          rw [hx j (by simp [A.ids])]
        · rfl
        · rfl
      · rfl
    · rfl
  | binOp op t x y pos => simp only [qv2]; rw [hs x (by simp [Op.operands]), hs y (by simp [Op.operands])]
  | convert ta tb x => simp only [qv2]; rw [hs x (by simp [Op.operands])]
  | unOp op ty x =>
    cases op with
    | neg => simp only [qv2]; rw [hs x (by simp [Op.operands])]
    | _ => rfl
  | extract x i => simp only [qv2]; rw [hs x (by simp [Op.operands])]
  | makeInterface t x => simp only [qv2]; rw [hs x (by simp [Op.operands]), toR_congr (hml x)]
  | call c =>
    simp only [qv2]
    split
    · rename_i x t hc hargs hty
      have hx : x ∈ (Op.call c).operands := by
        simp only [Op.operands, Call.operands]
        have : x ∈ c.args := by rw [← Array.mem_toList_iff, hargs]; simp
        exact Array.mem_append.2 (.inr this)
      rw [hs x hx]
      have hy := hml x
      split
      · rename_i j ex
        rw [ex] at hy
        rw [hy j (by simp [A.ids])]
      · rename_i j ex
        rw [ex] at hy
        rw [hy j (by simp [A.ids])]
      · rfl
      · rfl
      · rfl
    · rename_i x y hc hargs
      have hx : x ∈ (Op.call c).operands := by
        simp only [Op.operands, Call.operands]
        have : x ∈ c.args := by rw [← Array.mem_toList_iff, hargs]; simp
        exact Array.mem_append.2 (.inr this)
      have hy : y ∈ (Op.call c).operands := by
        simp only [Op.operands, Call.operands]
        have : y ∈ c.args := by rw [← Array.mem_toList_iff, hargs]; simp
        exact Array.mem_append.2 (.inr this)
      rw [hs x hx, hs y hy]
    · rename_i x y hc hargs
      have hx : x ∈ (Op.call c).operands := by
        simp only [Op.operands, Call.operands]
        have : x ∈ c.args := by rw [← Array.mem_toList_iff, hargs]; simp
        exact Array.mem_append.2 (.inr this)
      have hy : y ∈ (Op.call c).operands := by
        simp only [Op.operands, Call.operands]
        have : y ∈ c.args := by rw [← Array.mem_toList_iff, hargs]; simp
        exact Array.mem_append.2 (.inr this)
      rw [hs x hx, hs y hy]
    · rename_i x y z hc hargs
      have hop : ∀ u ∈ [x, y, z], u ∈ (Op.call c).operands := fun u hu => by
        simp only [Op.operands, Call.operands]
        have : u ∈ c.args := by rw [← Array.mem_toList_iff, hargs]; exact hu
        exact Array.mem_append.2 (.inr this)
      rw [hs x (hop x (by simp)), hs y (hop y (by simp)), hs z (hop z (by simp))]
    · rename_i x y z hc hargs
      have hop : ∀ u ∈ [x, y, z], u ∈ (Op.call c).operands := fun u hu => by
        simp only [Op.operands, Call.operands]
        have : u ∈ c.args := by rw [← Array.mem_toList_iff, hargs]; exact hu
        exact Array.mem_append.2 (.inr this)
      rw [hs x (hop x (by simp)), hs y (hop y (by simp)), hs z (hop z (by simp))]
    · rfl
  | _ => rfl
theorem qv_congr {T : Tab} {s s' : Nat → A} {m m' : Mem} {id : Nat} {op : Op} (hs : ∀ x ∈ op.operands, ev s' x = ev s x) (hm : ∀ j, (m j).isSome = true → m' j = m j) (hl : ∀ x, ∀ j ∈ (ev s x).ids, (m j).isSome = true) (hw : ∀ id o, m id = some o → ∀ j ∈ o.ids, (m j).isSome = true) :
    qv T s' m' id op = qv T s m id op := by
  unfold qv
  rw [qv1_congr hs hm hl hw, qv2_congr hs hm hl]
theorem reach_congr {m m' : Mem} {args : List A} (hl : ∀ a ∈ args, ∀ j ∈ a.ids, (m j).isSome = true) (hm : ∀ j, (m j).isSome = true → m' j = m j) (hw : ∀ id o, m id = some o → ∀ j ∈ o.ids, (m j).isSome = true) {j : Nat} :
    (Reach m args j → Reach m' args j ∧ (m j).isSome = true) ∧ (Reach m' args j → Reach m args j ∧ (m j).isSome = true) := by
  constructor
  · intro h
    induction h with
    | arg h hj => exact ⟨.arg h hj, hl _ h _ hj⟩
    | obj h ho hj ih => exact ⟨.obj ih.1 ((hm _ ih.2).trans ho) hj, hw _ _ ho _ hj⟩
  · intro h
    induction h with
    | arg h hj => exact ⟨.arg h hj, hl _ h _ hj⟩
    | obj h ho hj ih => rw [hm _ ih.2] at ho; exact ⟨.obj ih.1 ho hj, hw _ _ ho _ hj⟩
theorem cvs_congr {m m' : Mem} : ∀ {l l' : List A}, (∀ a ∈ l, ∀ j ∈ a.ids, m' j = m j) → (Cvs m l l' ↔ Cvs m' l l')
  | [], [], _ => Iff.rfl
  | [], _ :: _, _ => Iff.rfl
  | _ :: _, [], _ => Iff.rfl
  | a :: l, a' :: l', h => by
    simp only [Cvs, Cv]
    rw [asC_congr (h a (by simp)), cvs_congr (l := l) (l' := l') fun b hb => h b (by simp [hb])]
theorem cvs_ids {m : Mem} : ∀ {l l' : List A}, Cvs m l l' → (∀ a ∈ l, ∀ j ∈ a.ids, (m j).isSome = true) → ∀ a ∈ l', ∀ j ∈ a.ids, (m j).isSome = true
  | [], [], _, h => h
  | a :: l, a' :: l', hc, h => fun b hb j hj => by
    rcases List.mem_cons.1 hb with rfl | hb
    · rcases hc.1 with e | e | ⟨x, -, e⟩
      · rw [e] at hj; exact h a (by simp) j hj
      · rw [e] at hj; simp [A.ids] at hj
      · rw [e] at hj; simp [A.ids] at hj
    · exact cvs_ids hc.2 (fun b hb => h b (by simp [hb])) b hb j hj
theorem ev_looks {ops : Array Oper} {o : Oper} {s s' : Nat → A} (h : ∀ t ∈ o.looksAt ops, s' t = s t) : ∀ x ∈ o.op.operands, ev s' x = ev s x := fun x hx => by
  cases x with
  | tmp t => exact h t (List.mem_append_left _ (List.mem_filterMap.2 ⟨.tmp t, by simpa using hx, rfl⟩))
  | _ => rfl
section
variable {P : Go.Program} {T : Tab} {base : Nat} {ops : Array Oper}
theorem wantA_congr {o : Oper} {s s' : Nat → A} (h : ∀ t ∈ o.looksAt ops, s' t = s t) : wantA ops o s' = wantA ops o s := by
  unfold wantA
  split
  · rfl
  · rename_i j want hg
    have : yieldA ops s' j = yieldA ops s j := by
      unfold yieldA
      split
      · rfl
      · rename_i d hd
        rw [h d (List.mem_append_right _ (by rw [hg]; simp [hd]))]
    rw [this]
theorem HV.both {o : Oper} {st st' : St} {r : A} {ob : Option O} (hs : ∀ t ∈ o.looksAt ops, st'.s t = st.s t) (hm : ∀ j, (st.m j).isSome = true → st'.m j = st.m j) (hw : WF st) :
    (HV P T base ops o st r ob → (ob.isSome = true → st'.m (idOf base o) = none) → HV P T base ops o st' r ob) ∧ (HV P T base ops o st' r ob → (ob.isSome = true → st.m (idOf base o) = none) → HV P T base ops o st r ob) := by
  have he := ev_looks hs
  have hel : ∀ x, ∀ j ∈ (ev st.s x).ids, (st.m j).isSome = true := ev_ids hw.ids
  have hq := qv_congr (T := T) (id := idOf base o) he hm hel hw.live
  have hwt := wantA_congr hs
  -- calls
  have hcall : ∀ {c : Call} {x : Operand} {f : FuncId} {ids : List Nat} {args : List A}, o.op = .call c → c.callee = .value x → (ev st.s x = .fn f ids) → 
      ((ev st'.s x = .fn f ids) ∧ c.args.toList.map (ev st'.s) = c.args.toList.map (ev st.s) ∧ (Cvs st.m (c.args.toList.map (ev st.s) ++ ids.map (A.ptr · 0)) args ↔ Cvs st'.m (c.args.toList.map (ev st.s) ++ ids.map (A.ptr · 0)) args) ∧
        (Cvs st.m (c.args.toList.map (ev st.s) ++ ids.map (A.ptr · 0)) args → (COk P f args st.m r ↔ COk P f args st'.m r))) := by
    intro c x f ids args hop hc hx
    have hxo : x ∈ o.op.operands := by rw [hop]; simp [Op.operands, Call.operands, hc]
    have hl : ∀ a ∈ c.args.toList.map (ev st.s) ++ ids.map (A.ptr · 0), ∀ j ∈ a.ids, (st.m j).isSome = true := by
      intro a ha j hj
      rcases List.mem_append.1 ha with ha | ha
      · obtain ⟨y, -, rfl⟩ := List.mem_map.1 ha; exact hel y j hj
      · obtain ⟨i, hi, rfl⟩ := List.mem_map.1 ha
        simp [A.ids] at hj
        subst hj
        exact hel x j (by rw [hx]; exact hi)
    refine ⟨(he x hxo).trans hx, List.map_congr_left fun y hy => he y ?_, cvs_congr fun a ha j hj => hm j (hl a ha j hj), fun ha => ?_⟩
    · rw [hop]; simp [Op.operands, Call.operands, hc]; exact .inr (by simpa using hy)
    · have hl' := cvs_ids ha hl
      have hre := fun j => reach_congr (j := j) hl' hm hw.live
      constructor
      · rintro ⟨h1, h2, h3⟩
        exact ⟨h1, h2, fun m' hm' => h3 m' fun j hj => (hm' j ((hre j).1 hj).1).trans (hm j ((hre j).1 hj).2)⟩
      · rintro ⟨h1, h2, h3⟩
        exact ⟨h1, h2, fun m' hm' => h3 m' fun j hj => (hm' j ((hre j).2 hj).1).trans (hm j ((hre j).2 hj).2).symm⟩
  have capsC : ∀ {ids : List Nat}, (∀ j ∈ ids, (st.m j).isSome = true) → capsOf st'.m ids = capsOf st.m ids := fun {ids} hi => by
    induction ids with
    | nil => rfl
    | cons j ids ih =>
      simp only [capsOf]
      rw [hm j (hi j (by simp))]
      split
      · rename_i ty cells hj
        rw [asCs_congr fun a ha i hia => hm i (hw.live j _ hj i (List.mem_flatMap.2 ⟨a, ha, hia⟩)), ih fun i hi' => hi i (List.mem_cons_of_mem _ hi')]
      · rfl
  have cvrC : ∀ {l l' : List A}, (∀ a ∈ l, ∀ j ∈ a.ids, (st.m j).isSome = true) → (CvRs st.m l l' ↔ CvRs st'.m l l') := fun {l} => by
    induction l with
    | nil => intro l' _; cases l' <;> exact Iff.rfl
    | cons a l ih =>
      intro l' hl
      cases l' with
      | nil => exact Iff.rfl
      | cons a' l' =>
        have h1 := hl a (by simp)
        have hCv : Cv st.m a a' ↔ Cv st'.m a a' := by
          unfold Cv
          rw [asC_congr fun j hj => hm j (h1 j hj)]
        refine and_congr (or_congr hCv (or_congr ?_ (or_congr ?_ ?_))) (ih fun b hb => hl b (List.mem_cons_of_mem _ hb))
        · constructor
          · rintro ⟨j, ty, cells, xs, e1, hj, hx, e⟩
            refine ⟨j, ty, cells, xs, e1, (hm j (by simp [hj])).trans hj, ?_, e⟩
            rw [asLs_congr fun a ha i hia => hm i (hw.live j _ hj i (List.mem_flatMap.2 ⟨a, ha, hia⟩))]; exact hx
          · rintro ⟨j, ty, cells, xs, e1, hj, hx, e⟩
            have hj' : st.m j = some (.box ty cells) := (hm j (h1 j (by rw [e1]; simp [A.ids]))).symm.trans hj
            refine ⟨j, ty, cells, xs, e1, hj', ?_, e⟩
            rw [asLs_congr fun a ha i hia => hm i (hw.live j _ hj' i (List.mem_flatMap.2 ⟨a, ha, hia⟩))] at hx; exact hx
        · constructor
          · rintro ⟨f, ids, caps, e1, hc, e⟩
            exact ⟨f, ids, caps, e1, by rw [capsC fun j hj => h1 j (by rw [e1]; exact hj)]; exact hc, e⟩
          · rintro ⟨f, ids, caps, e1, hc, e⟩
            exact ⟨f, ids, caps, e1, by rw [capsC fun j hj => h1 j (by rw [e1]; exact hj)] at hc; exact hc, e⟩
        · constructor
          · rintro ⟨j, ty, k, xs, e1, hj, e⟩
            exact ⟨j, ty, k, xs, e1, (hm j (by simp [hj])).trans hj, e⟩
          · rintro ⟨j, ty, k, xs, e1, hj, e⟩
            exact ⟨j, ty, k, xs, e1, (hm j (h1 j (by rw [e1]; simp [A.ids]))).symm.trans hj, e⟩
  have argsL : ∀ {c : Call} {x : Operand} {f : FuncId} {ids : List Nat}, ev st.s x = .fn f ids → ∀ a ∈ c.args.toList.map (ev st.s) ++ ids.map (A.ptr · 0), ∀ j ∈ a.ids, (st.m j).isSome = true := by
    intro c x f ids hx a ha j hj
    rcases List.mem_append.1 ha with ha | ha
    · obtain ⟨y, -, rfl⟩ := List.mem_map.1 ha; exact hel y j hj
    · obtain ⟨i, hi, rfl⟩ := List.mem_map.1 ha
      simp [A.ids] at hj
      subst hj
      exact hel x j (by rw [hx]; exact hi)
  have argsE : ∀ {c : Call}, o.op = .call c → c.args.toList.map (ev st'.s) = c.args.toList.map (ev st.s) := fun {c} hop => List.map_congr_left fun y hy => he y (by rw [hop]; simp [Op.operands, Call.operands]; exact .inr (by simpa using hy))
  have valE : ∀ {c : Call} {x : Operand}, o.op = .call c → c.callee = .value x → ev st'.s x = ev st.s x := fun {c x} hop hc => he x (by rw [hop]; simp [Op.operands, Call.operands, hc])
  have argsF : ∀ {c : Call} {caps : List (List C)}, ∀ a ∈ c.args.toList.map (ev st.s) ++ caps.map A.rptr, ∀ j ∈ a.ids, (st.m j).isSome = true := by
    intro c caps a ha j hj
    rcases List.mem_append.1 ha with ha | ha
    · obtain ⟨y, -, rfl⟩ := List.mem_map.1 ha; exact hel y j hj
    · obtain ⟨i, hi, rfl⟩ := List.mem_map.1 ha
      simp [A.ids] at hj
  have cokE : ∀ {f : FuncId} {l args : List A} {r : A}, Cvs st.m l args → (∀ a ∈ l, ∀ j ∈ a.ids, (st.m j).isSome = true) → (COk P f args st.m r ↔ COk P f args st'.m r) := fun {f l args r} ha hl => by
    have hl' := cvs_ids ha hl
    have hre := fun j => reach_congr (j := j) hl' hm hw.live
    constructor
    · rintro ⟨h1, h2, h3⟩
      exact ⟨h1, h2, fun m' hm' => h3 m' fun j hj => (hm' j ((hre j).1 hj).1).trans (hm j ((hre j).1 hj).2)⟩
    · rintro ⟨h1, h2, h3⟩
      exact ⟨h1, h2, fun m' hm' => h3 m' fun j hj => (hm' j ((hre j).2 hj).1).trans (hm j ((hre j).2 hj).2).symm⟩
  constructor
  · intro h hid
    cases h with
    | callF h hop hc hx ha hk =>
      refine .callF (hwt.trans h) hop hc ((valE hop hc).trans hx) (by rw [argsE hop]; exact (cvs_congr fun a ha j hj => hm j (argsF a ha j hj)).1 ha) ((cokE ha argsF).1 hk)
    | callR h hop hc hx hb ha hi hf hk =>
      exact .callR (hwt.trans h) hop hc ((valE hop hc).trans hx) (fun j hj => let ⟨ty, cells, e⟩ := hb j hj; ⟨ty, cells, (hm j (by simp [e])).trans e⟩) (by rw [argsE hop]; exact (cvrC (argsL hx)).1 ha) hi hf hk
    | skip h => exact .skip (hwt.trans h)
    | val h h2 h3 hdd => exact .val (hwt.trans h) (hq.trans h2) hid hdd
    | call h hop hc hx hb ha hk =>
      obtain ⟨k1, k2, k3, k4⟩ := hcall hop hc hx
      exact .call (hwt.trans h) hop hc k1 (fun j hj => let ⟨ty, cells, e⟩ := hb j hj; ⟨ty, cells, (hm j (by simp [e])).trans e⟩) (by rw [k2]; exact k3.1 ha) ((k4 ha).1 hk)
  · intro h hid
    cases h with
    | callF h hop hc hx ha hk =>
      rw [argsE hop] at ha
      have ha' := (cvs_congr fun a ha j hj => hm j (argsF a ha j hj)).2 ha
      exact .callF (hwt.symm.trans h) hop hc ((valE hop hc).symm.trans hx) ha' ((cokE ha' argsF).2 hk)
    | callR h hop hc hx hb ha hi hf hk =>
      have hx' := (valE hop hc).symm.trans hx
      rw [argsE hop] at ha
      exact .callR (hwt.symm.trans h) hop hc hx' (fun j hj => let ⟨ty, cells, e⟩ := hb j hj; ⟨ty, cells, (hm j (hel _ j (by rw [hx']; exact hj))).symm.trans e⟩) ((cvrC (argsL hx')).2 ha) hi hf hk
    | skip h => exact .skip (hwt.symm.trans h)
    | val h h2 h3 hdd => exact .val (hwt.symm.trans h) (hq.symm.trans h2) hid hdd
    | @call _ c x f ids args h hop hc hx hb ha hk =>
      have hxo : x ∈ o.op.operands := by rw [hop]; simp [Op.operands, Call.operands, hc]
      have hx' : ev st.s x = .fn f ids := (he x hxo).symm.trans hx
      obtain ⟨k1, k2, k3, k4⟩ := hcall (args := args) hop hc hx'
      rw [k2] at ha
      have ha' := k3.2 ha
      exact .call (hwt.symm.trans h) hop hc hx' (fun j hj => let ⟨ty, cells, e⟩ := hb j hj; ⟨ty, cells, (hm j (hel x j (by rw [hx']; exact hj))).symm.trans e⟩) ha' ((k4 ha').2 hk)
def repl (cells : List A) (off : Nat) (l : List A) : List A := cells.take off ++ (l ++ cells.drop (off + l.length))
def replC (cells : List C) (off : Nat) (l : List C) : List C := cells.take off ++ (l ++ cells.drop (off + l.length))
def dataC : A → Option (List C)
  | .c x => some [x]
  | .agg xs => some xs
  | .nil => some [.sl []]
  | .nn xs => some [.sl xs]
  | _ => none
def adrId : A → Option Nat
  | .ptr j _ => some j
  | .eptr j _ _ _ => some j
  | _ => none
def stO (T : Tab) (ty : Nat) (a v : A) : O → Option O
  | .box ty0 cells => match a, T.ty ty, cellsA v with
    | .ptr _ off, some (n, _), some l => if l.length = n ∧ off + l.length ≤ cells.length then some (.box ty0 (repl cells off l)) else none
    | _, _, _ => none
  | .mrow ty0 e xs => match a, T.ty ty, dataC v with
    | .eptr _ e' i f, some (n, _), some l => if e' = e ∧ l.length = n ∧ f + l.length ≤ e then (match xs[i]? with | some cs => some (.mrow ty0 e (xs.set i (replC cs f l))) | none => none) else none
    | _, _, _ => none
  | .rows ty0 xs => match a, T.ty ty, cellsA v with
    | .eptr _ e i f, some (n, _), some [b] => if e = 1 ∧ n = 1 ∧ f = 0 ∧ i < xs.length then (match b.down with | some y => some (.rows ty0 (xs.set i y)) | none => none) else none
    | _, _, _ => none
  | _ => none
structure HStore (T : Tab) (ops : Array Oper) (o : Oper) (st : St) (ty : Nat) (x v : Operand) (j : Nat) (b b' : O) : Prop where
  want : wantA ops o st.s = some true
  op : o.op = .store ty x v
  dst : o.dst = none
  at_ : adrId (ev st.s x) = some j
  box : st.m j = some b
  new : stO T ty (ev st.s x) (ev st.s v) b = some b'
inductive Kind where | slot | read | store | barrier
  deriving DecidableEq
def kind (T : Tab) : Op → Kind
  | .move _ | .assign _ | .pick .. | .box .. | .alloc _ | .fieldAddr .. | .field .. | .binOp .. | .unOp .. | .extract .. | .makeFunc .. | .nilCheck _ | .makeSlice .. | .makeMap .. | .convert .. => .slot
  | .load .. | .indexAddr .. | .slice .. | .build .. | .buildSlice .. | .makeInterface .. | .lookup .. => .read
  | .call c => match c.callee with | .value (.func f) => if T.eff f = true then .barrier else .read | .builtin .len => .read | .builtin .min => .slot | .builtin .max => .slot | _ => .barrier
  | .store .. => .store
  | _ => .barrier
def indep (T : Tab) (ops : Array Oper) (x y : Oper) : Bool := x.apart ops y && (match kind T x.op, kind T y.op with
  | .slot, .slot | .slot, .read | .read, .slot | .read, .read | .store, .slot | .slot, .store => true
  | _, _ => false)
structure Eff (P : Go.Program) (T : Tab) (kp : Nat → Prop) (ops : Array Oper) (o : Oper) (st st' : St) : Prop where
  bar : kind T o.op = .barrier
  wf : WF st → WF st'
  run : ∀ (R : Ref) (n : Nat) (ds : List Deferred) (a : Act) (w : World) (K : Act → World → Prop) (Q : Exit → Act → World → Prop), R.keep = kp → SR R n ds st a w → (∀ d, o.dst = some d → d < n) → (∀ a' w', SR R n ds st' a' w' → K a' w') →
    if Region.wanted o (yielded ops a.tmps) = true then o.wp P a w K Q else K (a.put o.dst undef) w
inductive HS (P : Go.Program) (T : Tab) (kp : Nat → Prop) (base : Nat) (ops : Array Oper) (o : Oper) (st : St) : St → Prop where
  | val {r : A} {ob : Option O} (h : HV P T base ops o st r ob) : HS P T kp base ops o st ⟨putS st.s o.dst r, st.m.put (idOf base o) ob⟩
  | store {ty j : Nat} {x v : Operand} {b b' : O} (h : HStore T ops o st ty x v j b b') : HS P T kp base ops o st ⟨st.s, upd st.m j (some b')⟩
  | eff {st' : St} (h : Eff P T kp ops o st st') : HS P T kp base ops o st st'
theorem HV.new {o : Oper} {st : St} {r : A} {ob : Option O} (h : HV P T base ops o st r ob) : ob.isSome = true → st.m (idOf base o) = none ∧ ∃ d, o.dst = some d ∧ idOf base o = base + d := by
  intro hob
  cases h with
  | skip => cases hob
  | val h hq hid hd =>
    have := hd hob
    cases hdst : o.dst with
    | none => rw [hdst] at this; cases this
    | some d => exact ⟨hid hob, d, rfl, by simp [idOf, hdst]⟩
  | call => cases hob
  | callF => cases hob
  | callR => cases hob
theorem putS_look {s : Nat → A} {dst : Option Nat} {r : A} {l : List Nat} (h : ∀ d, dst = some d → d ∉ l) : ∀ t ∈ l, putS s dst r t = s t := by
  intro t ht
  cases dst with
  | none => rfl
  | some d => exact upd_ne _ _ (fun e => h d rfl (e ▸ ht))
theorem put_keeps {m : Mem} {id : Nat} {ob : Option O} (h : ob.isSome = true → m id = none) : ∀ j, (m j).isSome = true → m.put id ob j = m j := by
  intro j hj
  cases ob with
  | none => rfl
  | some x => exact upd_ne _ _ (fun e => by subst e; rw [h rfl] at hj; cases hj)
theorem put_none {m : Mem} {id k : Nat} {ob : Option O} (h : m.put id ob k = none) : m k = none := by
  cases ob with
  | none => exact h
  | some x =>
    simp only [Mem.put, upd] at h
    split at h
    · cases h
    · exact h
theorem putS_comm {s : Nat → A} {x y : Option Nat} (r q : A) (h : ∀ d, x = some d → y ≠ some d) : putS (putS s x r) y q = putS (putS s y q) x r := by
  cases x with
  | none => rfl
  | some d =>
    cases y with
    | none => rfl
    | some e =>
      have hne : d ≠ e := fun k => h d rfl (k ▸ rfl)
      funext t
      simp only [putS, upd]
      by_cases h1 : t = d <;> by_cases h2 : t = e <;> simp [h1, h2]
      · subst h1; subst h2; exact absurd rfl hne
      · intro k; exact absurd k hne
      · intro k; exact absurd k.symm hne
theorem put_comm {m : Mem} {i j : Nat} {x y : Option O} (h : x.isSome = true → y.isSome = true → i ≠ j) : (m.put i x).put j y = (m.put j y).put i x := by
  cases x with
  | none => rfl
  | some x =>
    cases y with
    | none => rfl
    | some y =>
      have hne := h rfl rfl
      funext t
      simp only [Mem.put, upd]
      by_cases h1 : t = i <;> by_cases h2 : t = j <;> simp [h1, h2]
      · subst h1; subst h2; exact absurd rfl hne
      · intro k; exact absurd k hne
      · intro k; exact absurd k.symm hne
theorem qv_slot {s : Nat → A} {m m' : Mem} {id : Nat} {op : Op} (h : kind T op = .slot) : qv T s m' id op = qv T s m id op := by
  have h1 : qv1 T s m' id op = qv1 T s m id op := by
    cases op with
    | call c =>
      simp only [kind] at h
      simp only [qv1]
      split
      · rename_i x t hc _ _
        rw [hc] at h
        cases h
      · rfl
    | unOp u _ _ => cases u <;> rfl
    | makeFunc fn _ _ => cases fn <;> rfl
    | _ => first | rfl | cases h
  have h2 : qv2 T s m' id op = qv2 T s m id op := by
    cases op with
    | call c =>
      simp only [kind] at h
      simp only [qv2]
      split
      · rename_i x t hc _ _
        rw [hc] at h
        cases h
      · rfl
      · rfl
      · rfl
      · rfl
      · rfl
    | unOp u _ _ => cases u <;> rfl
    | makeFunc fn _ _ => cases fn <;> rfl
    | makeMap t rs => cases rs <;> rfl
    | _ => first | rfl | cases h
  unfold qv
  rw [h1, h2]
theorem kind_call {c : Call} {x : Operand} (hc : c.callee = .value x) : kind T (.call c) ≠ .slot := by
  simp only [kind, hc]
  cases x <;> simp
  split <;> simp
theorem kind_eff {kp : Nat → Prop} {oi oj : Oper} {st st' : St} (h : Eff P T kp ops oi st st') : indep T ops oi oj = false ∧ indep T ops oj oi = false := by
  simp only [indep, h.bar]
  cases kind T oj.op <;> simp
theorem upd_put {m : Mem} {id j : Nat} {x : O} {ob : Option O} (hne : ob.isSome = true → id ≠ j) : upd (m.put id ob) j (some x) = Mem.put (upd m j (some x)) id ob := by
  cases ob with
  | none => rfl
  | some y =>
    have hne := hne rfl
    funext t
    simp only [Mem.put, upd]
    by_cases h1 : t = id <;> by_cases h2 : t = j <;> simp [h1, h2]
    · subst h1; exact absurd h2 hne
    · intro k; exact absurd k hne
    · intro k; exact absurd k.symm hne
theorem HS.comm {kp : Nat → Prop} {oi oj : Oper} {st st1 st2 : St} (hind : indep T ops oi oj = true) (hw : WF st) (h1 : HS P T kp base ops oi st st1) (h2 : HS P T kp base ops oj st1 st2) : ∃ st3, HS P T kp base ops oj st st3 ∧ HS P T kp base ops oi st3 st2 := by
  have hind0 := hind
  simp only [indep, Bool.and_eq_true] at hind
  obtain ⟨hap, hk⟩ := hind
  obtain ⟨a1, a2, a3⟩ := Oper.apart_spec hap
  cases h1 with
  | eff h => rw [(kind_eff h).1] at hind0; cases hind0
  | @val ri obi hi =>
    have ni := hi.new
    cases h2 with
    | eff h => rw [(kind_eff h).2] at hind0; cases hind0
    | @val rj obj hj =>
      have nj := hj.new
      have hj' := (HV.both (st := st) (putS_look a1) (put_keeps fun h => (ni h).1) hw).2 hj (fun h => put_none (nj h).1)
      refine ⟨_, .val hj', ?_⟩
      have nj' := hj'.new
      have hne : obi.isSome = true → obj.isSome = true → idOf base oi ≠ idOf base oj := fun h h' e => by
        obtain ⟨-, d, hd, e1⟩ := ni h
        obtain ⟨-, d', hd', e2⟩ := nj' h'
        have hdd := e1.symm.trans (e.trans e2)
        have : d = d' := Nat.add_left_cancel hdd
        subst this
        exact a2 d hd hd'
      have hi' := (HV.both (st := st) (st' := ⟨putS st.s oj.dst rj, st.m.put (idOf base oj) obj⟩) (putS_look a3) (put_keeps fun h => (nj' h).1) hw).1 hi (fun h => by
        cases obj with
        | none => exact (ni h).1
        | some y => simp only [Mem.put]; rw [upd_ne _ _ (hne h rfl)]; exact (ni h).1)
      have := HS.val (kp := kp) hi'
      dsimp only at this ⊢
      rw [putS_comm ri rj a2, put_comm hne]
      exact this
    | @store ty j x v b b' hs =>
      -- oi looks at slots alone, or was passed over
      have hnk : kind T oj.op = .store := by rw [hs.op]; rfl
      rw [hnk] at hk
      have hki' : kind T oi.op = .slot := by
        revert hk
        cases kind T oi.op <;> simp
      have he := ev_looks (ops := ops) (o := oj) (s := st.s) (s' := putS st.s oi.dst ri) (putS_look a1)
      have ex : ev (putS st.s oi.dst ri) x = ev st.s x := he x (by rw [hs.op]; simp [Op.operands])
      have ev' : ev (putS st.s oi.dst ri) v = ev st.s v := he v (by rw [hs.op]; simp [Op.operands])
      have hat : adrId (ev st.s x) = some j := by rw [← ex]; exact hs.at_
      have hjl : (st.m j).isSome = true := ev_ids hw.ids x j (by revert hat; cases ev st.s x <;> simp [adrId, A.ids] <;> exact fun e => e.symm)
      have hbox : st.m j = some b := by rw [← put_keeps (fun h => (ni h).1) j hjl]; exact hs.box
      have hs' : HStore T ops oj st ty x v j b b' := ⟨(wantA_congr (putS_look a1)).symm.trans hs.want, hs.op, hs.dst, hat, hbox, by rw [← ex, ← ev']; exact hs.new⟩
      refine ⟨_, .store hs', ?_⟩
      have hni : obi.isSome = true → idOf base oi ≠ j := fun h e => by rw [← e, (ni h).1] at hjl; cases hjl
      have hi' : HV P T base ops oi ⟨st.s, upd st.m j (some b')⟩ ri obi := by
        cases hi with
        | skip h => exact .skip h
        | val h hq hid hd => exact .val h (by rw [← hq]; exact qv_slot hki') (fun h => by show upd _ _ _ _ = _; rw [upd_ne _ _ (hni h)]; exact hid h) hd
        | call h hop hc => rw [hop] at hki'; exact absurd hki' (kind_call hc)
        | callF h hop hc => rw [hop] at hki'; exact absurd hki' (kind_call hc)
        | callR h hop hc => rw [hop] at hki'; exact absurd hki' (kind_call hc)
      have := HS.val (kp := kp) hi'
      dsimp only at this ⊢
      rw [upd_put hni]
      exact this
  | @store ty j x v b b' hs =>
    have hnk : kind T oi.op = .store := by rw [hs.op]; rfl
    rw [hnk] at hk
    have hkj' : kind T oj.op = .slot := by
      revert hk
      cases kind T oj.op <;> simp
    cases h2 with
    | eff h => rw [(kind_eff h).2] at hind0; cases hind0
    | @val rj obj hj =>
      have nj := hj.new
      have hjl : (st.m j).isSome = true := by simp [hs.box]
      have nj0 : obj.isSome = true → st.m (idOf base oj) = none ∧ idOf base oj ≠ j := fun h => by
        have := (nj h).1
        simp only [upd] at this
        split at this
        · cases this
        · rename_i e; exact ⟨this, e⟩
      have hj' : HV P T base ops oj st rj obj := by
        cases hj with
        | skip h => exact .skip h
        | val h hq hid hd => exact .val h (by rw [← hq]; exact qv_slot hkj') (fun h => (nj0 h).1) hd
        | call h hop hc => rw [hop] at hkj'; exact absurd hkj' (kind_call hc)
        | callF h hop hc => rw [hop] at hkj'; exact absurd hkj' (kind_call hc)
        | callR h hop hc => rw [hop] at hkj'; exact absurd hkj' (kind_call hc)
      refine ⟨_, .val hj', ?_⟩
      have he := ev_looks (ops := ops) (o := oi) (s := st.s) (s' := putS st.s oj.dst rj) (putS_look a3)
      have ex : ev (putS st.s oj.dst rj) x = ev st.s x := he x (by rw [hs.op]; simp [Op.operands])
      have ev' : ev (putS st.s oj.dst rj) v = ev st.s v := he v (by rw [hs.op]; simp [Op.operands])
      have hs' : HStore T ops oi ⟨putS st.s oj.dst rj, st.m.put (idOf base oj) obj⟩ ty x v j b b' :=
        ⟨(wantA_congr (putS_look a3)).trans hs.want, hs.op, hs.dst, by rw [ex]; exact hs.at_, (put_keeps (fun h => (nj0 h).1) j hjl).trans hs.box, by rw [ex, ev']; exact hs.new⟩
      have := HS.store (P := P) (base := base) (kp := kp) hs'
      dsimp only at this ⊢
      rw [← upd_put fun h => (nj0 h).2]
      exact this
    | @store _ _ _ _ _ _ hs2 =>
      have hnk2 : kind T oj.op = .store := by rw [hs2.op]; rfl
      rw [hnk2] at hkj'
      cases hkj'
end
end V
end Go.Proofs.YtbmbmcdaabhgnaaDoor
end
section
namespace Go.Proofs.YtbmbmcdaabhgnaaDoor
namespace V
open Go.RowKit
section
variable {P : Go.Program} {T : Tab} {base : Nat} {ops : Array Oper}
theorem qv1_wf {s : Nat → A} {m : Mem} {id : Nat} {op : Op} {r : A} {ob : Option O} (hl : ∀ x, ∀ j ∈ (ev s x).ids, (m j).isSome = true) (hw : ∀ id o, m id = some o → ∀ j ∈ o.ids, (m j).isSome = true) (h : qv1 T s m id op = some (r, ob)) :
    (∀ j ∈ r.ids, (m.put id ob j).isSome = true) ∧ ∀ o, ob = some o → ∀ j ∈ o.ids, (m.put id ob j).isSome = true := by
  have two : ∀ {r' : A} {ob' : Option O}, ob' = none → (∀ j ∈ r'.ids, (m j).isSome = true) → (r', ob') = (r, ob) → (∀ j ∈ r.ids, (m.put id ob j).isSome = true) ∧ ∀ o, ob = some o → ∀ j ∈ o.ids, (m.put id ob j).isSome = true := by
    intro r' ob' e h1 h2
    cases h2; subst e
    exact ⟨h1, fun o h => by cases h⟩
  have none_ : ∀ {r' : A}, r'.ids = [] → ∀ j ∈ r'.ids, (m j).isSome = true := fun e j hj => by rw [e] at hj; simp at hj
  have new : ∀ {ty : Nat} {l : List A}, (∀ j ∈ l.flatMap A.ids, (m j).isSome = true) → (A.ptr id 0, some (O.box ty l)) = (r, ob) → (∀ j ∈ r.ids, (m.put id ob j).isSome = true) ∧ ∀ o, ob = some o → ∀ j ∈ o.ids, (m.put id ob j).isSome = true := by
    intro ty l h1 h2
    cases h2
    refine ⟨fun j hj => ?_, fun o ho j hj => ?_⟩
    · simp [A.ids] at hj; subst hj; simp [Mem.put, upd]
    · cases ho; exact put_live (h1 j hj)
  cases op with
  | move x => exact two rfl (hl x) (Option.some.inj h)
  | assign x => exact two rfl (hl x) (Option.some.inj h)
  | pick c a b =>
    simp only [qv1] at h
    split at h
    · exact two rfl (hl a) (Option.some.inj h)
    · exact two rfl (hl b) (Option.some.inj h)
    · cases h
  | box ty x =>
    simp only [qv1] at h
    split at h
    · rename_i l e; exact new (fun j hj => hl x j (cellsA_ids e j hj)) (Option.some.inj h)
    · cases h
  | alloc ty =>
    simp only [qv1] at h
    split at h
    · exact new (fun j hj => by
        simp only [List.mem_flatMap, List.mem_map] at hj
        obtain ⟨_, ⟨x, -, rfl⟩, h⟩ := hj
        simp [ofConst_ids] at h) (Option.some.inj h)
    · cases h
  | load ty x =>
    simp only [qv1] at h
    split at h
    · split at h
      · rename_i ty' cells hj
        split at h
        · rename_i r' e3
          refine two rfl ?_ (Option.some.inj h)
          unfold ld at e3
          split at e3
          · split at e3
            · split at e3
              · cases e3; exact none_ rfl
              · split at e3
                · rename_i ys hys
                  cases e3
                  intro j hj'
                  obtain ⟨x, hx1, hx2⟩ := List.mem_flatMap.1 (downs_ids hys j hj')
                  exact hw _ _ hj j (List.mem_flatMap.2 ⟨x, List.mem_of_mem_drop (List.mem_of_mem_take hx1), hx2⟩)
                · cases e3
            · cases e3
          · rename_i off _ _ _ _ _
            intro j hj'
            have : r' ∈ cells := List.mem_of_mem_drop (List.mem_of_mem_head? e3)
            exact hw _ _ hj j (List.mem_flatMap.2 ⟨r', this, hj'⟩)
          · cases e3
        · cases h
      · cases h
    · split at h
      · rename_i r' e3
        refine two rfl ?_ (Option.some.inj h)
        unfold ldR at e3
        split at e3
        · split at e3
          · cases e3; exact none_ rfl
          · cases e3
        · split at e3
          · cases e3; exact none_ rfl
          · cases e3
        · cases e3
      · cases h
    · cases h
  | fieldAddr ty x f =>
    simp only [qv1] at h
    split at h
    · split at h
      · rename_i e; exact two rfl (fun i hi => hl x i (by rw [e]; exact hi)) (Option.some.inj h)
      · exact two rfl (none_ rfl) (Option.some.inj h)
      · cases h
    · cases h
  | field ty x f =>
    simp only [qv1] at h
    split at h
    · exact two rfl (none_ rfl) (Option.some.inj h)
    · split at h
      · exact two rfl (none_ rfl) (Option.some.inj h)
      · cases h
    · cases h
  | indexAddr ty x i =>
    simp only [qv1] at h
    split at h
    · split at h
      · split at h
        · split at h
          · exact two rfl (none_ rfl) (Option.some.inj h)
          · cases h
        · cases h
      · cases h
    · cases h
  | binOp op ty x y yt =>
    simp only [qv1] at h
    split at h
    · exact two rfl (none_ rfl) (Option.some.inj h)
    · cases h
  | unOp op ty x =>
    cases op with
    | not =>
      simp only [qv1] at h
      split at h
      · exact two rfl (none_ rfl) (Option.some.inj h)
      · cases h
    | _ => cases h
  | extract x i =>
    simp only [qv1] at h
    split at h
    · split at h
      · exact two rfl (none_ rfl) (Option.some.inj h)
      · exact two rfl (none_ rfl) (Option.some.inj h)
      · cases h
    · cases h
  | makeFunc fn first caps =>
    cases fn with
    | func f =>
      simp only [qv1] at h
      split at h
      · split at h
        · rename_i ids hids
          refine two rfl (fun j hj => ?_) (Option.some.inj h)
          have : ∀ {l : List Operand} {ids : List Nat}, ptrIds (l.map (ev s)) = some ids → ∀ j ∈ ids, ∃ x, j ∈ (ev s x).ids := by
            intro l
            induction l with
            | nil => intro ids h j hj; simp [ptrIds] at h; subst h; simp at hj
            | cons x l ih =>
              intro ids h j hj
              cases hx : ev s x with
              | ptr id off =>
                cases off with
                | zero =>
                  simp only [List.map_cons, hx, ptrIds] at h
                  split at h
                  · rename_i ids' h'
                    cases h
                    rcases List.mem_cons.1 hj with rfl | hj
                    · exact ⟨x, by simp [hx, A.ids]⟩
                    · exact ih h' j hj
                  · cases h
                | succ n => simp [hx, ptrIds] at h
              | _ => simp [hx, ptrIds] at h
          obtain ⟨x, hx⟩ := this hids j hj
          exact hl x j hx
        · cases h
      · cases h
    | _ => cases h
  | nilCheck x =>
    simp only [qv1] at h
    have hx := hl x
    split at h
    · rename_i e; rw [e] at hx; exact two rfl hx (Option.some.inj h)
    · rename_i e; rw [e] at hx; exact two rfl hx (Option.some.inj h)
    · rename_i e; rw [e] at hx; exact two rfl hx (Option.some.inj h)
    · cases h
  | slice ty x lo hi mx =>
    cases mx with
    | some y => cases h
    | none =>
      simp only [qv1] at h
      split at h
      · split at h
        · rename_i r' e
          refine two rfl ?_ (Option.some.inj h)
          unfold sliceOf at e
          split at e
          · split at e
            · cases e; exact none_ rfl
            · cases e
          · cases e
        · cases h
      · cases h
  | build ty parts =>
    simp only [qv1] at h
    split at h
    · split at h
      · exact two rfl (none_ rfl) (Option.some.inj h)
      · cases h
    · cases h
  | buildSlice ty len parts =>
    simp only [qv1] at h
    split at h
    · cases h
    split at h
    · split at h
      · split at h
        · split at h
          · exact two rfl (none_ rfl) (Option.some.inj h)
          · cases h
        · cases h
      · cases h
    · cases h
  | call c =>
    simp only [qv1] at h
    split at h
    · split at h
      · exact two rfl (none_ rfl) (Option.some.inj h)
      · cases h
    · cases h
  | _ => cases h
theorem findE_mem {k : A1} : ∀ {l : List (A1 × A1)} {q : Nat} {v : A1}, findE k l = some (some (q, v)) → ∃ k', (k', v) ∈ l
  | [], q, v, h => by simp [findE] at h
  | p :: l, q, v, h => by
    simp only [findE] at h
    split at h
    · cases h; exact ⟨p.1, by simp⟩
    · split at h
      · rename_i hf
        cases h
        obtain ⟨k', hk'⟩ := findE_mem hf
        exact ⟨k', List.mem_cons_of_mem _ hk'⟩
      · cases h
      · cases h
    · cases h
theorem zero1_ids {T : Tab} {t : Nat} {z : A1} (h : zero1 T t = some z) : z.ids = [] := by
  unfold zero1 at h
  split at h
  · rename_i v hv
    have := down_ids h
    rw [ofConst_ids] at this
    exact List.eq_nil_iff_forall_not_mem.2 fun j hj => by simpa using this j hj
  · split at h
    · split at h
      · cases h; rfl
      · cases h
    · cases h
theorem qv2_wf {s : Nat → A} {m : Mem} {id : Nat} {op : Op} {r : A} {ob : Option O} (hl : ∀ x, ∀ j ∈ (ev s x).ids, (m j).isSome = true) (hw : ∀ id o, m id = some o → ∀ j ∈ o.ids, (m j).isSome = true) (h : qv2 T s m id op = some (r, ob)) :
    (∀ j ∈ r.ids, (m.put id ob j).isSome = true) ∧ ∀ o, ob = some o → ∀ j ∈ o.ids, (m.put id ob j).isSome = true := by
  have two : ∀ {r' : A} {ob' : Option O}, ob' = none → (∀ j ∈ r'.ids, (m j).isSome = true) → (r', ob') = (r, ob) → (∀ j ∈ r.ids, (m.put id ob j).isSome = true) ∧ ∀ o, ob = some o → ∀ j ∈ o.ids, (m.put id ob j).isSome = true := by
    intro r' ob' e h1 h2
    cases h2; subst e
    exact ⟨h1, fun o h => by cases h⟩
  have none_ : ∀ {r' : A}, r'.ids = [] → ∀ j ∈ r'.ids, (m j).isSome = true := fun e j hj => by rw [e] at hj; simp at hj
  have new : ∀ {z : O} {r' : A}, r'.ids = [id] → z.ids = [] → (r', some z) = (r, ob) → (∀ j ∈ r.ids, (m.put id ob j).isSome = true) ∧ ∀ o, ob = some o → ∀ j ∈ o.ids, (m.put id ob j).isSome = true := by
    intro z r' h0 h1 h2
    cases h2
    refine ⟨fun j hj => ?_, fun o ho j hj => ?_⟩
    · rw [h0] at hj; simp at hj; subst hj; simp [Mem.put, upd]
    · cases ho; rw [h1] at hj; simp at hj
  cases op with
  | buildSlice ty len parts =>
    simp only [qv2] at h
    split at h
    · split at h
      · split at h
        · split at h
          · split at h
            · exact new rfl rfl (Option.some.inj h)
            · cases h
          · cases h
        · cases h
      · cases h
    · cases h
  | build ty parts =>
    simp only [qv2] at h
    split at h
    · split at h
      · rename_i z1 hz
        split at h
        · rename_i xs hf
          refine two rfl (fun j hj => ?_) (Option.some.inj h)
          refine fillA_ids (Q := fun j => (m j).isSome = true) _ z1 xs (fun j hj => (constA_ids hz j hj).elim) (fun p hp ys hy j hj => ?_) hf j hj
          obtain ⟨q, -, rfl⟩ := List.mem_map.1 hp
          exact hl q.2 j (partA_ids hy j hj)
        · cases h
      · cases h
    · cases h
  | load ty x =>
    simp only [qv2] at h
    split at h
    · rename_i j e i f ex
      split at h
      · split at h
        · split at h
          · split at h
            · rename_i r' e3
              refine two rfl (none_ ?_) (Option.some.inj h)
              unfold ldR at e3
              split at e3
              · split at e3 <;> cases e3; rfl
              · split at e3 <;> cases e3; rfl
              · cases e3
            · cases h
          · cases h
        · cases h
      · rename_i ty' xs hj
        split at h
        · split at h
          · rename_i n y hty hy
            refine two rfl (fun q hq => ?_) (Option.some.inj h)
            rw [up_ids] at hq
            exact hw j _ hj q (List.mem_flatMap.2 ⟨y, List.mem_of_getElem? hy, hq⟩)
          · cases h
        · cases h
      · cases h
    · cases h
  | fieldAddr ty x f =>
    simp only [qv2] at h
    split at h
    · rename_i o' n g j e i g' ho ex
      exact two rfl (fun q hq => hl x q (by rw [ex]; exact hq)) (Option.some.inj h)
    · cases h
  | field ty x f =>
    simp only [qv2] at h
    split at h
    · rename_i o' n xs ho ex
      refine two rfl (fun q hq => ?_) (Option.some.inj h)
      obtain ⟨y, hy1, hy2⟩ := List.mem_flatMap.1 hq
      exact hl x q (by rw [ex]; exact List.mem_flatMap.2 ⟨y, List.mem_of_mem_drop (List.mem_of_mem_take hy1), hy2⟩)
    · rename_i o' n xs ho ex
      split at h
      · rename_i y hy
        refine two rfl (fun q hq => ?_) (Option.some.inj h)
        rw [up_ids] at hq
        exact hl x q (by rw [ex]; exact List.mem_flatMap.2 ⟨y, List.mem_of_getElem? hy, hq⟩)
      · cases h
    · cases h
  | indexAddr ty x i =>
    simp only [qv2] at h
    split at h
    · rename_i et n j k kn he ex ei
      have hj : (m j).isSome = true := hl x j (by rw [ex]; simp [A.ids])
      split at h
      · split at h
        · exact two rfl (fun q hq => by simp [A.ids] at hq; subst hq; exact hj) (Option.some.inj h)
        · cases h
      · split at h
        · exact two rfl (fun q hq => by simp [A.ids] at hq; subst hq; exact hj) (Option.some.inj h)
        · cases h
      · cases h
    · cases h
  | nilCheck x =>
    simp only [qv2] at h
    split at h
    · rename_i j e i f ex
      exact two rfl (fun q hq => hl x q (by rw [ex]; exact hq)) (Option.some.inj h)
    · rename_i j ex
      exact two rfl (fun q hq => hl x q (by rw [ex]; exact hq)) (Option.some.inj h)
    · exact two rfl (none_ rfl) (Option.some.inj h)
    · cases h
  | slice ty x lo hi mx =>
    cases mx with
    | some _ => simp [qv2] at h
    | none =>
      simp only [qv2] at h
      split at h
      · rename_i et n j he ex
        have hj : (m j).isSome = true := hl x j (by rw [ex]; simp [A.ids])
        split at h
        · split at h
          · split at h
            · split at h
              · exact two rfl (fun q hq => by simp [A.ids] at hq; subst hq; exact hj) (Option.some.inj h)
              · cases h
            · cases h
          · cases h
        · cases h
      · cases h
  | makeSlice t l c =>
    simp only [qv2] at h
    split at h
    · split at h
      · split at h
        · split at h
          · refine new rfl ?_ (Option.some.inj h)
            refine List.eq_nil_iff_forall_not_mem.2 fun q hq => ?_
            obtain ⟨y, hy1, hy2⟩ := List.mem_flatMap.1 hq
            rw [List.eq_of_mem_replicate hy1] at hy2
            simp [A1.ids] at hy2
          · split at h
            · exact new rfl rfl (Option.some.inj h)
            · split at h
              · rename_i v
                split at h
                · rename_i z' hz'
                  refine new rfl ?_ (Option.some.inj h)
                  refine List.eq_nil_iff_forall_not_mem.2 fun q hq => ?_
                  obtain ⟨y, hy1, hy2⟩ := List.mem_flatMap.1 hq
                  rw [List.eq_of_mem_replicate hy1] at hy2
                  have := down_ids hz' q hy2
                  rw [ofConst_ids] at this
                  simp at this
                · cases h
              · cases h
        · cases h
      · cases h
    · cases h
  | makeMap t rs =>
    cases rs with
    | some _ => simp [qv2] at h
    | none =>
      simp only [qv2] at h
      split at h
      · exact new rfl rfl (Option.some.inj h)
      · cases h
  | lookup t x k ok =>
    simp only [qv2] at h
    split at h
    · rename_i kt e key ht hkey
      split at h
      · split at h
        · rename_i j ex
          split at h
          · rename_i ents hj
            split at h
            · rename_i q v hf
              refine two rfl (fun i hi => ?_) (Option.some.inj h)
              obtain ⟨k', hk'⟩ := findE_mem hf
              exact hw j _ hj i (List.mem_flatMap.2 ⟨(k', v), hk', List.mem_append_right _ (lookRes_ids i hi)⟩)
            · split at h
              · rename_i z hz
                exact two rfl (fun i hi => by have := lookRes_ids i hi; rw [zero1_ids hz] at this; simp at this) (Option.some.inj h)
              · cases h
            · cases h
          · unfold lookN at h
            split at h
            · exact two rfl (fun i hi => by simp [A.ids] at hi) (Option.some.inj h)
            · cases h
          · cases h
        · split at h
          · rename_i z hz
            exact two rfl (fun i hi => by have := lookRes_ids i hi; rw [zero1_ids hz] at this; simp at this) (Option.some.inj h)
          · cases h
        · cases h
      · cases h
    · cases h
  | binOp op t x y pos =>
    simp only [qv2] at h
    split at h
    · split at h
      · split at h
        · split at h
          · exact two rfl (none_ rfl) (Option.some.inj h)
          · cases h
        · cases h
      · cases h
    · cases h
  | convert ta tb x =>
    simp only [qv2] at h
    split at h
    · exact two rfl (none_ rfl) (Option.some.inj h)
    · cases h
  | unOp op ty x =>
    cases op with
    | neg =>
      simp only [qv2] at h
      split at h
      · exact two rfl (none_ rfl) (Option.some.inj h)
      · cases h
    | _ => simp [qv2] at h
  | extract x i =>
    simp only [qv2] at h
    split at h
    · rename_i xs ex
      split at h
      · rename_i y hy
        refine two rfl (fun q hq => ?_) (Option.some.inj h)
        rw [up_ids] at hq
        exact hl x q (by rw [ex]; exact List.mem_flatMap.2 ⟨y, List.mem_of_getElem? hy, hq⟩)
      · cases h
    · cases h
  | makeInterface t x =>
    simp only [qv2] at h
    split at h
    · split at h
      · exact two rfl (none_ rfl) (Option.some.inj h)
      · cases h
    · cases h
  | call c =>
    simp only [qv2] at h
    split at h
    · split at h
      · split at h
        · exact two rfl (none_ rfl) (Option.some.inj h)
        · exact two rfl (none_ rfl) (Option.some.inj h)
        · cases h
      · split at h
        · split at h
          · exact two rfl (none_ rfl) (Option.some.inj h)
          · cases h
        · cases h
      · split at h
        · exact two rfl (none_ rfl) (Option.some.inj h)
        · cases h
      · split at h
        · exact two rfl (none_ rfl) (Option.some.inj h)
        · cases h
      · cases h
    · split at h
      · split at h
        · exact two rfl (none_ rfl) (Option.some.inj h)
        · cases h
      · cases h
    · split at h
      · split at h
        · exact two rfl (none_ rfl) (Option.some.inj h)
        · cases h
      · cases h
    · split at h
      · split at h
        · exact two rfl (none_ rfl) (Option.some.inj h)
        · cases h
      · cases h
    · split at h
      · split at h
        · exact two rfl (none_ rfl) (Option.some.inj h)
        · cases h
      · cases h
    · cases h
  | _ => simp [qv2] at h
theorem qv_wf {s : Nat → A} {m : Mem} {id : Nat} {op : Op} {r : A} {ob : Option O} (hl : ∀ x, ∀ j ∈ (ev s x).ids, (m j).isSome = true) (hw : ∀ id o, m id = some o → ∀ j ∈ o.ids, (m j).isSome = true) (h : qv T s m id op = some (r, ob)) :
    (∀ j ∈ r.ids, (m.put id ob j).isSome = true) ∧ ∀ o, ob = some o → ∀ j ∈ o.ids, (m.put id ob j).isSome = true := by
  unfold qv at h
  split at h
  · rename_i r' h1; cases h; exact qv1_wf hl hw h1
  · exact qv2_wf hl hw h
theorem stO_ids {ty : Nat} {a v : A} {b b' : O} (h : stO T ty a v b = some b') : ∀ i ∈ b'.ids, i ∈ b.ids ∨ i ∈ v.ids := by
  intro i hi
  cases b with
  | box ty0 cells =>
    simp only [stO] at h
    split at h
    · rename_i id off n g l hty hc
      split at h
      · cases h
        simp only [O.ids, repl, List.flatMap_append, List.mem_append] at hi ⊢
        rcases hi with hi | hi | hi
        · obtain ⟨z, hz, hq⟩ := List.mem_flatMap.1 hi
          exact .inl (List.mem_flatMap.2 ⟨z, List.mem_of_mem_take hz, hq⟩)
        · exact .inr (cellsA_ids hc i hi)
        · obtain ⟨z, hz, hq⟩ := List.mem_flatMap.1 hi
          exact .inl (List.mem_flatMap.2 ⟨z, List.mem_of_mem_drop hz, hq⟩)
      · cases h
    · cases h
  | mrow ty0 e xs =>
    simp only [stO] at h
    split at h
    · split at h
      · split at h
        · cases h; simp [O.ids] at hi
        · cases h
      · cases h
    · cases h
  | rows ty0 xs =>
    simp only [stO] at h
    split at h
    · rename_i id e i' f n g b hty hc
      split at h
      · split at h
        · rename_i y hy
          cases h
          obtain ⟨z, hz, hq⟩ := List.mem_flatMap.1 hi
          rcases List.mem_or_eq_of_mem_set hz with hz | rfl
          · exact .inl (List.mem_flatMap.2 ⟨z, hz, hq⟩)
          · exact .inr (cellsA_ids hc i (by simpa using down_ids hy i hq))
        · cases h
      · cases h
    · cases h
  | _ => simp [stO] at h
theorem HS.wf {kp : Nat → Prop} {o : Oper} {st st' : St} (hw : WF st) (h : HS P T kp base ops o st st') : WF st' := by
  cases h with
  | eff h => exact h.wf hw
  | @val r ob h =>
    have hr : (∀ j ∈ r.ids, (st.m.put (idOf base o) ob j).isSome = true) ∧ ∀ x, ob = some x → ∀ j ∈ x.ids, (st.m.put (idOf base o) ob j).isSome = true := by
      cases h with
      | skip h => exact ⟨fun j hj => by simp [A.ids] at hj, fun x hx => by cases hx⟩
      | val h hq => exact qv_wf (ev_ids hw.ids) hw.live hq
      | call h hop hc hx hb ha hk2 => exact ⟨fun j hj => by rw [hk2.2.1] at hj; simp at hj, fun x hx => by cases hx⟩
      | callF h hop hc hx ha hk2 => exact ⟨fun j hj => by rw [hk2.2.1] at hj; simp at hj, fun x hx => by cases hx⟩
      | callR h hop hc hx hb ha hi hf hk2 => exact ⟨fun j hj => by rw [(hk2 Mem.nil).2.1] at hj; simp at hj, fun x hx => by cases hx⟩
    refine ⟨putS_ids (fun t j hj => put_live (hw.ids t j hj)) hr.1, fun id x hx j hj => ?_⟩
    cases ob with
    | none => exact hw.live id x hx j hj
    | some y =>
      by_cases e : id = idOf base o
      · subst e
        have : x = y := by simpa [Mem.put, upd] using hx.symm
        subst this
        exact hr.2 x rfl j hj
      · have : st.m id = some x := by simpa [Mem.put, upd, e] using hx
        exact put_live (id := idOf base o) (ob := some y) (hw.live id x this j hj)
  | @store ty j x v b b' h =>
    have hlv : ∀ i, (st.m i).isSome = true → (upd st.m j (some b') i).isSome = true := fun i hi => by
      unfold upd; split
      · rfl
      · exact hi
    refine ⟨fun t i hi => hlv i (hw.ids t i hi), fun id y hy i hi => hlv i ?_⟩
    by_cases e : id = j
    · subst e
      have : y = b' := by simpa [upd] using hy.symm
      subst this
      rcases stO_ids h.new i hi with hi | hi
      · exact hw.live _ _ h.box i hi
      · exact ev_ids hw.ids v i hi
    · exact hw.live id y (by simpa [upd, e] using hy) i hi
inductive Chain (P : Go.Program) (T : Tab) (kp : Nat → Prop) (base : Nat) (ops : Array Oper) : List Nat → St → St → Prop where
  | nil (st : St) : Chain P T kp base ops [] st st
  | cons {i : Nat} {o : Oper} {l : List Nat} {st st1 st2 : St} (hi : ops[i]? = some o) (h : HS P T kp base ops o st st1) (t : Chain P T kp base ops l st1 st2) : Chain P T kp base ops (i :: l) st st2
theorem Chain.front {kp : Nat → Prop} {i : Nat} {oi : Oper} (hi : ops[i]? = some oi) : ∀ {l1 l2 : List Nat} {st st' : St}, WF st → (∀ j ∈ l1, ∀ oj, ops[j]? = some oj → indep T ops oj oi = true) → Chain P T kp base ops (l1 ++ i :: l2) st st' →
    ∃ st1, HS P T kp base ops oi st st1 ∧ Chain P T kp base ops (l1 ++ l2) st1 st'
  | [], l2, st, st', _, _, h => by
    cases h with
    | cons h1 h2 h3 =>
      have : oi = _ := Option.some.inj (hi.symm.trans h1)
      subst this
      exact ⟨_, h2, h3⟩
  | j :: l1, l2, st, st', hw, hind, h => by
    cases h with
    | @cons _ oj _ _ st1 _ h1 h2 h3 =>
      obtain ⟨st2, h4, h5⟩ := Chain.front hi (h2.wf hw) (fun k hk ok hok => hind k (by simp [hk]) ok hok) h3
      obtain ⟨st3, h6, h7⟩ := HS.comm (hind j (by simp) oj h1) hw h2 h4
      exact ⟨st3, h6, .cons h1 h7 h5⟩
def ancB (ops : Array Oper) : Nat → Nat → Nat → Bool
  | 0, _, _ => false
  | f + 1, k, j => match ops[k]? with
    | some o => o.after.toList.any (fun e => Region.binds .any e && e.on == j) || o.after.toList.any (fun e => Region.binds .any e && ancB ops f e.on j)
    | none => false
def okOp (T : Tab) (ops : Array Oper) (k : Nat) : Bool :=
  match ops[k]? with
  | none => true
  | some ok => ok.after.toList.all (fun e => !Region.binds .any e || decide (e.on < k)) && (List.range k).all fun j => match ops[j]? with | none => true | some oj => indep T ops oj ok || ancB ops ops.size k j
def okRegion (T : Tab) (ops : Array Oper) : Bool := (List.range ops.size).all (okOp T ops)
def ClosedL (ops : Array Oper) (listed : Array Bool) : Prop := ∀ (k : Nat) o, ops[k]? = some o → listed.getD k true = true → ∀ e ∈ o.after, Region.binds .any e = true → listed.getD e.on false = true
theorem getD_tf {listed : Array Bool} {k : Nat} (h : listed.getD k false = true) : listed.getD k true = true := by
  rw [Array.getD_eq_getD_getElem?] at h ⊢
  cases hx : listed[k]? with
  | none => rfl
  | some b => rw [hx] at h; exact h
theorem anc_listed {listed : Array Bool} (hc : ClosedL ops listed) {j : Nat} : ∀ (f k : Nat) (o : Oper), ops[k]? = some o → (∀ e ∈ o.after, Region.binds .any e = true → listed.getD e.on false = true) → ancB ops f k j = true → listed.getD j false = true
  | 0, _, _, _, _, h => by cases h
  | f + 1, k, o, ho, hr, h => by
    simp only [ancB, ho, Bool.or_eq_true, List.any_eq_true, Bool.and_eq_true, beq_iff_eq] at h
    rcases h with ⟨e, he, hb, rfl⟩ | ⟨e, he, hb, ha⟩
    · exact hr e (by simpa using he) hb
    · have hle := hr e (by simpa using he) hb
      cases ho' : ops[e.on]? with
      | none =>
        cases f with
        | zero => cases ha
        | succ f => simp only [ancB, ho'] at ha; cases ha
      | some o' => exact anc_listed hc f e.on o' ho' (fun e' he' hb' => hc e.on o' ho' (getD_tf hle) e' he' hb') ha
end
theorem run_storeCells {P : Go.Program} {b : Nat} {ty : TypeId} : ∀ (vs : List Value) (off i : Nat) (us : List Value) (w : World), w.heap[b]? = some (.cells us.toArray ty) → (∀ v ∈ vs, v.oneCell' = true) → off + i + vs.length ≤ us.length →
    ∃ w', (storeCells ⟨b, off, none⟩ vs i).run P w = .ok () w' ∧ w'.heap[b]? = some (.cells (us.take (off + i) ++ (vs ++ us.drop (off + i + vs.length))).toArray ty) ∧ w'.os = w.os ∧ w'.tape = w.tape ∧ w'.output = w.output ∧ w'.heap.size = w.heap.size ∧ ∀ k, k ≠ b → w'.heap[k]? = w.heap[k]? := by
  intro vs
  induction vs with
  | nil => intro off i us w h _ _; exact ⟨w, by simp [storeCells], by simpa using h, rfl, rfl, rfl, rfl, fun _ _ => rfl⟩
  | cons v vs ih =>
    intro off i us w h h1 hl
    have hlt : off + i < us.length := by simp at hl; omega
    have hc : w.cell? ⟨b, off + i, none⟩ = some us[off + i] := by simp [World.cell?, h, hlt]
    have hfz : w.frozen? ⟨b, off + i, none⟩ = false := by simp [World.frozen?, h]
    have hset : (w.setCell ⟨b, off + i, none⟩ v).heap[b]? = some (.cells (us.set (off + i) v).toArray ty) := by
      show (w.heap.modify b _)[b]? = _
      rw [Array.getElem?_modify, if_pos rfl, h]
      simp
    obtain ⟨w', r1, r2, r3, r4, r5, r6, r7⟩ := ih off (i + 1) (us.set (off + i) v) _ hset (fun u hu => h1 u (by simp [hu])) (by simp at hl ⊢; omega)
    have h1v := h1 v (by simp)
    refine ⟨w', ?_, ?_, r3, r4, r5, r6.trans (by simp), fun k hk => (r7 k hk).trans (Below.heap_setCell w ⟨b, off + i, none⟩ v k hk)⟩
    · unfold storeCells
      rw [Sem.run_bind]
      have : (store ((⟨b, off, none⟩ : Addr).add i) v).run P w = .ok () (w.setCell ⟨b, off + i, none⟩ v) := by
        rw [add_addr]
        unfold store
        cases v <;> first | (simp [Value.oneCell'] at h1v; done) | simp [Sem.run, hc, hfz]
      rw [this]
      exact r1
    · rw [r2]
      congr 2
      rw [← Nat.add_assoc, List.take_set, List.length_cons]
      rw [List.drop_set]
      rw [if_pos (by omega)]
      rw [show off + i + 1 + vs.length = off + i + (vs.length + 1) by omega]
      rw [List.take_add_one, List.getElem?_eq_getElem hlt]
      rw [List.set_append]
      rw [if_neg (by simp; omega)]
      simp [List.length_take, Nat.min_eq_left (Nat.le_of_lt hlt)]
theorem RVs.append {B : Nat → Value} {w : World} {I : Nat → Nat → Prop} : ∀ {al bl : List A} {vs us : List Value}, RVs B w I al vs → RVs B w I bl us → RVs B w I (al ++ bl) (vs ++ us)
  | [], _, [], _, _, h => h
  | _ :: _, _, _ :: _, _, h, k => ⟨h.1, RVs.append h.2 k⟩
theorem RVs.oneCell {B : Nat → Value} {w : World} {I : Nat → Nat → Prop} : ∀ {al : List A} {vs : List Value}, RVs B w I al vs → ∀ v ∈ vs, v.oneCell' = true
  | [], [], _, v, h => by simp at h
  | _ :: _, u :: us, h, v, hv => by
    rcases List.mem_cons.1 hv with rfl | hv
    · exact h.1.2
    · exact RVs.oneCell h.2 v hv
theorem MR.store {w0 w w' : World} {I0 I : Nat → Nat → Prop} {B : Nat → Value} {m : Mem} (h : MR w0 I0 B I m w) {j b ty0 off : Nat} {cells l : List A} {us vs : List Value} (hj : m j = some (.box ty0 cells)) (hB : B j = .pointer (some ⟨b, 0, none⟩)) (hus : w.heap[b]? = some (.cells us.toArray ty0)) (hv : RVs B w I l vs)
    (hl : ∀ i ∈ l.flatMap A.ids, (m i).isSome = true) (hb : w'.heap[b]? = some (.cells (us.take off ++ (vs ++ us.drop (off + vs.length))).toArray ty0)) (h1 : w'.os = w.os) (h2 : w'.tape = w.tape) (h3 : w'.output = w.output) (h4 : w'.heap.size = w.heap.size) (h5 : ∀ k, k ≠ b → w'.heap[k]? = w.heap[k]?) :
    MR w0 I0 B I (upd m j (some (.box ty0 (repl cells off l)))) w' ∧ Ext w w' I I := by
  obtain ⟨b', us', e1, e2, e3, e4⟩ := h.objs j _ hj
  rw [hB] at e1
  cases e1
  rw [hus] at e2
  have e2' : us = us' := by
    have := Option.some.inj e2
    injection this with h1
    simpa using h1
  subst e2'
  have hbl := h.low j _ hj b ⟨0, hB⟩
  have hE : Ext w w' I I := ⟨fun _ _ k => k, fun b' o ho => World.cell?_of_block (w := w) (h5 b' (fun e => by subst e; exact e4 o ho))⟩
  have liv : ∀ i, (m i).isSome = true → (upd m j (some (O.box ty0 (repl cells off l))) i).isSome = true := fun i hi => by
    unfold upd; split
    · rfl
    · exact hi
  refine ⟨⟨h.below.trans ⟨h1, h2, h3, by omega, fun k hk => h5 k (by omega)⟩, h.glob, h.base, h.old, fun b' o ho => by rw [h4]; exact h.there b' o ho, fun id o ho => ?_, fun id o ho k hk => ?_, fun id o id' o' ho ho' hne k hk hk' => ?_, fun id o ho i hi => ?_⟩, hE⟩
  · by_cases e : id = j
    · subst e
      have : o = .box ty0 (repl cells off l) := by simpa [upd] using ho.symm
      subst this
      have hvl := hv.length
      have hcl := e3.length
      refine ⟨b, _, hB, hb, ?_, e4⟩
      unfold repl
      rw [← hvl]
      exact ((e3.take off).append (hv.append (e3.drop _))).mono hE (fun _ _ => rfl)
    · have ho : m id = some o := by simpa [upd, e] using ho
      exact RO.mono hE rfl (fun _ _ => rfl) (fun k hk => h5 k (fun e' => by subst e'; exact h.apart id o j _ ho hj e k hk ⟨0, hB⟩)) (fun _ _ _ hp => hp) (h.objs id o ho)
  · rw [h4]
    by_cases e : id = j
    · subst e
      have : o = .box ty0 (repl cells off l) := by simpa [upd] using ho.symm
      subst this
      exact h.low id _ hj k hk
    · exact h.low id o (by simpa [upd, e] using ho) k hk
  · have same : ∀ {i : Nat} {x : O} {q : Nat}, upd m j (some (O.box ty0 (repl cells off l))) i = some x → foot B i x q → ∃ y, m i = some y ∧ foot B i y q := fun {i x q} hx hq => by
      by_cases e : i = j
      · subst e
        have : x = .box ty0 (repl cells off l) := by simpa [upd] using hx.symm
        subst this
        exact ⟨_, hj, hq⟩
      · exact ⟨x, by simpa [upd, e] using hx, hq⟩
    obtain ⟨y, hy, hq⟩ := same ho hk
    obtain ⟨y', hy', hq'⟩ := same ho' hk'
    exact h.apart id y id' y' hy hy' hne k hq hq'
  · refine liv i ?_
    by_cases e : id = j
    · subst e
      have : o = .box ty0 (repl cells off l) := by simpa [upd] using ho.symm
      subst this
      simp only [O.ids, repl, List.flatMap_append, List.mem_append] at hi
      have old : ∀ z ∈ cells, ∀ q ∈ z.ids, (m q).isSome = true := fun z hz q hq => h.live _ _ hj q (List.mem_flatMap.2 ⟨z, hz, hq⟩)
      rcases hi with hi | hi | hi
      · obtain ⟨z, hz, hq⟩ := List.mem_flatMap.1 hi
        exact old z (List.mem_of_mem_take hz) i hq
      · exact hl i hi
      · obtain ⟨z, hz, hq⟩ := List.mem_flatMap.1 hi
        exact old z (List.mem_of_mem_drop hz) i hq
    · exact h.live id o (by simpa [upd, e] using ho) i hi
theorem MR.append {w0 w w' : World} {I0 I : Nat → Nat → Prop} {B : Nat → Value} {m : Mem} (h : MR w0 I0 B I m w) {id e n : Nat} {xs ys : List (List C)} {vs news : List Value} {v' : Value} (hid : m id = some (.arr e n xs)) (hv : w.ownsRow 0 e n (B id) xs.length vs) (hvs : RCs w I vs (flat xs)) (hlx : ∀ x ∈ xs, x.length = n)
    (hiff : ∀ b, (B id).ownBlock = some b → ∀ o, (I b o ↔ o < xs.length * n)) (hown : w'.ownsRow 0 e n v' (xs.length + ys.length) (vs ++ news)) (hnews : RCs w I news (flat ys)) (hly : ∀ y ∈ ys, y.length = n) (h1 : w'.os = w.os) (h2 : w'.tape = w.tape) (h3 : w'.output = w.output)
    (h4 : (∃ g, (B id).ownBlock = some g ∧ v'.ownBlock = some g ∧ w'.heap.size = w.heap.size ∧ ∀ k, k ≠ g → w'.heap[k]? = w.heap[k]?) ∨ (Below w.heap.size w w' ∧ ∀ k, v'.ownBlock = some k → w.heap.size ≤ k) ∨ (v' = B id ∧ w' = w)) :
    ∃ I', MR w0 I0 (upd B id v') I' (upd (killM id m) id (some (.arr e n (xs ++ ys)))) w' ∧ Ext w w' I I' := by
  have hlow := h.low id _ hid
  -- of which block v' is
  have hblk : ∀ b, v'.ownBlock = some b → b < w'.heap.size ∧ ((B id).ownBlock = some b ∨ w.heap.size ≤ b) := fun b hb => by
    refine ⟨(hown.lt b hb).2, ?_⟩
    rcases h4 with ⟨g, k1, k2, -⟩ | ⟨-, k⟩ | ⟨k, -⟩
    · rw [k2] at hb; rw [← hb]; exact .inl k1
    · exact .inr (k b hb)
    · rw [k] at hb; exact .inl hb
  have hsize : w.heap.size ≤ w'.heap.size := by
    rcases h4 with ⟨g, -, -, k, -⟩ | ⟨k, -⟩ | ⟨-, k⟩
    · omega
    · exact k.size
    · rw [k]; exact Nat.le_refl _
  have hkeep : ∀ b, b < w.heap.size → (B id).ownBlock ≠ some b → w'.heap[b]? = w.heap[b]? := fun b hb hne => by
    rcases h4 with ⟨g, k1, -, -, k⟩ | ⟨k, -⟩ | ⟨-, k⟩
    · exact k b (fun e => hne (by rw [k1, e]))
    · exact k.block b hb
    · rw [k]
  have hbel : Below w0.heap.size w0 w' := h.below.trans ⟨h1, h2, h3, hsize, fun b hb => hkeep b (Nat.lt_of_lt_of_le hb h.below.size) (fun e => by have := (hlow b e).1; omega)⟩
  let I' : Nat → Nat → Prop := fun b o => I b o ∨ (v'.ownBlock = some b ∧ o < (xs.length + ys.length) * n)
  have cellOf : ∀ {W : World} {v : Value} {k : Nat} {us : List Value} {b o : Nat}, W.ownsRow 0 e n v k us → v.ownBlock = some b → o < us.length → W.cell? ⟨b, o, none⟩ = us[o]? := fun {W v k us b o} hr hb ho => by
    have := hr.cells hb o _ (List.getElem?_eq_getElem ho)
    rw [add_addr, Nat.zero_add] at this
    rw [this, List.getElem?_eq_getElem ho]
  have hE : Ext w w' I I' := by
    refine ⟨fun _ _ k => .inl k, fun b o ho => ?_⟩
    by_cases e1 : (B id).ownBlock = some b
    · have hlt := (hiff b e1 o).1 ho
      have hlv : vs.length = xs.length * n := hv.1
      rcases h4 with ⟨g, k1, k2, -⟩ | ⟨k, -⟩ | ⟨-, k⟩
      · have : g = b := by rw [k1] at e1; exact Option.some.inj e1
        subst this
        rw [cellOf hown k2 (by rw [List.length_append]; omega), cellOf hv k1 (by omega), List.getElem?_append_left (by omega)]
      · exact k.cell (p := ⟨b, o, none⟩) (h.there b o ho)
      · rw [k]
    · exact World.cell?_of_block (w := w) (hkeep b (h.there b o ho) e1)
  refine ⟨I', h.reval hid h1 h2 h3 hsize (fun b hb hn => hkeep b hb (fun e => hn e)) (fun k hk => hblk k (by simpa [foot, upd_same] using hk)) hE (fun b p hp => hp.imp (fun z => z) fun q => by simpa [foot, upd_same] using q.1) ?_ (fun i hi => by simp [O.ids] at hi), hE⟩
  refine ⟨vs ++ news, ?_, ?_, fun x hx => ?_, fun b hb o => ?_⟩
  · rw [upd_same, List.length_append]; exact hown
  · rw [flat, List.flatten_append]
    exact (hvs.mono hE).append (hnews.mono hE)
  · rcases List.mem_append.1 hx with q | q
    · exact hlx x q
    · exact hly x q
  · rw [upd_same] at hb
    rw [List.length_append]
    refine ⟨fun ho => ?_, fun ho => .inr ⟨hb, ho⟩⟩
    rcases ho with ho | ⟨-, ho⟩
    · rcases (hblk b hb).2 with q | q
      · have := (hiff b q o).1 ho
        rw [Nat.add_mul]; omega
      · have := h.there b o ho; omega
    · exact ho
end V
end Go.Proofs.YtbmbmcdaabhgnaaDoor
end
section
namespace Go.Proofs.YtbmbmcdaabhgnaaDoor
namespace V
open Go.RowKit
theorem splice_get {α : Type} (l ins : List α) (k q : Nat) (h : k + ins.length ≤ l.length) : (l.take k ++ (ins ++ l.drop (k + ins.length)))[q]? = if k ≤ q ∧ q < k + ins.length then ins[q - k]? else l[q]? := by
  have hk : min k l.length = k := by omega
  by_cases h1 : q < k
  · rw [if_neg (by omega), List.getElem?_append_left (by rw [List.length_take]; omega), List.getElem?_take, if_pos h1]
  · rw [List.getElem?_append_right (by rw [List.length_take]; omega), List.length_take, hk]
    by_cases h2 : q < k + ins.length
    · rw [if_pos ⟨by omega, h2⟩, List.getElem?_append_left (by omega)]
    · rw [if_neg (by omega), List.getElem?_append_right (by omega), List.getElem?_drop]
      congr 1; omega
theorem splice_len {α : Type} (l ins : List α) (k : Nat) (h : k + ins.length ≤ l.length) : (l.take k ++ (ins ++ l.drop (k + ins.length))).length = l.length := by
  simp only [List.length_append, List.length_take, List.length_drop]; omega
theorem splice_win {α : Type} (cur ins vs : List α) (off k N : Nat) (hv : (cur.drop off).take N = vs) (hN : off + N ≤ cur.length) (hk : k + ins.length ≤ N) :
    ((cur.take (off + k) ++ (ins ++ cur.drop (off + k + ins.length))).drop off).take N = vs.take k ++ (ins ++ vs.drop (k + ins.length)) := by
  have hvl : vs.length = N := by rw [← hv]; simp only [List.length_take, List.length_drop]; omega
  refine List.ext_getElem? fun q => ?_
  rw [splice_get vs ins k q (by omega), List.getElem?_take]
  by_cases hq : q < N
  · rw [if_pos hq, List.getElem?_drop, splice_get cur ins (off + k) (off + q) (by omega)]
    have hvq : vs[q]? = cur[off + q]? := by rw [← hv, List.getElem?_take, if_pos hq, List.getElem?_drop]
    by_cases h1 : k ≤ q ∧ q < k + ins.length
    · rw [if_pos (by omega), if_pos h1]; congr 1; omega
    · rw [if_neg (by omega), if_neg h1, hvq]
  · rw [if_neg hq, if_neg (by omega), List.getElem?_eq_none (by omega)]
theorem flat_splice {xs : List (List C)} {e i f : Nat} {cs l : List C} (hlx : ∀ x ∈ xs, x.length = e) (hcs : xs[i]? = some cs) (hfl : f + l.length ≤ e) :
    flat (xs.set i (replC cs f l)) = (flat xs).take (i * e + f) ++ (l ++ (flat xs).drop (i * e + f + l.length)) := by
  have hlt := (List.getElem?_eq_some_iff.1 hcs).1
  have hcl := hlx cs (List.mem_of_getElem? hcs)
  have hrl : (replC cs f l).length = e := by rw [replC, splice_len _ _ _ (by omega), hcl]
  have hlx' : ∀ x ∈ xs.set i (replC cs f l), x.length = e := fun x hx => by
    rcases List.mem_or_eq_of_mem_set hx with hx | rfl
    · exact hlx x hx
    · exact hrl
  have hF := flat_len hlx
  have hF' := flat_len hlx'
  rw [List.length_set] at hF'
  have hbnd : i * e + e ≤ xs.length * e := by
    have := Nat.mul_le_mul_right e (show i + 1 ≤ xs.length from hlt)
    rw [Nat.add_mul] at this; omega
  by_cases he : e = 0
  · subst he
    have h1 : flat (xs.set i (replC cs f l)) = [] := List.eq_nil_of_length_eq_zero (by omega)
    have h2 : flat xs = [] := List.eq_nil_of_length_eq_zero (by omega)
    have h3 : l = [] := List.eq_nil_of_length_eq_zero (by omega)
    rw [h1, h2, h3]; simp
  · refine List.ext_getElem? fun q => ?_
    rw [splice_get _ _ _ _ (by omega)]
    by_cases hq : q < xs.length * e
    · have hml := Nat.mod_lt q (Nat.pos_of_ne_zero he)
      have hqd : q / e < xs.length := (Nat.div_lt_iff_lt_mul (Nat.pos_of_ne_zero he)).2 hq
      have eq : q / e * e + q % e = q := by rw [Nat.mul_comm]; exact Nat.div_add_mod q e
      have old := flat_at hlx (q / e) (q % e) _ (List.getElem?_eq_getElem hqd) hml
      rw [eq] at old
      by_cases h6 : i = q / e
      · have nw := flat_at hlx' (q / e) (q % e) (replC cs f l) (by rw [List.getElem?_set, if_pos h6, if_pos hlt]) hml
        rw [eq] at nw
        have hcs' : xs[q / e] = cs := by
          have := List.getElem?_eq_getElem hqd
          have h7 : xs[q / e]? = some cs := by rw [← h6]; exact hcs
          exact Option.some.inj (this.symm.trans h7)
        rw [hcs'] at old
        have eq2 : i * e + q % e = q := by rw [h6]; exact eq
        rw [nw, replC, splice_get cs l f (q % e) (by omega)]
        by_cases h1 : f ≤ q % e ∧ q % e < f + l.length
        · rw [if_pos h1, if_pos (by omega)]; congr 1; omega
        · rw [if_neg h1, if_neg (by omega), old]
      · have nw := flat_at hlx' (q / e) (q % e) xs[q / e] (by rw [List.getElem?_set, if_neg h6]; exact List.getElem?_eq_getElem hqd) hml
        rw [eq] at nw
        have hout : q < i * e ∨ i * e + e ≤ q := by
          rcases Nat.lt_or_gt_of_ne h6 with h7 | h7
          · right
            have := Nat.mul_le_mul_right e (show i + 1 ≤ q / e from h7)
            rw [Nat.add_mul] at this; omega
          · left
            have := Nat.mul_le_mul_right e (show q / e + 1 ≤ i from h7)
            rw [Nat.add_mul] at this; omega
        rw [nw, if_neg (by omega), old]
    · rw [if_neg (by omega), List.getElem?_eq_none (by omega), List.getElem?_eq_none (by omega)]
section
variable {P : Go.Program} {T : Tab} {w0 w : World} {I0 I : Nat → Nat → Prop} {B : Nat → Value} {m : Mem}
theorem store_snd (hT : T.Ok P) (hm : MR w0 I0 B I m w) {ty j : Nat} {a v : A} {b b' : O} {u y : Value} (ha : adrId a = some j) (hj : m j = some b) (hn : stO T ty a v b = some b') (hu : RV B w I a u) (hy : RV B w I v y) (hl : ∀ i ∈ v.ids, (m i).isSome = true) :
    ∃ w', (Instr.storeAt ty u y).run P w = .ok () w' ∧ MR w0 I0 B I (upd m j (some b')) w' ∧ Ext w w' I I := by
  have hids : ∀ i ∈ b'.ids, (m i).isSome = true := fun i hi => (stO_ids hn i hi).elim (hm.live j b hj i) (hl i)
  cases b with
  | box ty0 cells =>
    simp only [stO] at hn
    split at hn
    · rename_i id off n g l hty hc
      simp [adrId] at ha; subst ha
      split at hn
      · rename_i hh
        cases hn
        obtain ⟨b, us, hB, hus, hcs, hI⟩ := hm.objs _ _ hj
        obtain ⟨b', hB', e2⟩ := hu
        rw [hB] at hB'
        cases hB'
        have hvs := cellsA_rvs hc hy
        have hlen := hvs.length
        have hcl := hcs.length
        obtain ⟨w', r1, r2, r3, r4, r5, r6, r7⟩ := run_storeCells (P := P) y.cells.toList off 0 us w hus hvs.oneCell (by omega)
        refine ⟨w', ?_, ?_⟩
        · simp only [e2, Instr.storeAt, Instr.sureAddr, Sem.run_bind, Sem.run_pure, Result.andThen_ok, storeVar, run_sizeOf hT hty]
          rw [if_neg (by rw [← hh.1, hlen]; simp), r1]
        · refine hm.turn hj ⟨0, hB⟩ (fun k hk => ?_) hI r3 r4 r5 r6 r7 hids (fun hE => ⟨b, _, hB, r2, ?_, hI⟩)
          · obtain ⟨o', hk⟩ := hk
            rw [hB] at hk; cases hk; rfl
          · unfold repl
            rw [hlen]
            exact ((hcs.take off).append (hvs.append (hcs.drop _))).mono hE (fun _ _ => rfl)
      · cases hn
    · cases hn
  | mrow ty0 e xs =>
    simp only [stO] at hn
    split at hn
    · rename_i id e' i f n g l hty hc
      simp [adrId] at ha; subst ha
      split at hn
      · rename_i hh
        obtain ⟨rfl, hln, hfl⟩ := hh
        split at hn
        · rename_i cs hcs
          cases hn
          obtain ⟨vs, hrow, hvs, hlx, hI⟩ := hm.objs _ _ hj
          obtain ⟨bl, off, nn, cap, hB, e2⟩ := hu
          have hcl := hlx cs (List.mem_of_getElem? hcs)
          have hlt := (List.getElem?_eq_some_iff.1 hcs).1
          have hdat : RCs w I y.cells.toList l := by
            cases v <;> simp [dataC] at hc <;> subst hc
            · rw [(RC.one hy).2]; exact ⟨hy, trivial⟩
            · obtain ⟨us, rfl, h⟩ := hy; exact h
            · have hy' : y = _ := hy
              rw [hy']
              exact ⟨.sl (e := 0) (fun _ _ => undef) rfl (Nat.le_refl _) (Nat.zero_le _) (fun _ h => by simp at h) (fun i x hx => by simp at hx) (fun i j x c hx => by simp at hx), trivial⟩
            · rw [(RC.one hy.1).2]; exact ⟨hy.1, trivial⟩
          have hlen := hdat.length
          have hlen2 : y.cells.size = l.length := by rw [← Array.length_toList]; exact hlen
          rcases hrow.2 with ⟨e3, -⟩ | ⟨gb, o3, c3, cur, e3, hg, hnc, hcm, hsz, htk⟩
          · rw [hB] at e3; cases e3
          · rw [hB] at e3; cases e3
            have hbnd : i * e' + e' ≤ xs.length * e' := by
              have := Nat.mul_le_mul_right e' (show i + 1 ≤ xs.length from hlt)
              rw [Nat.add_mul] at this; omega
            have hcap : xs.length * e' ≤ cap * e' := Nat.mul_le_mul_right _ hnc
            have one : ∀ u ∈ y.cells.toList, u.oneCell' = true := fun u hu => by
              obtain ⟨q, hq⟩ := List.getElem?_of_mem hu
              obtain ⟨x, hx⟩ : ∃ x, l[q]? = some x := ⟨_, List.getElem?_eq_getElem (by rw [← hlen]; exact (List.getElem?_eq_some_iff.1 hq).1)⟩
              obtain ⟨u', h5, h6⟩ := hdat.at q x hx
              rw [hq] at h5; cases h5; exact h6.one.1
            obtain ⟨w', r1, r2, r3, r4, r5, r6, r7⟩ := run_storeCells (P := P) y.cells.toList (off + i * e' + f) 0 cur.toList w hg one (by rw [show cur.toList.length = cur.size from Array.length_toList]; omega)
            refine ⟨w', ?_, ?_⟩
            · simp only [e2, Instr.storeAt, Instr.sureAddr, Sem.run_bind, Sem.run_pure, Result.andThen_ok, storeVar, run_sizeOf hT hty]
              rw [if_neg (by rw [← hln, ← hlen]; simp), r1]
            · have hf : foot B id (.mrow ty0 e' xs) bl := by show Value.ownBlock _ = _; rw [hB]; rfl
              refine hm.turn hj hf (fun k hk => ?_) (hI bl hf) r3 r4 r5 r6 r7 hids (fun hE => ⟨vs.take (i * e' + f) ++ (y.cells.toList ++ vs.drop (i * e' + f + y.cells.toList.length)), ?_, ?_, fun x hx => ?_, fun b hb => hI b hb⟩)
              · have hk : (B id).ownBlock = some k := hk
                rw [hB] at hk; simp [Value.ownBlock] at hk; exact hk.symm
              · have hvl : vs.length = xs.length * e' := hrow.1
                refine ⟨by rw [splice_len _ _ _ (by omega), List.length_set]; exact hvl, .inr ⟨bl, off, cap, _, by rw [List.length_set]; exact hB, r2, by rw [List.length_set]; exact hnc, hcm, ?_, ?_⟩⟩
                · rw [List.size_toArray, splice_len _ _ _ (by simp only [Array.length_toList]; omega), Array.length_toList]
                  exact hsz
                · rw [List.length_set]
                  have := splice_win cur.toList y.cells.toList vs off (i * e' + f) (xs.length * e') htk (by simp only [Array.length_toList]; omega) (by omega)
                  simp only [Nat.add_zero, ← Nat.add_assoc] at this ⊢
                  exact this
              · refine RCs.mono hE ?_
                rw [flat_splice hlx hcs hfl]
                rw [show i * e' + f + y.cells.toList.length = i * e' + f + l.length by omega]
                exact (hvs.take _).append (hdat.append (hvs.drop _))
              · rcases List.mem_or_eq_of_mem_set hx with hx | rfl
                · exact hlx x hx
                · rw [replC, splice_len _ _ _ (by omega), hcl]
        · cases hn
      · cases hn
    · cases hn
  | rows ty0 xs =>
    simp only [stO] at hn
    split at hn
    · rename_i id e i f n g b1 hty hc
      simp [adrId] at ha; subst ha
      split at hn
      · rename_i hh
        obtain ⟨rfl, rfl, rfl, hlt⟩ := hh
        split at hn
        · rename_i q hq
          cases hn
          obtain ⟨vs, hrow, hvs, h1, hI⟩ := hm.objs _ _ hj
          obtain ⟨bl, off, nn, cap, hB, e2⟩ := hu
          have hvc := cellsA_rvs hc hy
          have hyc : ∃ u, y.cells.toList = [u] := by
            have := hvc.length
            cases hyl : y.cells.toList with
            | nil => rw [hyl] at this; cases this
            | cons u us => cases us with | nil => exact ⟨u, rfl⟩ | cons _ _ => rw [hyl] at this; simp at this
          obtain ⟨u, hyu⟩ := hyc
          rw [hyu] at hvc
          have hru := down_rv hq hvc.1.1
          rcases hrow.2 with ⟨e3, -⟩ | ⟨gb, o3, c3, cur, e3, hg, hnc, hcm, hsz, htk⟩
          · rw [hB] at e3; cases e3
          · rw [hB] at e3; cases e3
            have hvl : vs.length = xs.length * 1 := hrow.1
            obtain ⟨w', r1, r2, r3, r4, r5, r6, r7⟩ := run_storeCells (P := P) [u] (off + i * 1 + 0) 0 cur.toList w hg (fun z hz => by simp at hz; subst hz; exact hvc.1.2) (by simp only [Array.length_toList, List.length_cons, List.length_nil]; omega)
            refine ⟨w', ?_, ?_⟩
            · simp only [e2, Instr.storeAt, Instr.sureAddr, Sem.run_bind, Sem.run_pure, Result.andThen_ok, storeVar, run_sizeOf hT hty]
              rw [if_neg (by rw [← Array.length_toList, hyu]; simp), hyu, r1]
            · have hf : foot B id (.rows ty0 xs) bl := by show Value.ownBlock _ = _; rw [hB]; rfl
              refine hm.turn hj hf (fun k hk => ?_) (hI bl hf) r3 r4 r5 r6 r7 hids (fun hE => ⟨vs.set i u, ?_, ?_, fun x hx => ?_, fun b hb => hI b hb⟩)
              · have hk : (B id).ownBlock = some k := hk
                rw [hB] at hk; simp [Value.ownBlock] at hk; exact hk.symm
              · refine ⟨by rw [List.length_set, List.length_set]; exact hvl, .inr ⟨bl, off, cap, _, by rw [List.length_set]; exact hB, r2, by rw [List.length_set]; exact hnc, hcm, ?_, ?_⟩⟩
                · rw [List.size_toArray, splice_len _ _ _ (by simp only [Array.length_toList, List.length_cons, List.length_nil]; omega), Array.length_toList]
                  exact hsz
                · rw [List.length_set]
                  have := splice_win cur.toList [u] vs off i (xs.length * 1) htk (by simp only [Array.length_toList]; omega) (by simp only [List.length_cons, List.length_nil]; omega)
                  simp only [Nat.add_zero, Nat.mul_one] at this ⊢
                  rw [this]
                  refine List.ext_getElem? fun q => ?_
                  rw [splice_get _ _ _ _ (by rw [List.length_cons, List.length_nil]; omega), List.getElem?_set]
                  by_cases h1 : i = q
                  · subst h1
                    rw [if_pos (by simp), if_pos rfl, if_pos (by omega)]; simp
                  · rw [if_neg (by simp; omega), if_neg h1]
              · refine R1s.of (by rw [List.length_set, List.length_set]; exact hvs.length) fun q a' v' ha' hv' => ?_
                rw [List.getElem?_set] at ha' hv'
                by_cases h1 : i = q
                · subst h1
                  rw [if_pos rfl, if_pos (by omega)] at ha' hv'
                  cases ha'; cases hv'
                  exact hru.mono hE fun _ _ => rfl
                · rw [if_neg h1] at ha' hv'
                  obtain ⟨v2, h2, h3⟩ := hvs.at q a' ha'
                  rw [hv'] at h2; cases h2
                  exact h3.mono hE fun _ _ => rfl
              · rcases List.mem_or_eq_of_mem_set hx with hx | rfl
                · exact h1 x hx
                · exact hvc.1.2
        · cases hn
      · cases hn
    · cases hn
  | _ => simp [stO] at hn
end
section
variable {P : Go.Program} {T : Tab} (hT : T.Ok P) {R : Ref} {w : World} {n base : Nat} {ds : List Deferred} {ops : Array Oper}
include hT
theorem HS.snd {o : Oper} {st st' : St} {a : Act} (h : HS P T R.keep base ops o st st') (hr : SR R n ds st a w) (hd : ∀ d, o.dst = some d → d < n) {K : Act → World → Prop} {Q : Exit → Act → World → Prop} (hK : ∀ a' w', SR R n ds st' a' w' → K a' w') :
    if Region.wanted o (yielded ops a.tmps) = true then o.wp P a w K Q else K (a.put o.dst undef) w := by
  cases h with
  | eff h => exact h.run R n ds a w K Q rfl hr hd hK
  | val h => exact h.snd hT hr hd hK
  | @store ty j x v b b' h =>
    obtain ⟨B, I, hm, hx0, hkp, hs⟩ := hr.ex
    rw [want_snd hs h.want, if_pos rfl]
    obtain ⟨w', r1, r2, r3⟩ := store_snd hT hm h.at_ h.box h.new (ev_rv hs x) (ev_rv hs v) (ev_ids hr.ids v)
    have hrun : (execOp a.eval o).run P w = .ok .skip w' := by
      simp only [execOp, h.op, Sem.run_bind, r1, Result.andThen_ok]
      rfl
    unfold Oper.wp Oper.upon
    rw [hrun, h.dst]
    have liv : ∀ i, (st.m i).isSome = true → (upd st.m j (some b') i).isSome = true := fun i hi => by
      unfold upd; split
      · rfl
      · exact hi
    exact hK _ _ ⟨⟨B, I, r2, hx0.trans r3, hkp, fun t => (hs t).mono r3 fun _ _ => rfl⟩, fun t i hi => liv i (hr.ids t i hi), hr.size, hr.nn, hr.defs, fun i hi => liv i (hr.kept i hi)⟩
theorem any_snd (hok : okRegion T ops = true) (hd : ∀ o ∈ ops, ∀ d, o.dst = some d → d < n) {Q : Exit → Act → World → Prop} {st' : St} (hQ : ∀ a w, SR R n ds st' a w → Q .normal a w) :
    ∀ (fuel : Nat) (listed : Array Bool) (l : List Nat) (st : St) (a : Act) (w : World), l.length ≤ fuel → listed.size = ops.size → l.Pairwise (· < ·) → (∀ i, i ∈ l ↔ i < ops.size ∧ listed.getD i true = false) → ClosedL ops listed → SR R n ds st a w → Chain P T R.keep base ops l st st' →
      wpAny P .any ops Q fuel listed a w := by
  have hokAt : ∀ k, k < ops.size → okOp T ops k = true := fun k hk => List.all_eq_true.1 hok k (List.mem_range.2 hk)
  -- the least that has not come up may come up
  have least : ∀ {listed : Array Bool} {i : Nat} {l : List Nat}, listed.size = ops.size → (i :: l).Pairwise (· < ·) → (∀ j, j ∈ i :: l ↔ j < ops.size ∧ listed.getD j true = false) → i ∈ Region.ready .any ops listed := by
    intro listed i l hsz hp hmem
    have hi := (hmem i).1 (by simp)
    rw [mem_ready]
    refine ⟨hi.2, ops[i], by simp [hi.1], fun e he hb => ?_⟩
    have hk := hokAt i hi.1
    simp only [okOp, Array.getElem?_eq_getElem hi.1, Bool.and_eq_true, List.all_eq_true] at hk
    have hlt := hk.1 e (by simpa using he)
    rw [hb] at hlt
    simp at hlt
    have : ¬ (e.on ∈ i :: l) := fun hmm => by
      rcases List.mem_cons.1 hmm with rfl | hmm
      · omega
      · have := (List.pairwise_cons.1 hp).1 e.on hmm; omega
    have hnot := mt (hmem e.on).2 this
    have hlt2 : e.on < ops.size := by omega
    rw [Array.getD_eq_getD_getElem?] at hnot ⊢
    cases hx : listed[e.on]? with
    | none => have := (Array.getElem?_eq_none_iff.1 hx); omega
    | some c => cases c with
      | true => rfl
      | false => rw [hx] at hnot; exact absurd ⟨hlt2, rfl⟩ hnot
  intro fuel
  induction fuel with
  | zero =>
    intro listed l st a w hl hsz hp hmem hc hr hch
    have : l = [] := List.length_eq_zero_iff.1 (by omega)
    subst this
    cases hch
    refine ⟨?_, hQ a w hr⟩
    refine List.eq_nil_iff_forall_not_mem.2 fun i hi => ?_
    obtain ⟨h1, o, h2, -⟩ := mem_ready.1 hi
    have := (hmem i).2 ⟨(Array.getElem?_eq_some_iff.1 h2).1, h1⟩
    simp at this
  | succ fuel ih =>
    intro listed l st a w hl hsz hp hmem hc hr hch
    constructor
    · intro hnil
      cases l with
      | nil => cases hch; exact hQ a w hr
      | cons i l => have := least hsz hp hmem; rw [hnil] at this; cases this
    · intro i hi
      obtain ⟨h1, oi, h2, h3⟩ := mem_ready.1 hi
      have hil := (hmem i).2 ⟨(Array.getElem?_eq_some_iff.1 h2).1, h1⟩
      obtain ⟨l1, l2, rfl⟩ := List.append_of_mem hil
      have hpp := List.pairwise_append.1 hp
      have hind : ∀ j ∈ l1, ∀ oj, ops[j]? = some oj → indep T ops oj oi = true := fun j hj oj hoj => by
        have hji : j < i := hpp.2.2 j hj i (by simp)
        have hk := hokAt i (Array.getElem?_eq_some_iff.1 h2).1
        simp only [okOp, h2, Bool.and_eq_true, List.all_eq_true] at hk
        have := hk.2 j (List.mem_range.2 hji)
        rw [hoj] at this
        simp only [Bool.or_eq_true] at this
        refine this.resolve_right fun ha => ?_
        have hjl := anc_listed hc _ i oi h2 h3 ha
        have := ((hmem j).1 (by simp [hj])).2
        rw [getD_tf hjl] at this
        cases this
      obtain ⟨st1, h4, h5⟩ := Chain.front h2 hr.wf hind hch
      have hoi : oi ∈ ops := Array.mem_of_getElem? h2
      have hlt := (Array.getElem?_eq_some_iff.1 h2).1
      have hset : ∀ k, (listed.setIfInBounds i true).getD k true = if k = i then true else listed.getD k true := fun k => by
        rw [Array.getD_eq_getD_getElem?, Array.getD_eq_getD_getElem?, Array.getElem?_setIfInBounds]
        by_cases e : i = k
        · subst e; simp; split <;> rfl
        · rw [if_neg e, if_neg (Ne.symm e)]
      have hsetf : ∀ k, listed.getD k false = true → (listed.setIfInBounds i true).getD k false = true := fun k hk => by
        rw [Array.getD_eq_getD_getElem?] at hk ⊢
        rw [Array.getElem?_setIfInBounds]
        by_cases e : i = k
        · subst e; simp [hsz, hlt]
        · rw [if_neg e]; exact hk
      unfold wpOp
      rw [h2]
      have hgo := h4.snd hT hr (hd oi hoi) (K := wpAny P .any ops Q fuel (listed.setIfInBounds i true)) (Q := Q) (fun a' w' hr' => by
        refine ih _ (l1 ++ l2) st1 a' w' ?_ (by simpa using hsz) (hp.sublist (by simp)) (fun k => ?_) (fun k o ho hkl e he hb => ?_) hr' h5
        · simp at hl ⊢; omega
        · rw [hset]
          by_cases e : k = i
          · subst e
            rw [if_pos rfl]
            refine ⟨fun hk => ?_, fun hk => by cases hk.2⟩
            exfalso
            rcases List.mem_append.1 hk with hk | hk
            · have := hpp.2.2 k hk k (by simp); omega
            · have := (List.pairwise_cons.1 hpp.2.1).1 k hk; omega
          · rw [if_neg e, ← hmem k]
            simp [e]
        · rw [hset] at hkl
          split at hkl
          · rename_i e'; subst e'
            have : o = oi := Option.some.inj (ho.symm.trans h2)
            subst this
            exact hsetf _ (h3 e he hb)
          · exact hsetf _ (hc k o ho hkl e he hb))
      dsimp only
      split
      · rename_i hw; rw [if_pos hw] at hgo; exact .inl hgo
      · rename_i hw; rw [if_neg hw] at hgo; exact hgo
end
end V
end Go.Proofs.YtbmbmcdaabhgnaaDoor
end
section
namespace Go.Proofs.YtbmbmcdaabhgnaaDoor
namespace V
open Go.RowKit
section
variable {P : Go.Program} {T : Tab} {w0 w : World} {I0 I : Nat → Nat → Prop} {B : Nat → Value} {m : Mem}
end
def rowO (fz : Bool) (e n : Nat) (xs : List (List C)) : O := if fz = true then .arr e n xs else .mrow e n xs
structure HAppend (T : Tab) (ops : Array Oper) (o : Oper) (st : St) (c : Call) (x y : Operand) (t d id e n b : Nat) (fz : Bool) (zs : List Value) (xs ys : List (List C)) : Prop where
  want : wantA ops o st.s = some true
  op : o.op = .call c
  callee : c.callee = .builtin .append
  args : c.args = #[x, y]
  tys : c.argTypes = #[t, t]
  dst : o.dst = some d
  at_ : ev st.s x = .own id
  arr : st.m id = some (rowO fz e n xs)
  val : asC st.m (ev st.s y) = some (.sl ys)
  elem : T.elem t = some (e, n)
  bytes : T.bytes e = some b
  zero : T.zero e = some zs
  zlen : zs.length = n
  lens : ∀ z ∈ ys, z.length = n
  bound : (xs.length + ys.length) * b ≤ 140737488355328
  small : xs.length + ys.length ≤ maxLen
section
variable {P : Go.Program} {T : Tab} (hT : T.Ok P) {kp : Nat → Prop} {ops : Array Oper}
theorem killW {st : St} {id : Nat} {o0 o' : O} (hw : WF st) (_hid : st.m id = some o0) (hl : ∀ i ∈ o'.ids, (st.m i).isSome = true) (d : Nat) (r : A) (hr : ∀ i ∈ r.ids, (st.m i).isSome = true) : WF ⟨upd (killS id st.s) d r, upd (killM id st.m) id (some o')⟩ := by
  have hlv : ∀ i, (st.m i).isSome = true → (upd (killM id st.m) id (some o') i).isSome = true := fun i hi => by
    unfold upd; split
    · rfl
    · simpa [killM_app] using hi
  refine ⟨fun t i hi => hlv i ?_, fun k z hz i hi => hlv i ?_⟩
  · dsimp only at hi
    unfold upd at hi
    split at hi
    · exact hr i hi
    · exact hw.ids t i ((A.kill_ids.1 i hi).1)
  · dsimp only at hz
    unfold upd at hz
    split at hz
    · cases hz; exact hl i hi
    · have hz : (st.m k).map (O.kill id) = some z := hz
      cases hk : st.m k with
      | none => rw [hk] at hz; cases hz
      | some o => rw [hk] at hz; cases hz; exact hw.live k _ hk i (O.kill_ids i hi)
include hT
omit hT
def WFm (m : Mem) : Prop := ∀ id o, m id = some o → ∀ j ∈ o.ids, (m j).isSome = true
def CallE (P : Go.Program) (f : FuncId) (args : List A) (M : Mem) (D : List Nat) (r : A) (M' : Mem) : Prop :=
  (∀ args w, (callFunc f args).run P w = .ok (.enter f args) w) ∧ (∀ j ∈ r.ids, (M' j).isSome = true) ∧ (∀ j, (M j).isSome = true → (M' j).isSome = true) ∧ (WFm M → WFm M') ∧
  ∀ (w0 : World) (I0 : Nat → Nat → Prop) (B : Nat → Value) (I : Nat → Nat → Prop) (w : World) (vals : List Value), MR w0 I0 B I M w → RVl B w I args vals →
    Calls P f vals.toArray w fun e w' => ∃ v B' I', e = .returned v ∧ MR w0 I0 B' I' M' w' ∧ Ext w w' I I' ∧ (∀ j, (M j).isSome = true → j ∉ D → B' j = B j) ∧ RV B' w' I' r v
def killL : List Nat → (Nat → A) → Nat → A
  | [], s => s
  | d :: D, s => killL D (killS d s)
theorem killL_spec : ∀ (D : List Nat) (s : Nat → A) (t : Nat), (∀ j ∈ (killL D s t).ids, j ∈ (s t).ids ∧ j ∉ D) ∧ (killL D s t = .top ∨ (killL D s t = s t ∧ ∀ j ∈ D, j ∉ (s t).ids))
  | [], s, t => ⟨fun j hj => ⟨hj, by simp⟩, .inr ⟨rfl, fun j hj => by simp at hj⟩⟩
  | d :: D, s, t => by
    obtain ⟨h1, h2⟩ := killL_spec D (killS d s) t
    have h3 := A.kill_ids (id := d) (a := s t)
    refine ⟨fun j hj => ?_, ?_⟩
    · obtain ⟨k1, k2⟩ := h1 j hj
      obtain ⟨k3, k4⟩ := h3.1 j k1
      exact ⟨k3, by simp [k4, k2]⟩
    · rcases h2 with h2 | ⟨h2, h4⟩
      · exact .inl h2
      · rcases h3.2 with h5 | ⟨h5, h6⟩
        · exact .inl (h2.trans h5)
        · refine .inr ⟨h2.trans h5, fun j hj => ?_⟩
          rcases List.mem_cons.1 hj with rfl | hj
          · exact h6
          · have := h4 j hj
            rw [killS_app, h5] at this
            exact this
theorem killL_dfs : ∀ (D : List Nat) (s : Nat → A), dfs (killL D s DID) = dfs (s DID)
  | [], _ => rfl
  | d :: D, s => (killL_dfs D (killS d s)).trans (dfs_kill d (s DID))
theorem eff_call {o : Oper} {st : St} {c : Call} {x : Operand} {f : FuncId} {ids : List Nat} {args : List A} {D : List Nat} {r : A} {M' : Mem} (hkp : ∀ j ∈ D, ¬ kp j) (hbar : kind T o.op = .barrier) (h : wantA ops o st.s = some true) (hop : o.op = .call c) (hc : c.callee = .value x) (hx : ev st.s x = .fn f ids) (hb : ∀ j ∈ ids, ∃ ty cells, st.m j = some (.box ty cells))
    (ha : Cvs st.m (c.args.toList.map (ev st.s) ++ ids.map (A.ptr · 0)) args) (hk : CallE P f args st.m D r M') : Eff P T kp ops o st ⟨putS (killL D st.s) o.dst r, M'⟩ := by
  obtain ⟨k1, k2, k3, k4, k5⟩ := hk
  refine ⟨hbar, fun hw => ⟨putS_ids (fun t j hj => k3 j (hw.ids t j ((killL_spec D st.s t).1 j hj).1)) k2, k4 hw.live⟩, fun R n0 ds a w K Q hR hr hd hK => ?_⟩
  obtain ⟨B, I, hm, hx0, hkp0, hs⟩ := hr.ex
  rw [want_snd hs h, if_pos rfl]
  have hev := ev_rv hs
  have hfv : a.eval x = .func (.func f) #[] (ids.map B).toArray := by have := hev x; rw [hx] at this; exact this
  have hrv := cvs_rvl hm ha ((rvl_map hev c.args.toList).append (rvl_ptrs hm hb))
  have hcl := k5 R.w0 R.I0 B I w _ hm hrv
  unfold Oper.wp Oper.upon
  have hrun : (execOp a.eval o).run P w = .ok (.enter f (c.args.toList.map a.eval ++ ids.map B).toArray) w := by
    simp only [execOp, hop, resolve, hc, hfv, Deferred.ofValue, Sem.run_bind, Sem.run_pure, Result.andThen_ok, invoke]
    rw [show (#[] ++ Array.map a.eval c.args ++ (List.map B ids).toArray) = (List.map a.eval c.args.toList ++ List.map B ids).toArray by rw [← List.map_toArray]; simp]
    exact k1 _ _
  rw [hrun]
  refine hcl.mono ?_
  rintro e w' ⟨v, B', I', rfl, h1, h2, h3, h4⟩
  have hd' : ∀ d, o.dst = some d → d < a.tmps.size := fun d e => by rw [hr.size]; exact hd d e
  have hs' : ∀ t, RV B' w' I' (killL D st.s t) (a.tmps.getD t undef) := fun t => by
    rcases (killL_spec D st.s t).2 with q | ⟨q, q2⟩
    · rw [q]; trivial
    · rw [q]
      exact (hs t).mono h2 fun j hj => h3 j (hr.ids t j hj) (fun hd => q2 j hd hj)
  exact hK _ _ ⟨⟨B', I', h1, hx0.trans h2, fun j hj => (h3 j (hr.kept j hj) (fun hd => by rw [hR] at hj; exact hkp j hd hj)).trans (hkp0 j hj), putS_rv hs' h4 hd'⟩,
    putS_ids (fun t j hj => k3 j (hr.ids t j ((killL_spec D st.s t).1 j hj).1)) k2, by rw [(put_dst_size _ _ _).1]; exact hr.size, hr.nn, by rw [(put_dst_size _ _ _).2]; show a.defers = dfs (putS (killL D st.s) o.dst r DID) ++ ds; rw [putS_did hr.nn hd, killL_dfs]; exact hr.defs, fun j hj => k3 j (hr.kept j hj)⟩
end
end V
end Go.Proofs.YtbmbmcdaabhgnaaDoor
end
section
namespace Go.Proofs.YtbmbmcdaabhgnaaDoor
namespace V
open Go.RowKit
inductive RunL (P : Go.Program) (T : Tab) (kp : Nat → Prop) (base : Nat) (ops : Array Oper) : List Oper → St → St → Prop where
  | nil (st : St) : RunL P T kp base ops [] st st
  | cons {o : Oper} {l : List Oper} {st st1 st2 : St} (h : HS P T kp base ops o st st1) (t : RunL P T kp base ops l st1 st2) : RunL P T kp base ops (o :: l) st st2
section
variable {P : Go.Program} {T : Tab} {kp : Nat → Prop} {base : Nat} {ops : Array Oper}
theorem RunL.chain : ∀ {l : List Oper} {k : Nat} {st st' : St}, (∀ j, l[j]? = ops[k + j]?) → RunL P T kp base ops l st st' → Chain P T kp base ops (List.range' k l.length) st st'
  | [], _, _, _, _, h => by cases h; exact .nil _
  | o :: l, k, _, _, hl, h => by
    cases h with
    | cons h t =>
      refine .cons (by simpa using (hl 0).symm) h (t.chain fun j => ?_)
      have := hl (j + 1)
      rw [Nat.add_right_comm, Nat.add_assoc]
      simpa [Nat.add_comm, Nat.add_left_comm] using this
theorem range_range' (n : Nat) : List.range n = List.range' 0 n := by rw [List.range_eq_range']
variable (hT : T.Ok P) {R : Ref} {w : World} {n : Nat} {ds : List Deferred}
include hT
theorem plain_snd (hd : ∀ o ∈ ops, ∀ d, o.dst = some d → d < n) {Q : Exit → Act → World → Prop} {st' : St} (hQ : ∀ a w, SR R n ds st' a w → Q .normal a w) :
    ∀ (l : List Nat) (st : St) (a : Act) (w : World), Chain P T R.keep base ops l st st' → SR R n ds st a w → wpOps P ops Q l a w
  | [], st, a, w, h, hr => by cases h; exact hQ a w hr
  | i :: l, st, a, w, h, hr => by
    cases h with
    | @cons _ o _ _ st1 _ hi h1 t =>
      rw [wpOps_cons]
      unfold wpOp
      rw [hi]
      have hgo := h1.snd hT hr (hd o (Array.mem_of_getElem? hi)) (K := wpOps P ops Q l) (Q := Q) (fun a' w' hr' => plain_snd hd hQ l st1 a' w' t hr')
      dsimp only
      split
      · rename_i hw; rw [if_pos hw] at hgo; exact .inl hgo
      · rename_i hw; rw [if_neg hw] at hgo; exact hgo
end
def dstOk (n : Nat) (ops : Array Oper) : Bool := ops.toList.all fun o => match o.dst with | some d => decide (d < n) | none => true
theorem dstOk_spec {n : Nat} {ops : Array Oper} (h : dstOk n ops = true) : ∀ o ∈ ops, ∀ d, o.dst = some d → d < n := fun o ho d hd => by
  have := List.all_eq_true.1 h o (by simpa using ho)
  rw [hd] at this
  simpa using this
def W (P : Go.Program) (R : Ref) (n : Nat) (ds : List Deferred) (st : St) (c : Code) (K : Exit → St → Prop) : Prop :=
  ∀ a w, SR R n ds st a w → c.wp P (fun e a' w' => ∃ st', K e st' ∧ SR R n ds st' a' w') a w
@[reducible] def thenK (k : St → Prop) (K : Exit → St → Prop) : Exit → St → Prop
  | .normal, st => k st
  | e, st => K e st
@[reducible] def blockK (id : Nat) (K : Exit → St → Prop) : Exit → St → Prop
  | .exit j, st => if j = id then K .normal st else K (.exit j) st
  | e, st => K e st
section
variable {P : Go.Program} {T : Tab} {R : Ref} {n : Nat} {ds : List Deferred} {st : St} {K : Exit → St → Prop}
theorem W.mono {c : Code} {K' : Exit → St → Prop} (h : W P R n ds st c K) (hk : ∀ e st', K e st' → K' e st') : W P R n ds st c K' :=
  fun a w hr => wp_mono (h a w hr) fun e _ _ ⟨st', h1, h2⟩ => ⟨st', hk e st' h1, h2⟩
theorem W.region (hT : T.Ok P) (base : Nat) {id : Nat} {ops : Array Oper} {st' : St} (hd : dstOk n ops = true) (h : RunL P T R.keep base ops ops.toList st st') (hk : K .normal st') : W P R n ds st (.region id ops false) K := fun a w hr =>
  wp_region (plain_snd hT (dstOk_spec hd) (fun a w hr' => ⟨st', hk, hr'⟩) _ st a w (by rw [range_range']; have := h.chain (k := 0) (by simp); simpa using this) hr)
theorem W.regionD (hT : T.Ok P) (base : Nat) {id : Nat} {ops : Array Oper} {st' : St} (hm : P.follows .mixedOrders = true) (hok : okRegion T ops = true) (hd : dstOk n ops = true) (h : RunL P T R.keep base ops ops.toList st st') (hk : K .normal st') : W P R n ds st (.region id ops true) K := fun a w hr => by
  refine wp_region_any hm (any_snd hT hok (dstOk_spec hd) (fun a w hr' => ⟨st', hk, hr'⟩) _ _ (List.range ops.size) st a _ (by simp) (by simp) (List.pairwise_lt_range) (fun i => ?_) (fun k o ho hl => ?_) ?_ (by rw [range_range']; have := h.chain (k := 0) (by simp); simpa using this))
  · rw [List.mem_range]
    refine ⟨fun hi => ⟨hi, ?_⟩, fun hi => hi.1⟩
    simp [hi]
  · exfalso
    have hk := (Array.getElem?_eq_some_iff.1 ho).1
    simp [hk] at hl
  · obtain ⟨⟨B, I, hmr, hx0, hkp, hs⟩, h2, h3, hnn, h4, h5⟩ := hr
    have hE : Ext w w.drew I I := ⟨fun _ _ k => k, fun _ _ _ => rfl⟩
    exact ⟨⟨B, I, hmr.call (Below.refl _ _).drew, hx0.trans hE, hkp, fun t => (hs t).mono hE fun _ _ => rfl⟩, h2, h3, hnn, h4, h5⟩
theorem W.seq {x y : Code} (h : W P R n ds st x (thenK (fun st' => W P R n ds st' y K) K)) : W P R n ds st (.seq x y) K := fun a w hr =>
  wp_seq (wp_mono (h a w hr) fun e a' w' ⟨st', h1, h2⟩ => by
    cases e with
    | normal => exact h1 a' w' h2
    | _ => exact ⟨st', h1, h2⟩)
theorem W.cond {c : Operand} {x y : Code} {b : Bool} (hc : ev st.s c = .c (.bool b)) (ht : b = true → W P R n ds st x K) (hf : b = false → W P R n ds st y K) : W P R n ds st (.cond c x y) K := fun a w hr => by
  obtain ⟨B, I, hm, -, -, hs⟩ := hr.ex
  have := ev_rv hs c
  rw [hc] at this
  exact wp_cond_split (RC.toBool this) (fun e => ht e a w hr) (fun e => hf e a w hr)
theorem W.block {id : Nat} {c : Code} (h : W P R n ds st c (blockK id K)) : W P R n ds st (.block id c) K := fun a w hr =>
  wp_block (wp_mono (h a w hr) fun e a' w' ⟨st', h1, h2⟩ => by
    cases e with
    | exit j =>
      simp only [blockK, Exit.inBlock] at h1 ⊢
      split
      · rename_i e; rw [if_pos e] at h1; exact ⟨st', h1, h2⟩
      · rename_i e; rw [if_neg e] at h1; exact ⟨st', h1, h2⟩
    | _ => exact ⟨st', h1, h2⟩)
theorem W.exit {id : Nat} (h : K (.exit id) st) : W P R n ds st (.exit id) K := fun _ _ hr => wp_exit ⟨st, h, hr⟩
theorem W.ret (h : K .ret st) : W P R n ds st .ret K := fun _ _ hr => wp_ret ⟨st, h, hr⟩
theorem W.skip (h : K .normal st) : W P R n ds st .skip K := fun _ _ hr => wp_skip ⟨st, h, hr⟩
def A1.ren (τ : Nat → Nat) : A1 → A1
  | .ptr id off => .ptr (τ id) off
  | .own id => .own (τ id)
  | .map id => .map (τ id)
  | a => a
def A.ren (τ : Nat → Nat) : A → A
  | .ptr id off => .ptr (τ id) off
  | .own id => .own (τ id)
  | .fn f ids => .fn f (ids.map τ)
  | .pinP v id off => .pinP v (τ id) off
  | .eptr id e i f => .eptr (τ id) e i f
  | .win id e lo hi => .win (τ id) e lo hi
  | .map id => .map (τ id)
  | .tupA xs => .tupA (xs.map (A1.ren τ))
  | .aggA xs => .aggA (xs.map (A1.ren τ))
  | a => a
def O.ren (τ : Nat → Nat) : O → O
  | .box ty cells => .box ty (cells.map (A.ren τ))
  | .rows ty xs => .rows ty (xs.map (A1.ren τ))
  | .map ents => .map (ents.map fun p => (p.1.ren τ, p.2.ren τ))
  | o => o
theorem R1.ren {B : Nat → Value} {w : World} {I : Nat → Nat → Prop} {τ : Nat → Nat} {a : A1} {v : Value} (h : R1 B w I (a.ren τ) v) : R1 (fun j => B (τ j)) w I a v := by
  cases a <;> exact h
theorem R1s.ren {B : Nat → Value} {w : World} {I : Nat → Nat → Prop} {τ : Nat → Nat} : ∀ {al : List A1} {vs : List Value}, R1s B w I (al.map (A1.ren τ)) vs → R1s (fun j => B (τ j)) w I al vs
  | [], [], _ => trivial
  | _ :: _, _ :: _, h => ⟨h.1.ren, R1s.ren h.2⟩
theorem RV.ren {B : Nat → Value} {w : World} {I : Nat → Nat → Prop} {τ : Nat → Nat} {a : A} {v : Value} (h : RV B w I (a.ren τ) v) : RV (fun j => B (τ j)) w I a v := by
  cases a with
  | fn f ids => show v = _; rw [show v = _ from h]; simp [Function.comp_def]
  | tupA xs => obtain ⟨vs, h1, h2⟩ := h; exact ⟨vs, h1, h2.ren⟩
  | aggA xs => obtain ⟨vs, h1, h2, h3⟩ := h; exact ⟨vs, h1, h2.ren, h3⟩
  | _ => exact h
theorem RVs.ren {B : Nat → Value} {w : World} {I : Nat → Nat → Prop} {τ : Nat → Nat} : ∀ {al : List A} {vs : List Value}, RVs B w I (al.map (A.ren τ)) vs → RVs (fun j => B (τ j)) w I al vs
  | [], [], _ => trivial
  | _ :: _, _ :: _, h => ⟨⟨h.1.1.ren, h.1.2⟩, RVs.ren h.2⟩
theorem REs.ren {B : Nat → Value} {w : World} {I : Nat → Nat → Prop} {τ : Nat → Nat} : ∀ {l : List (A1 × A1)} {es : List MapEntry}, REs B w I (l.map fun p => (p.1.ren τ, p.2.ren τ)) es → REs (fun j => B (τ j)) w I l es
  | [], [], _ => trivial
  | _ :: _, _ :: _, h => ⟨⟨h.1.1.ren, h.1.2.ren⟩, REs.ren h.2⟩
theorem RO.ren {B : Nat → Value} {w : World} {I : Nat → Nat → Prop} {τ : Nat → Nat} {j : Nat} {o : O} (h : RO B w I (τ j) (o.ren τ)) : RO (fun j => B (τ j)) w I j o := by
  cases o with
  | box ty cells => obtain ⟨b, vs, h1, h2, h3, h4⟩ := h; exact ⟨b, vs, h1, h2, h3.ren, h4⟩
  | rows ty xs => obtain ⟨vs, h1, h2, h3, h4⟩ := h; rw [List.length_map] at h1; exact ⟨vs, h1, h2.ren, h3, h4⟩
  | map ents => obtain ⟨r, es, clock, h1, h2, h3, h4⟩ := h; exact ⟨r, es, clock, h1, h2, h3.ren, h4⟩
  | _ => exact h
theorem foot_ren {B : Nat → Value} {τ : Nat → Nat} {j k : Nat} {o : O} : foot (fun j => B (τ j)) j o k ↔ foot B (τ j) (o.ren τ) k := by
  cases o <;> exact Iff.rfl
structure LeT (τ : Nat → Nat) (kp : Nat → Prop) (st st' : St) : Prop where
  s : ∀ t, st'.s t = .top ∨ (st'.s t).ren τ = st.s t
  m : ∀ j o, st'.m j = some o → st.m (τ j) = some (o.ren τ)
  inj : ∀ i j, (st'.m i).isSome = true → (st'.m j).isSome = true → τ i = τ j → i = j
  wf : WF st'
  kept : ∀ j, kp j → τ j = j ∧ (st'.m j).isSome = true
  dd : dfs (st'.s DID) = dfs (st.s DID)
theorem SR.leT {τ : Nat → Nat} {st' : St} {a : Act} {w : World} (h : SR R n ds st a w) (hl : LeT τ R.keep st st') : SR R n ds st' a w := by
  obtain ⟨⟨B, I, hm, hx0, hkp, hs⟩, -, h3, hnn, h4, -⟩ := h
  refine ⟨⟨fun j => B (τ j), I, ⟨hm.below, hm.glob, hm.base, hm.old, hm.there, fun id o ho => RO.ren (hm.objs _ _ (hl.m id o ho)), fun id o ho k hk => hm.low _ _ (hl.m id o ho) k (foot_ren.1 hk), fun id o id' o' ho ho' hne k hk hk' => ?_, hl.wf.live⟩, hx0, fun j hj => ?_, fun t => ?_⟩, hl.wf.ids, h3, hnn, by rw [hl.dd]; exact h4, fun j hj => (hl.kept j hj).2⟩
  · exact hm.apart _ _ _ _ (hl.m id o ho) (hl.m id' o' ho') (fun e => hne (hl.inj id id' (by simp [ho]) (by simp [ho']) e)) k (foot_ren.1 hk) (foot_ren.1 hk')
  · show B (τ j) = _
    rw [(hl.kept j hj).1]; exact hkp j hj
  · rcases hl.s t with e | e
    · rw [e]; trivial
    · refine RV.ren ?_
      rw [e]; exact hs t
structure Le (kp : Nat → Prop) (st st' : St) : Prop where
  s : ∀ t, st'.s t = .top ∨ st'.s t = st.s t
  m : ∀ j, st'.m j = none ∨ st'.m j = st.m j
  wf : WF st'
  kept : ∀ j, kp j → (st'.m j).isSome = true
  dd : dfs (st'.s DID) = dfs (st.s DID)
theorem SR.le {st' : St} {a : Act} {w : World} (h : SR R n ds st a w) (hl : Le R.keep st st') : SR R n ds st' a w := by
  obtain ⟨⟨B, I, hm, hx0, hkp, hs⟩, -, h3, hnn, h4, -⟩ := h
  have hmm : ∀ {j : Nat} {o : O}, st'.m j = some o → st.m j = some o := fun {j o} hj => by
    rcases hl.m j with e | e
    · rw [e] at hj; cases hj
    · rw [← e]; exact hj
  refine ⟨⟨B, I, ⟨hm.below, hm.glob, hm.base, hm.old, hm.there, fun id o ho => hm.objs id o (hmm ho), fun id o ho => hm.low id o (hmm ho), fun id o id' o' ho ho' => hm.apart id o id' o' (hmm ho) (hmm ho'), hl.wf.live⟩, hx0, hkp, fun t => ?_⟩, hl.wf.ids, h3, hnn, by rw [hl.dd]; exact h4, hl.kept⟩
  rcases hl.s t with e | e
  · rw [e]; trivial
  · rw [e]; exact hs t
theorem W.weaken {st' : St} {c : Code} (hl : Le R.keep st st') (h : W P R n ds st' c K) : W P R n ds st c K := fun a w hr => h a w (hr.le hl)
theorem W.loop {ι : Type} {c : Code} (mk : ι → St) (Inv : ι → Prop) (μ : ι → Nat) (i0 : ι) (hl : Le R.keep st (mk i0)) (h0 : Inv i0)
    (hround : ∀ i, Inv i → W P R n ds (mk i) c (thenK (fun st' => ∃ i', Inv i' ∧ μ i' < μ i ∧ Le R.keep st' (mk i')) K)) : W P R n ds st (.loop c) K := by
  refine W.weaken hl ?_
  intro a w hr
  refine wp_loop_ghost (fun k a w => ∃ i, Inv i ∧ μ i = k ∧ SR R n ds (mk i) a w) (μ i0) ⟨i0, h0, rfl, hr⟩ ?_
  rintro k a w ⟨i, hi, rfl, hr⟩
  refine wp_mono (hround i hi a w hr) ?_
  rintro e a' w' ⟨st', h1, h2⟩
  cases e with
  | normal =>
    obtain ⟨i', hi', hlt, hle⟩ := h1
    exact ⟨μ i', hlt, i', hi', rfl, h2.le hle⟩
  | _ => exact ⟨st', h1, h2⟩
end
def resOne (T : Tab) (st : St) : ResultVar → Option A
  | .tmp t => some (st.s t)
  | .cell a ty => match st.s a with
    | .ptr j off => (match st.m j with | some (.box _ cells) => ld T st.m ty (cells.drop off) | _ => none)
    | _ => none
def fin (m : Mem) : A → Option A
  | .agg xs => some (.agg xs)
  | a => match asC m a with | some x => some (.c x) | none => none
def toT (m : Mem) : A → Option (Bool × List C)
  | .agg xs => some (true, xs)
  | a => match asC m a with | some x => some (false, [x]) | none => none
def resA (T : Tab) (st : St) : List ResultVar → Option A
  | [x] => match resOne T st x with | some a => fin st.m a | none => none
  | [] => some (.tup [])
  | [x, y] => match resOne T st x, resOne T st y with
    | some a, some b => (match toT st.m a, toT st.m b with | some p, some q => some (.tup [p, q]) | _, _ => none)
    | _, _ => none
  | [x, y, z] => match resOne T st x, resOne T st y, resOne T st z with
    | some a, some b, some c => (match toT st.m a, toT st.m b, toT st.m c with | some p, some q, some r => some (.tup [p, q, r]) | _, _, _ => none)
    | _, _, _ => none
  | _ => none
def runOne (tmps : Array Value) : ResultVar → Sem Value
  | .tmp t => pure (tmps.getD t undef)
  | .cell a t => do loadVar t (← asAddr (tmps.getD a undef))
section
variable {P : Go.Program} {T : Tab} (hT : T.Ok P) {w0 w : World} {I0 I : Nat → Nat → Prop} {B : Nat → Value} {st : St} {a : Act}
include hT
theorem resOne_snd (hm : MR w0 I0 B I st.m w) (hs : ∀ t, RV B w I (st.s t) (a.tmps.getD t undef)) {x : ResultVar} {r : A} (h : resOne T st x = some r) : ∃ v, (runOne a.tmps x).run P w = .ok v w ∧ RV B w I r v := by
  cases x with
  | tmp t => cases h; exact ⟨_, rfl, hs t⟩
  | cell p ty =>
    simp only [resOne] at h
    have hp := hs p
    split at h
    · rename_i j off e
      rw [e] at hp
      obtain ⟨b, hB, e2⟩ := hp
      split at h
      · rename_i ty' cells hj
        obtain ⟨b', vs, hB', hh, hv, -⟩ := hm.objs j _ hj
        rw [hB] at hB'
        cases hB'
        have hcell : ∀ (k : Nat) v, (vs.drop off)[k]? = some v → w.cell? ⟨b, off + k, none⟩ = some v := fun k v hk => by
          simp only [World.cell?, hh]
          simpa using hk
        have hvd := hv.drop off
        unfold ld at h
        split at h
        · rename_i n hty
          split at h
          · rename_i hn
            split at h
            · rename_i xs hxs
              cases h
              have hlen := hvd.length
              refine ⟨.agg ((vs.drop off).take n).toArray, ?_, _, rfl, asCs_rcs hm hxs (hvd.take n)⟩
              simp only [runOne, e2, asAddr, Sem.run_bind, Sem.run_pure, Result.andThen_ok]
              exact run_loadMany hT hty (b := b) (off := off) (cs := (vs.drop off).take n) (by rw [List.length_take]; omega) (fun k v hk => by
                rw [List.getElem?_take] at hk
                split at hk
                · exact hcell k v hk
                · cases hk)
            · split at h
              · rename_i ys hys
                cases h
                have hlen := hvd.length
                obtain ⟨k1, k2⟩ := downs_r1s hys (hvd.take n)
                refine ⟨.agg ((vs.drop off).take n).toArray, ?_, _, rfl, k1, k2⟩
                simp only [runOne, e2, asAddr, Sem.run_bind, Sem.run_pure, Result.andThen_ok]
                exact run_loadMany hT hty (b := b) (off := off) (cs := (vs.drop off).take n) (by rw [List.length_take]; omega) (fun k v hk => by
                  rw [List.getElem?_take] at hk
                  split at hk
                  · exact hcell k v hk
                  · cases hk)
              · cases h
          · cases h
        · rename_i n hty
          cases hcd : cells.drop off with
          | nil => rw [hcd] at h; cases h
          | cons y ys =>
            rw [hcd] at h hvd
            cases h
            cases hvd2 : vs.drop off with
            | nil => rw [hvd2] at hvd; exact hvd.elim
            | cons u us =>
              rw [hvd2] at hvd
              have hc0 : w.cell? ⟨b, off, none⟩ = some u := by have := hcell 0 u (by rw [hvd2]; rfl); simpa using this
              refine ⟨u, ?_, hvd.1.1⟩
              simp only [runOne, e2, asAddr, Sem.run_bind, Sem.run_pure, Result.andThen_ok]
              exact run_loadOne hT hty hc0
        · cases h
      · cases h
    · cases h
omit hT in
theorem toT_snd (hm : MR w0 I0 B I st.m w) {r : A} {p : Bool × List C} {v : Value} (h : toT st.m r = some p) (hv : RV B w I r v) : RT w I v p := by
  unfold toT at h
  split at h
  · cases h; exact hv
  · split at h
    · rename_i x hx
      cases h
      exact ⟨x, rfl, asC_rc hm hx hv⟩
    · cases h
omit hT in
theorem fin_snd (hm : MR w0 I0 B I st.m w) {r r' : A} {v : Value} (h : fin st.m r = some r') (hv : RV B w I r v) : RV B w I r' v ∧ r'.ids = [] := by
  unfold fin at h
  split at h
  · cases h; exact ⟨hv, rfl⟩
  · split at h
    · rename_i x hx
      cases h
      exact ⟨asC_rc hm hx hv, rfl⟩
    · cases h
theorem resA_snd (hm : MR w0 I0 B I st.m w) (hs : ∀ t, RV B w I (st.s t) (a.tmps.getD t undef)) {fn : Func} {l : List ResultVar} {r : A} (hl : fn.results.toList = l) (h : resA T st l = some r) :
    ∃ v, (results fn a.tmps).run P w = .ok v w ∧ RV B w I r v ∧ r.ids = [] := by
  have hf : fn.results = l.toArray := by rw [← hl]
  have e : results fn a.tmps = (do let vs ← l.toArray.mapM (runOne a.tmps); pure (if h : vs.size = 1 then vs[0] else .tuple vs)) := by
    unfold results
    rw [hf]
    rfl
  rw [e]
  unfold resA at h
  split at h
  · rename_i x
    split at h
    · rename_i a' hx
      obtain ⟨v, h1, h2⟩ := resOne_snd hT hm hs hx
      obtain ⟨h3, h4⟩ := fin_snd hm h h2
      exact ⟨v, by simp [h1], h3, h4⟩
    · cases h
  · cases h
    exact ⟨.tuple #[], by simp, ⟨[], rfl, trivial⟩, rfl⟩
  · rename_i x y
    split at h
    · rename_i a' b' hx hy
      split at h
      · rename_i p q hp hq
        cases h
        obtain ⟨v, h1, h2⟩ := resOne_snd hT hm hs hx
        obtain ⟨u, h3, h4⟩ := resOne_snd hT hm hs hy
        exact ⟨.tuple #[v, u], by simp [Sem.run_bind, h1, h3], ⟨[v, u], rfl, toT_snd hm hp h2, toT_snd hm hq h4, trivial⟩, rfl⟩
      · cases h
    · cases h
  · rename_i x y z
    split at h
    · rename_i a' b' c' hx hy hz
      split at h
      · rename_i p q s hp hq hs'
        cases h
        obtain ⟨v, h1, h2⟩ := resOne_snd hT hm hs hx
        obtain ⟨u, h3, h4⟩ := resOne_snd hT hm hs hy
        obtain ⟨z, h5, h6⟩ := resOne_snd hT hm hs hz
        exact ⟨.tuple #[v, u, z], by simp [Sem.run_bind, h1, h3, h5], ⟨[v, u, z], rfl, toT_snd hm hp h2, toT_snd hm hq h4, toT_snd hm hs' h6, trivial⟩, rfl⟩
      · cases h
    · cases h
  · cases h
end
def entry (args : List A) : Nat → A := fun t => args.getD t .undef
theorem rvl_entry {B : Nat → Value} {w : World} {I : Nat → Nat → Prop} {m : Nat} : ∀ {args : List A} {vals : List Value}, RVl B w I args vals → ∀ t, RV B w I (entry args t) ((vals.toArray ++ Array.replicate m undef).getD t undef) := by
  intro args vals h t
  have e : (vals.toArray ++ Array.replicate m undef).getD t undef = (vals ++ List.replicate m undef)[t]?.getD undef := by
    rw [Array.getD_eq_getD_getElem?, ← Array.getElem?_toList]; simp
  rw [e]
  unfold entry
  rw [List.getD_eq_getElem?_getD]
  clear e
  induction args generalizing vals t with
  | nil =>
    cases vals with
    | nil =>
      show _ = _
      rw [List.nil_append, List.getElem?_replicate]
      split <;> rfl
    | cons _ _ => exact h.elim
  | cons a al ih =>
    cases vals with
    | nil => exact h.elim
    | cons v vs =>
      cases t with
      | zero => exact h.1
      | succ t => exact ih h.2 t
def resE (T : Tab) (st : St) : List ResultVar → Option A
  | [x] => resOne T st x
  | [] => some (.tup [])
  | [x, y] => match resOne T st x, resOne T st y with
    | some a, some b => (match a.down, b.down with | some p, some q => some (.tupA [p, q]) | _, _ => none)
    | _, _ => none
  | [x, y, z] => match resOne T st x, resOne T st y, resOne T st z with
    | some a, some b, some c => (match a.down, b.down, c.down with | some p, some q, some r => some (.tupA [p, q, r]) | _, _, _ => none)
    | _, _, _ => none
  | _ => none
theorem resE_snd {P : Go.Program} {T : Tab} (hT : T.Ok P) {w0 w : World} {I0 I : Nat → Nat → Prop} {B : Nat → Value} {st : St} {a : Act} (hm : MR w0 I0 B I st.m w) (hs : ∀ t, RV B w I (st.s t) (a.tmps.getD t undef)) {fn : Func} {l : List ResultVar} {r : A} (hl : fn.results.toList = l) (h : resE T st l = some r) :
    ∃ v, (results fn a.tmps).run P w = .ok v w ∧ RV B w I r v := by
  have hf : fn.results = l.toArray := by rw [← hl]
  have e : results fn a.tmps = (do let vs ← l.toArray.mapM (runOne a.tmps); pure (if h : vs.size = 1 then vs[0] else .tuple vs)) := by
    unfold results
    rw [hf]
    rfl
  rw [e]
  unfold resE at h
  split at h
  · rename_i x
    obtain ⟨v, h1, h2⟩ := resOne_snd hT hm hs h
    exact ⟨v, by simp [h1], h2⟩
  · cases h
    exact ⟨.tuple #[], by simp, ⟨[], rfl, trivial⟩⟩
  · rename_i x y
    split at h
    · rename_i a' b' hx hy
      split at h
      · rename_i p q hp hq
        cases h
        obtain ⟨v, h1, h2⟩ := resOne_snd hT hm hs hx
        obtain ⟨u, h3, h4⟩ := resOne_snd hT hm hs hy
        exact ⟨.tuple #[v, u], by simp [Sem.run_bind, h1, h3], ⟨[v, u], rfl, down_rv hp h2, down_rv hq h4, trivial⟩⟩
      · cases h
    · cases h
  · rename_i x y z
    split at h
    · rename_i a' b' c' hx hy hz
      split at h
      · rename_i p q s hp hq hs'
        cases h
        obtain ⟨v, h1, h2⟩ := resOne_snd hT hm hs hx
        obtain ⟨u, h3, h4⟩ := resOne_snd hT hm hs hy
        obtain ⟨z, h5, h6⟩ := resOne_snd hT hm hs hz
        exact ⟨.tuple #[v, u, z], by simp [Sem.run_bind, h1, h3, h5], ⟨[v, u, z], rfl, down_rv hp h2, down_rv hq h4, down_rv hs' h6, trivial⟩⟩
      · cases h
    · cases h
  · cases h
theorem ld_ids {T : Tab} {m : Mem} {ty : Nat} {l : List A} {r : A} (h : ld T m ty l = some r) : ∀ j ∈ r.ids, j ∈ l.flatMap A.ids := by
  unfold ld at h
  split at h
  · split at h
    · split at h
      · cases h; intro j hj; simp [A.ids] at hj
      · split at h
        · rename_i ys hys
          cases h
          intro j hj
          obtain ⟨x, hx1, hx2⟩ := List.mem_flatMap.1 (downs_ids hys j hj)
          exact List.mem_flatMap.2 ⟨x, List.mem_of_mem_take hx1, hx2⟩
        · cases h
    · cases h
  · intro j hj
    exact List.mem_flatMap.2 ⟨r, List.mem_of_mem_head? h, hj⟩
  · cases h
theorem resOne_ids {T : Tab} {st : St} (hi : ∀ t, ∀ j ∈ (st.s t).ids, (st.m j).isSome = true) (hw : ∀ id o, st.m id = some o → ∀ j ∈ o.ids, (st.m j).isSome = true) {x : ResultVar} {r : A} (h : resOne T st x = some r) : ∀ j ∈ r.ids, (st.m j).isSome = true := by
  cases x with
  | tmp t => cases h; exact hi t
  | cell p ty =>
    simp only [resOne] at h
    split at h
    · split at h
      · rename_i ty' cells hj
        intro j hj'
        obtain ⟨x, hx1, hx2⟩ := List.mem_flatMap.1 (ld_ids h j hj')
        exact hw _ _ hj j (List.mem_flatMap.2 ⟨x, List.mem_of_mem_drop hx1, hx2⟩)
      · cases h
    · cases h
theorem resE_ids {T : Tab} {st : St} (hi : ∀ t, ∀ j ∈ (st.s t).ids, (st.m j).isSome = true) (hw : ∀ id o, st.m id = some o → ∀ j ∈ o.ids, (st.m j).isSome = true) {l : List ResultVar} {r : A} (h : resE T st l = some r) : ∀ j ∈ r.ids, (st.m j).isSome = true := by
  unfold resE at h
  split at h
  · exact resOne_ids hi hw h
  · cases h; intro j hj; simp [A.ids] at hj
  · split at h
    · rename_i a b hx hy
      split at h
      · rename_i p q hp hq
        cases h
        intro j hj
        simp [A.ids] at hj
        rcases hj with hj | hj
        · exact resOne_ids hi hw hx j (down_ids hp j hj)
        · exact resOne_ids hi hw hy j (down_ids hq j hj)
      · cases h
    · cases h
  · split at h
    · rename_i a b c hx hy hz
      split at h
      · rename_i p q s hp hq hs
        cases h
        intro j hj
        simp [A.ids] at hj
        rcases hj with hj | hj | hj
        · exact resOne_ids hi hw hx j (down_ids hp j hj)
        · exact resOne_ids hi hw hy j (down_ids hq j hj)
        · exact resOne_ids hi hw hz j (down_ids hs j hj)
      · cases h
    · cases h
  · cases h
theorem entry_dfs {args : List A} (h : ∀ a ∈ args, ∀ l, a ≠ .defs l) : dfs (entry args DID) = [] := by
  unfold entry
  rw [List.getD_eq_getElem?_getD]
  cases hx : args[DID]? with
  | none => rfl
  | some a =>
    have := h a (List.mem_of_getElem? hx)
    cases a <;> first | rfl | exact absurd rfl (this _)
theorem rvl_len {B : Nat → Value} {w : World} {I : Nat → Nat → Prop} : ∀ {args : List A} {vals : List Value}, RVl B w I args vals → vals.length = args.length
  | [], [], _ => rfl
  | _ :: _, _ :: _, h => by simp [rvl_len h.2]
theorem call_eff {P : Go.Program} {T : Tab} (hT : T.Ok P) {f : FuncId} {fn : Func} {c : Code} {l : List ResultVar} {args : List A} {M : Mem} {D : List Nat} {r : A} {M' : Mem} (hf : P.funcs[f]? = some fn) (hb : fn.body = some c) (hl : fn.results.toList = l) (hle : args.length ≤ fn.ntmps) (hnd : fn.ntmps ≤ DID) (hids : ∀ a ∈ args, ∀ j ∈ a.ids, (M j).isSome = true) (hdf : ∀ a ∈ args, ∀ l, a ≠ .defs l)
    (hen : ∀ args w, (callFunc f args).run P w = .ok (.enter f args) w) (hr : ∀ j ∈ r.ids, (M' j).isSome = true) (hsub : ∀ j, (M j).isSome = true → (M' j).isSome = true) (hwm : WFm M → WFm M')
    (hW : ∀ R : Ref, R.keep = (fun j => (M j).isSome = true ∧ j ∉ D) → W P R fn.ntmps [] ⟨entry args, M⟩ c (fun e st => (e = .normal ∨ e = .ret) ∧ dfs (st.s DID) = [] ∧ ∃ τ r0, resE T st l = some r0 ∧ LeT τ R.keep ⟨upd (fun _ => .top) 0 r0, st.m⟩ ⟨upd (fun _ => .top) 0 r, M'⟩)) : CallE P f args M D r M' := by
  refine ⟨hen, hr, hsub, hwm, fun w0 I0 B I w vals hm hv => ?_⟩
  have hlen := rvl_len hv
  refine calls_of_wp hf hb ?_
  have hdd : dfs (entry args DID) = [] := entry_dfs hdf
  have h0 : SR ⟨w0, I0, w, I, B, fun j => (M j).isSome = true ∧ j ∉ D⟩ fn.ntmps [] ⟨entry args, M⟩ { tmps := vals.toArray ++ Array.replicate (fn.ntmps - vals.toArray.size) undef, defers := [] } w := by
    refine ⟨⟨B, I, hm, Ext.refl _ _, fun _ _ => rfl, rvl_entry hv⟩, fun t j hj => ?_, by simp [hlen]; omega, hnd, by rw [show dfs ((⟨entry args, M⟩ : St).s DID) = [] from hdd]; rfl, fun j hj => hj.1⟩
    simp only [entry, List.getD_eq_getElem?_getD] at hj
    cases hx : args[t]? with
    | none => rw [hx] at hj; simp [A.ids] at hj
    | some a => rw [hx] at hj; exact hids a (List.mem_of_getElem? hx) j hj
  refine wp_mono (hW _ rfl _ w h0) ?_
  rintro e a' w' ⟨st', ⟨he, hdn, τ, r0, hres, hle2⟩, ⟨⟨B', I', hm', hx', hkp', hs'⟩, hids', -, -, hds, hkept⟩⟩
  rw [hdn] at hds
  obtain ⟨v, h1, h2⟩ := resE_snd hT hm' hs' hl hres
  -- the result as a frame of its own
  have hr1 : SR ⟨w0, I0, w, I, B, fun j => (M j).isSome = true ∧ j ∉ D⟩ 1 [] ⟨upd (fun _ => .top) 0 r0, st'.m⟩ { tmps := #[v], defers := [] } w' := by
    have other : ∀ {t : Nat}, t ≠ 0 → (⟨upd (fun _ => A.top) 0 r0, st'.m⟩ : St).s t = A.top := fun {t} e => by
      show upd (fun _ => A.top) 0 r0 t = A.top
      exact upd_ne (fun _ => A.top) r0 e
    refine ⟨⟨B', I', hm', hx', hkp', fun t => ?_⟩, fun t j hj => ?_, rfl, by decide, by show [] = dfs (upd (fun _ => A.top) 0 r0 DID) ++ []; rw [upd_ne _ _ (by decide)]; rfl, hkept⟩
    · by_cases e : t = 0
      · subst e; exact h2
      · rw [other e]; trivial
    · by_cases e : t = 0
      · subst e; exact resE_ids hids' hm'.live hres j hj
      · rw [other e] at hj
        simp [A.ids] at hj
  have hr2' := hr1.leT hle2
  obtain ⟨⟨B2, I2, hm3, hx3, hkp3, hs3⟩, -⟩ := hr2'
  have h5 : RV B2 w' I2 r v := hs3 0
  have hpost : a'.defers = [] ∧ ∃ v, (results fn a'.tmps).run P w' = .ok v w' ∧ ∃ v' B' I', Ending.returned v = .returned v' ∧ MR w0 I0 B' I' M' w' ∧ Ext w w' I I' ∧ (∀ j, (M j).isSome = true → j ∉ D → B' j = B j) ∧ RV B' w' I' r v' :=
    ⟨hds, v, h1, v, B2, I2, rfl, hm3, hx3, fun j hj hd => hkp3 j ⟨hj, hd⟩, h5⟩
  rcases he with rfl | rfl
  · exact hpost
  · exact hpost
theorem call_pure {P : Go.Program} {T : Tab} (hT : T.Ok P) {f : FuncId} {fn : Func} {c : Code} {l : List ResultVar} {args : List A} {r : A} (hf : P.funcs[f]? = some fn) (hb : fn.body = some c) (hl : fn.results.toList = l) (hd : ∀ a ∈ args, a.ids = []) (hdf : ∀ a ∈ args, ∀ l, a ≠ .defs l) (hle : args.length ≤ fn.ntmps) (hnd : fn.ntmps ≤ DID)
    (hW : ∀ R : Ref, R.keep = (fun _ => False) → W P R fn.ntmps [] ⟨entry args, Mem.nil⟩ c (fun e st => (e = .normal ∨ e = .ret) ∧ dfs (st.s DID) = [] ∧ resA T st l = some r)) (m : Mem) : CallSem P f args m r := by
  refine CallSem.ofBelow ?_
  intro w0 I0 B I w vals hm hv
  have hlen := rvl_len hv
  refine calls_of_wp hf hb ?_
  have h0 : SR ⟨w, I, w, I, B, fun _ => False⟩ fn.ntmps [] ⟨entry args, Mem.nil⟩ { tmps := vals.toArray ++ Array.replicate (fn.ntmps - vals.toArray.size) undef, defers := [] } w := by
    refine ⟨⟨B, I, ⟨Below.refl _ _, hm.globNow, fun _ _ h => h, fun _ _ h => .inl h, hm.there, fun _ _ h => absurd h (noneSome _), fun _ _ h => absurd h (noneSome _), fun _ _ _ _ h => absurd h (noneSome _), fun _ _ h => absurd h (noneSome _)⟩, Ext.refl _ _, fun _ _ => rfl, rvl_entry hv⟩, fun t j hj => ?_, by simp [hlen]; omega, hnd, by rw [show dfs ((⟨entry args, Mem.nil⟩ : St).s DID) = [] from entry_dfs (fun a ha l e => by subst e; exact hdf _ ha l rfl)]; rfl, fun j hj => hj.elim⟩
    simp only [entry, List.getD_eq_getElem?_getD] at hj
    cases hx : args[t]? with
    | none => rw [hx] at hj; simp [A.ids] at hj
    | some a => rw [hx] at hj; simp [hd a (List.mem_of_getElem? hx)] at hj
  refine wp_mono (hW _ rfl _ w h0) ?_
  rintro e a' w' ⟨st', ⟨he, hdn, hres⟩, ⟨⟨B', I', hm', hx', -, hs'⟩, -, -, -, hds, -⟩⟩
  rw [hdn] at hds
  obtain ⟨v, h1, h2, h3⟩ := resA_snd hT hm' hs' hl hres
  have hpost : a'.defers = [] ∧ ∃ v, (results fn a'.tmps).run P w' = .ok v w' ∧ ∃ v' I', Ending.returned v = .returned v' ∧ Below w.heap.size w w' ∧ (∀ b o, I b o → I' b o) ∧ (∀ b o, I' b o → I b o ∨ (w.heap.size ≤ b ∧ b < w'.heap.size)) ∧ RV B w' I' r v' :=
    ⟨hds, v, h1, v, I', rfl, hm'.below, hm'.base, fun b o h => (hm'.old b o h).imp id fun k => ⟨k, hm'.there b o h⟩, h2.mono (Ext.refl _ _) fun j hj => by rw [h3] at hj; simp at hj⟩
  rcases he with rfl | rfl
  · exact hpost
  · exact hpost
end V
end Go.Proofs.YtbmbmcdaabhgnaaDoor
end
section
namespace Go.Proofs.YtbmbmcdaabhgnaaDoor
namespace V
open Go.RowKit
theorem lookup_mem {α β : Type} [BEq α] [LawfulBEq α] {t : α} {x : β} : ∀ {l : List (α × β)}, l.lookup t = some x → (t, x) ∈ l
  | [], h => by simp at h
  | (u, y) :: l, h => by
    rw [List.lookup_cons] at h
    by_cases e : t == u
    · rw [e] at h
      cases h
      rw [eq_of_beq e]
      simp
    · simp only [Bool.not_eq_true] at e
      rw [e] at h
      exact List.mem_cons_of_mem _ (lookup_mem h)
structure Lists where
  ty : List (Nat × Nat × Bool)
  zero : List (Nat × List Value)
  elem : List (Nat × Nat × Nat)
  off : List ((Nat × Nat) × Nat × Nat × Bool)
  bool : List Nat
  fields : List (Nat × List (Nat × Nat))
  bytes : List (Nat × Nat)
  nilk : List (Nat × Nat)
  int : List (Nat × IntKind)
  map : List (Nat × Nat × Nat)
  str : List Nat
  one : List (Nat × Value)
  seq : List (Nat × List (Nat × Nat))
  eff : List Nat
def Lists.tab (L : Lists) : Tab where
  ty t := L.ty.lookup t
  zero t := L.zero.lookup t
  elem t := L.elem.lookup t
  off t f := L.off.lookup (t, f)
  bool t := L.bool.contains t
  fields t := L.fields.lookup t
  bytes t := L.bytes.lookup t
  nilk t := L.nilk.lookup t
  int t := L.int.lookup t
  map t := L.map.lookup t
  str t := L.str.contains t
  one t := L.one.lookup t
  seq t := L.seq.lookup t
  eff f := L.eff.contains f
def chkTy (P : Go.Program) (e : Nat × Nat × Bool) : Bool :=
  decide (0 < e.2.1) && (match P.info? e.1 with | some i => i.size == e.2.1 | none => false) && (match P.underlying e.1 with | some d => TypeDesc.many d == e.2.2 | none => false) && (e.2.2 || e.2.1 == 1)
def chkElem (P : Go.Program) (e : Nat × Nat × Nat) : Bool :=
  decide (0 < e.2.2) && (match P.underlying e.1 with | some (.slice u) => u == e.2.1 | _ => false) && (match P.info? e.2.1 with | some i => i.size == e.2.2 | none => false)
def chkOff (P : Go.Program) (L : Lists) (e : (Nat × Nat) × Nat × Nat × Bool) : Bool :=
  match P.underlying e.1.1 with
  | some (.struct fs) => match fs[e.1.2]? with
    | some fd => fd.offset == e.2.1 && L.ty.lookup fd.type == some (e.2.2.1, e.2.2.2)
    | none => false
  | _ => false
def chkBool (P : Go.Program) (t : Nat) : Bool := match P.underlying t with | some .bool => true | _ => false
def chkStr (P : Go.Program) (t : Nat) : Bool := match P.underlying t with | some .string => true | _ => false
def chkFields (P : Go.Program) (e : Nat × List (Nat × Nat)) : Bool := match P.underlying e.1 with
  | some (.struct fs) => (fs.toList.map fun f => (P.info? f.type).map fun i => (f.offset, i.size)) == e.2.map some
  | _ => false
def chkBytes (P : Go.Program) (e : Nat × Nat) : Bool := match P.info? e.1 with | some i => i.bytes == e.2 | none => false
def chkNil (P : Go.Program) (e : Nat × Nat) : Bool := match P.underlying e.1 with | some d => nilKind d == some e.2 | none => false
def chkInt (P : Go.Program) (e : Nat × IntKind) : Bool := match P.underlying e.1 with | some (.int k) => decide (k = e.2) | _ => false
def chkMap (P : Go.Program) (e : Nat × Nat × Nat) : Bool := match P.underlying e.1 with | some (.map k v) => k == e.2.1 && v == e.2.2 | _ => false
def ZeroOk (P : Go.Program) : List (Nat × List Value) → Prop
  | [] => True
  | (t, vs) :: l => (((P.info? t).bind (·.zero)).map (·.cells) = some vs.toArray ∧ vs.all (·.oneCell') = true) ∧ ZeroOk P l
def OneOk (P : Go.Program) : List (Nat × Value) → Prop
  | [] => True
  | (t, v) :: l => ((P.info? t).bind (·.zero) = some v ∧ v.oneCell' = true) ∧ OneOk P l
def chkSeq (P : Go.Program) (e : Nat × List (Nat × Nat)) : Bool :=
  !P.stoodInHeld e.1 && !P.eqGuardType P.depth e.1 && (match P.underlying e.1 with | some (.struct fs) => (fs.toList.map (fun f => (f.name == "_", f.type, f.offset))) == (e.2.map fun p => (false, p.1, p.2)) | _ => false) &&
    e.2.all fun p => match P.underlying p.1 with | some d => flatD d | none => false
theorem Lists.ok {P : Go.Program} {L : Lists} (h1 : L.ty.all (chkTy P) = true) (h2 : ZeroOk P L.zero) (h3 : L.elem.all (chkElem P) = true) (h4 : L.off.all (chkOff P L) = true) (h5 : L.bool.all (chkBool P) = true) (h6 : L.fields.all (chkFields P) = true) (h7 : L.bytes.all (chkBytes P) = true) (h8 : L.nilk.all (chkNil P) = true) (h9 : L.int.all (chkInt P) = true) (h10 : L.map.all (chkMap P) = true) (h11 : L.str.all (chkStr P) = true) (h12 : OneOk P L.one) (h13 : L.seq.all (chkSeq P) = true) : L.tab.Ok P := by
  refine ⟨fun t n g h => ?_, fun t vs h => ?_, fun t e n h => ?_, fun t f o n g h => ?_, fun t h => ?_, fun t l h => ?_, fun t b h => ?_, fun t k h => ?_, fun t k h => ?_, fun t k e h => ?_, fun t h => ?_, fun t v h => ?_, fun t l h => ?_⟩
  · have := List.all_eq_true.1 h1 _ (lookup_mem h)
    simp only [chkTy, Bool.and_eq_true, decide_eq_true_eq] at this
    obtain ⟨⟨⟨k1, k2⟩, k3⟩, k4⟩ := this
    split at k2
    · rename_i i hi
      split at k3
      · rename_i d hd
        exact ⟨k1, ⟨i, hi, eq_of_beq k2⟩, d, hd, eq_of_beq k3, fun e => by subst e; simpa using k4⟩
      · cases k3
    · cases k2
  · have hm := lookup_mem h
    have : ∀ {l : List (Nat × List Value)}, ZeroOk P l → (t, vs) ∈ l → ((P.info? t).bind (·.zero)).map (·.cells) = some vs.toArray ∧ vs.all (·.oneCell') = true := by
      intro l
      induction l with
      | nil => intro _ h; simp at h
      | cons p l ih =>
        intro h hm
        rcases List.mem_cons.1 hm with e | hm
        · subst e; exact h.1
        · exact ih h.2 hm
    obtain ⟨k1, k2⟩ := this h2 hm
    cases hi : P.info? t with
    | none => rw [hi] at k1; cases k1
    | some i =>
      rw [hi] at k1
      simp only [Option.bind_some] at k1
      cases hz : i.zero with
      | none => rw [hz] at k1; cases k1
      | some z =>
        rw [hz] at k1
        exact ⟨i, z, rfl, hz, by simpa using k1, fun v hv => List.all_eq_true.1 k2 v hv⟩
  · have := List.all_eq_true.1 h3 _ (lookup_mem h)
    simp only [chkElem, Bool.and_eq_true, decide_eq_true_eq] at this
    obtain ⟨⟨k1, k2⟩, k3⟩ := this
    split at k2
    · rename_i u hu
      split at k3
      · rename_i i hi
        exact ⟨by rw [hu, eq_of_beq k2], k1, i, hi, eq_of_beq k3⟩
      · cases k3
    · cases k2
  · have := List.all_eq_true.1 h4 _ (lookup_mem h)
    simp only [chkOff] at this
    split at this
    · rename_i fs hfs
      split at this
      · rename_i fd hfd
        simp only [Bool.and_eq_true] at this
        exact ⟨fs, fd, hfs, hfd, eq_of_beq this.1, eq_of_beq this.2⟩
      · cases this
    · cases this
  · have hm : t ∈ L.bool := by simpa [Lists.tab] using h
    have := List.all_eq_true.1 h5 t hm
    unfold chkBool at this
    split at this
    · assumption
    · cases this
  · have := List.all_eq_true.1 h6 _ (lookup_mem h)
    simp only [chkFields] at this
    split at this
    · rename_i fs hfs
      exact ⟨fs, hfs, eq_of_beq this⟩
    · cases this
  · have := List.all_eq_true.1 h7 _ (lookup_mem h)
    simp only [chkBytes] at this
    split at this
    · rename_i i hi; exact ⟨i, hi, eq_of_beq this⟩
    · cases this
  · have := List.all_eq_true.1 h8 _ (lookup_mem h)
    simp only [chkNil] at this
    split at this
    · rename_i d hd; exact ⟨d, hd, eq_of_beq this⟩
    · cases this
  · have := List.all_eq_true.1 h9 _ (lookup_mem h)
    simp only [chkInt] at this
    split at this
    · rename_i d hd; rw [hd, of_decide_eq_true this]
    · cases this
  · have := List.all_eq_true.1 h10 _ (lookup_mem h)
    simp only [chkMap] at this
    split at this
    · rename_i d e' hd
      rw [Bool.and_eq_true] at this
      rw [hd, eq_of_beq this.1, eq_of_beq this.2]
    · cases this
  · have hm : t ∈ L.str := by simpa [Lists.tab] using h
    have := List.all_eq_true.1 h11 t hm
    unfold chkStr at this
    split at this
    · assumption
    · cases this
  · have hm := lookup_mem h
    have : ∀ {l : List (Nat × Value)}, OneOk P l → (t, v) ∈ l → (P.info? t).bind (·.zero) = some v ∧ v.oneCell' = true := by
      intro l
      induction l with
      | nil => intro _ h; simp at h
      | cons p l ih =>
        intro h hm
        rcases List.mem_cons.1 hm with e | hm
        · subst e; exact h.1
        · exact ih h.2 hm
    obtain ⟨k1, k2⟩ := this h12 hm
    cases hi : P.info? t with
    | none => rw [hi] at k1; cases k1
    | some i => rw [hi] at k1; exact ⟨i, rfl, k1, k2⟩
  · have := List.all_eq_true.1 h13 _ (lookup_mem h)
    simp only [chkSeq, Bool.and_eq_true, Bool.not_eq_true'] at this
    obtain ⟨⟨⟨k1, k2⟩, k3⟩, k4⟩ := this
    refine ⟨k1, k2, ?_, fun p hp => ?_⟩
    · split at k3
      · rename_i fs hfs
        exact ⟨fs, hfs, eq_of_beq k3⟩
      · cases k3
    · have := List.all_eq_true.1 k4 p hp
      split at this
      · rename_i d hd
        exact ⟨d, hd, this⟩
      · cases this
end V
end Go.Proofs.YtbmbmcdaabhgnaaDoor
end
section
namespace Go.Proofs.YtbmbmcdaabhgnaaDoor
namespace V
open Go.RowKit
def lists : Lists where
  ty := [(2, 1, false), (3, 1, false), (4, 1, false), (5, 1, false), (9, 1, false), (20, 1, false), (22, 1, false), (24, 4, true), (25, 1, false), (29, 1, false), (30, 1, false), (31, 1, false), (32, 2, true), (33, 2, true), (39, 7, true), (41, 1, false), (42, 1, false), (43, 1, false), (45, 2, true), (47, 3, true), (54, 1, false), (55, 1, false), (57, 4, true), (60, 2, true), (62, 4, true), (63, 1, false), (64, 1, false), (65, 1, false), (73, 1, false), (75, 6, true), (96, 1, false), (97, 1, false), (102, 1, false), (104, 1, false), (107, 1, false), (116, 1, false)]
  zero := [(2, [.int .i64 0]), (3, [.int .i64 0]), (4, [.bool false]), (5, [.int .u8 0]), (9, [.string ⟨#[]⟩]), (20, [.nilIface]), (22, [.slice none 0 0]), (24, [.int .i64 0, .int .i64 0, .string ⟨#[]⟩, .slice none 0 0]), (25, [.int .i64 0]), (29, [.nilFunc]), (30, [.slice none 0 0]), (31, [.slice none 0 0]), (32, [.slice none 0 0, .slice none 0 0]), (33, [.slice none 0 0, .slice none 0 0]), (39, [.int .i64 0, .int .i64 0, .string ⟨#[]⟩, .string ⟨#[]⟩, .slice none 0 0, .slice none 0 0, .slice none 0 0]), (41, [.pointer none]), (42, [.pointer none]), (43, [.slice none 0 0]), (45, [.pointer none, .slice none 0 0]), (47, [.pointer none, .slice none 0 0, .int .i64 0]), (54, [.slice none 0 0]), (55, [.slice none 0 0]), (57, [.string ⟨#[]⟩, .string ⟨#[]⟩, .slice none 0 0, .slice none 0 0]), (60, [.string ⟨#[]⟩, .string ⟨#[]⟩]), (62, [.string ⟨#[]⟩, .string ⟨#[]⟩, .slice none 0 0, .slice none 0 0]), (63, [.slice none 0 0]), (64, [.nilFunc]), (65, [.nilFunc]), (73, [.nilFunc]), (75, [.int .i64 0, .int .i64 0, .bool false, .int .i64 0, .int .i64 0, .string ⟨#[]⟩]), (96, [.nilFunc]), (97, [.nilFunc]), (102, [.pointer none]), (104, [.int .u64 0]), (107, [.int .u64 0]), (116, [.int .u32 0])]
  elem := [(22, 24, 4), (30, 57, 4), (31, 39, 7), (43, 5, 1), (54, 60, 2), (55, 62, 4), (63, 9, 1)]
  off := [((24, 0), 0, 1, false), ((24, 1), 1, 1, false), ((24, 2), 2, 1, false), ((24, 3), 3, 1, false), ((32, 0), 0, 1, false), ((32, 1), 1, 1, false), ((33, 0), 0, 1, false), ((33, 1), 1, 1, false), ((39, 0), 0, 1, false), ((39, 1), 1, 1, false), ((39, 2), 2, 1, false), ((39, 3), 3, 1, false), ((39, 4), 4, 1, false), ((39, 5), 5, 1, false), ((39, 6), 6, 1, false), ((45, 0), 0, 1, false), ((45, 1), 1, 1, false), ((47, 0), 0, 2, true), ((47, 1), 2, 1, false), ((57, 0), 0, 1, false), ((57, 1), 1, 1, false), ((57, 2), 2, 1, false), ((57, 3), 3, 1, false), ((60, 0), 0, 1, false), ((60, 1), 1, 1, false), ((62, 0), 0, 1, false), ((62, 1), 1, 1, false), ((62, 2), 2, 1, false), ((62, 3), 3, 1, false), ((75, 0), 0, 1, false), ((75, 1), 1, 1, false), ((75, 2), 2, 1, false), ((75, 3), 3, 1, false), ((75, 4), 4, 1, false), ((75, 5), 5, 1, false)]
  bool := [4]
  fields := [(24, [(0, 1), (1, 1), (2, 1), (3, 1)]), (32, [(0, 1), (1, 1)]), (33, [(0, 1), (1, 1)]), (39, [(0, 1), (1, 1), (2, 1), (3, 1), (4, 1), (5, 1), (6, 1)]), (45, [(0, 1), (1, 1)]), (47, [(0, 2), (2, 1)]), (57, [(0, 1), (1, 1), (2, 1), (3, 1)]), (60, [(0, 1), (1, 1)]), (62, [(0, 1), (1, 1), (2, 1), (3, 1)]), (75, [(0, 1), (1, 1), (2, 1), (3, 1), (4, 1), (5, 1)])]
  bytes := [(2, 8), (3, 8), (4, 1), (5, 1), (9, 16), (20, 16), (22, 24), (24, 56), (25, 8), (29, 8), (30, 24), (31, 24), (32, 48), (33, 48), (39, 120), (41, 8), (42, 8), (43, 24), (45, 32), (47, 40), (54, 24), (55, 24), (57, 80), (60, 32), (62, 80), (63, 24), (64, 8), (65, 8), (73, 8), (75, 56), (96, 8), (97, 8), (102, 8), (104, 8), (107, 8), (116, 4)]
  nilk := [(20, 4), (22, 1), (29, 3), (30, 1), (31, 1), (41, 0), (42, 0), (43, 1), (54, 1), (55, 1), (63, 1), (64, 3), (65, 3), (73, 3), (96, 3), (97, 3), (102, 0)]
  int := [(2, .i64), (3, .i64), (5, .u8), (25, .i64), (104, .u64), (107, .u64), (116, .u32)]
  map := []
  str := [9]
  one := [(2, .int .i64 0), (3, .int .i64 0), (4, .bool false), (5, .int .u8 0), (9, .string ⟨#[]⟩), (20, .nilIface), (22, .slice none 0 0), (25, .int .i64 0), (29, .nilFunc), (30, .slice none 0 0), (31, .slice none 0 0), (41, .pointer none), (42, .pointer none), (43, .slice none 0 0), (54, .slice none 0 0), (55, .slice none 0 0), (63, .slice none 0 0), (64, .nilFunc), (65, .nilFunc), (73, .nilFunc), (96, .nilFunc), (97, .nilFunc), (102, .pointer none), (104, .int .u64 0), (107, .int .u64 0), (116, .int .u32 0)]
  seq := [(60, [(9, 0), (9, 1)]), (75, [(3, 0), (3, 1), (4, 2), (2, 3), (3, 4), (9, 5)])]
  eff := [23, 16, 40, 24, 26, 51, 48, 74, 42, 41, 17]
def tab : Tab := lists.tab
theorem tab_ok : tab.Ok Tryd.prog :=
  Lists.ok (by kernel_rfl) (⟨⟨by kernel_rfl, rfl⟩, ⟨⟨by kernel_rfl, rfl⟩, ⟨⟨by kernel_rfl, rfl⟩, ⟨⟨by kernel_rfl, rfl⟩, ⟨⟨by kernel_rfl, rfl⟩, ⟨⟨by kernel_rfl, rfl⟩, ⟨⟨by kernel_rfl, rfl⟩, ⟨⟨by kernel_rfl, rfl⟩, ⟨⟨by kernel_rfl, rfl⟩, ⟨⟨by kernel_rfl, rfl⟩, ⟨⟨by kernel_rfl, rfl⟩, ⟨⟨by kernel_rfl, rfl⟩, ⟨⟨by kernel_rfl, rfl⟩, ⟨⟨by kernel_rfl, rfl⟩, ⟨⟨by kernel_rfl, rfl⟩, ⟨⟨by kernel_rfl, rfl⟩, ⟨⟨by kernel_rfl, rfl⟩, ⟨⟨by kernel_rfl, rfl⟩, ⟨⟨by kernel_rfl, rfl⟩, ⟨⟨by kernel_rfl, rfl⟩, ⟨⟨by kernel_rfl, rfl⟩, ⟨⟨by kernel_rfl, rfl⟩, ⟨⟨by kernel_rfl, rfl⟩, ⟨⟨by kernel_rfl, rfl⟩, ⟨⟨by kernel_rfl, rfl⟩, ⟨⟨by kernel_rfl, rfl⟩, ⟨⟨by kernel_rfl, rfl⟩, ⟨⟨by kernel_rfl, rfl⟩, ⟨⟨by kernel_rfl, rfl⟩, ⟨⟨by kernel_rfl, rfl⟩, ⟨⟨by kernel_rfl, rfl⟩, ⟨⟨by kernel_rfl, rfl⟩, ⟨⟨by kernel_rfl, rfl⟩, ⟨⟨by kernel_rfl, rfl⟩, ⟨⟨by kernel_rfl, rfl⟩, ⟨⟨by kernel_rfl, rfl⟩, trivial⟩⟩⟩⟩⟩⟩⟩⟩⟩⟩⟩⟩⟩⟩⟩⟩⟩⟩⟩⟩⟩⟩⟩⟩⟩⟩⟩⟩⟩⟩⟩⟩⟩⟩⟩⟩) (by kernel_rfl) (by kernel_rfl) (by kernel_rfl) (by kernel_rfl) (by kernel_rfl) (by kernel_rfl) (by kernel_rfl) (by kernel_rfl) (by kernel_rfl) (⟨⟨by kernel_rfl, rfl⟩, ⟨⟨by kernel_rfl, rfl⟩, ⟨⟨by kernel_rfl, rfl⟩, ⟨⟨by kernel_rfl, rfl⟩, ⟨⟨by kernel_rfl, rfl⟩, ⟨⟨by kernel_rfl, rfl⟩, ⟨⟨by kernel_rfl, rfl⟩, ⟨⟨by kernel_rfl, rfl⟩, ⟨⟨by kernel_rfl, rfl⟩, ⟨⟨by kernel_rfl, rfl⟩, ⟨⟨by kernel_rfl, rfl⟩, ⟨⟨by kernel_rfl, rfl⟩, ⟨⟨by kernel_rfl, rfl⟩, ⟨⟨by kernel_rfl, rfl⟩, ⟨⟨by kernel_rfl, rfl⟩, ⟨⟨by kernel_rfl, rfl⟩, ⟨⟨by kernel_rfl, rfl⟩, ⟨⟨by kernel_rfl, rfl⟩, ⟨⟨by kernel_rfl, rfl⟩, ⟨⟨by kernel_rfl, rfl⟩, ⟨⟨by kernel_rfl, rfl⟩, ⟨⟨by kernel_rfl, rfl⟩, ⟨⟨by kernel_rfl, rfl⟩, ⟨⟨by kernel_rfl, rfl⟩, ⟨⟨by kernel_rfl, rfl⟩, ⟨⟨by kernel_rfl, rfl⟩, trivial⟩⟩⟩⟩⟩⟩⟩⟩⟩⟩⟩⟩⟩⟩⟩⟩⟩⟩⟩⟩⟩⟩⟩⟩⟩⟩) (by kernel_rfl)
set_option maxRecDepth 10000 in
theorem tabs : tab.ty 2 = some (1, false) ∧ tab.ty 3 = some (1, false) ∧ tab.ty 4 = some (1, false) ∧ tab.ty 5 = some (1, false) ∧ tab.ty 9 = some (1, false) ∧ tab.ty 20 = some (1, false) ∧ tab.ty 22 = some (1, false) ∧ tab.ty 24 = some (4, true) ∧ tab.ty 25 = some (1, false) ∧ tab.ty 29 = some (1, false) ∧ tab.ty 30 = some (1, false) ∧ tab.ty 31 = some (1, false) ∧ tab.ty 32 = some (2, true) ∧ tab.ty 33 = some (2, true) ∧ tab.ty 39 = some (7, true) ∧ tab.ty 41 = some (1, false) ∧ tab.ty 42 = some (1, false) ∧ tab.ty 43 = some (1, false) ∧ tab.ty 45 = some (2, true) ∧ tab.ty 47 = some (3, true) ∧ tab.ty 54 = some (1, false) ∧ tab.ty 55 = some (1, false) ∧ tab.ty 57 = some (4, true) ∧ tab.ty 60 = some (2, true) ∧ tab.ty 62 = some (4, true) ∧ tab.ty 63 = some (1, false) ∧ tab.ty 64 = some (1, false) ∧ tab.ty 65 = some (1, false) ∧ tab.ty 73 = some (1, false) ∧ tab.ty 75 = some (6, true) ∧ tab.ty 96 = some (1, false) ∧ tab.ty 97 = some (1, false) ∧ tab.ty 102 = some (1, false) ∧ tab.ty 104 = some (1, false) ∧ tab.ty 107 = some (1, false) ∧ tab.ty 116 = some (1, false) ∧ tab.elem 22 = some (24, 4) ∧ tab.elem 30 = some (57, 4) ∧ tab.elem 31 = some (39, 7) ∧ tab.elem 43 = some (5, 1) ∧ tab.elem 54 = some (60, 2) ∧ tab.elem 55 = some (62, 4) ∧ tab.elem 63 = some (9, 1) ∧ tab.off 24 0 = some (0, 1, false) ∧ tab.off 24 1 = some (1, 1, false) ∧ tab.off 24 2 = some (2, 1, false) ∧ tab.off 24 3 = some (3, 1, false) ∧ tab.off 32 0 = some (0, 1, false) ∧ tab.off 32 1 = some (1, 1, false) ∧ tab.off 33 0 = some (0, 1, false) ∧ tab.off 33 1 = some (1, 1, false) ∧ tab.off 39 0 = some (0, 1, false) ∧ tab.off 39 1 = some (1, 1, false) ∧ tab.off 39 2 = some (2, 1, false) ∧ tab.off 39 3 = some (3, 1, false) ∧ tab.off 39 4 = some (4, 1, false) ∧ tab.off 39 5 = some (5, 1, false) ∧ tab.off 39 6 = some (6, 1, false) ∧ tab.off 45 0 = some (0, 1, false) ∧ tab.off 45 1 = some (1, 1, false) ∧ tab.off 47 0 = some (0, 2, true) ∧ tab.off 47 1 = some (2, 1, false) ∧ tab.off 57 0 = some (0, 1, false) ∧ tab.off 57 1 = some (1, 1, false) ∧ tab.off 57 2 = some (2, 1, false) ∧ tab.off 57 3 = some (3, 1, false) ∧ tab.off 60 0 = some (0, 1, false) ∧ tab.off 60 1 = some (1, 1, false) ∧ tab.off 62 0 = some (0, 1, false) ∧ tab.off 62 1 = some (1, 1, false) ∧ tab.off 62 2 = some (2, 1, false) ∧ tab.off 62 3 = some (3, 1, false) ∧ tab.off 75 0 = some (0, 1, false) ∧ tab.off 75 1 = some (1, 1, false) ∧ tab.off 75 2 = some (2, 1, false) ∧ tab.off 75 3 = some (3, 1, false) ∧ tab.off 75 4 = some (4, 1, false) ∧ tab.off 75 5 = some (5, 1, false) ∧ tab.bytes 5 = some 1 ∧ tab.bytes 9 = some 16 ∧ tab.bytes 24 = some 56 ∧ tab.bytes 39 = some 120 ∧ tab.bytes 57 = some 80 ∧ tab.bytes 60 = some 32 ∧ tab.bytes 62 = some 80 ∧ tab.fields 24 = some [(0, 1), (1, 1), (2, 1), (3, 1)] ∧ tab.fields 32 = some [(0, 1), (1, 1)] ∧ tab.fields 33 = some [(0, 1), (1, 1)] ∧ tab.fields 39 = some [(0, 1), (1, 1), (2, 1), (3, 1), (4, 1), (5, 1), (6, 1)] ∧ tab.fields 45 = some [(0, 1), (1, 1)] ∧ tab.fields 47 = some [(0, 2), (2, 1)] ∧ tab.fields 57 = some [(0, 1), (1, 1), (2, 1), (3, 1)] ∧ tab.fields 60 = some [(0, 1), (1, 1)] ∧ tab.fields 62 = some [(0, 1), (1, 1), (2, 1), (3, 1)] ∧ tab.fields 75 = some [(0, 1), (1, 1), (2, 1), (3, 1), (4, 1), (5, 1)] ∧ tab.zero 2 = some [.int .i64 0] ∧ tab.zero 3 = some [.int .i64 0] ∧ tab.zero 4 = some [.bool false] ∧ tab.zero 5 = some [.int .u8 0] ∧ tab.zero 9 = some [.string ⟨#[]⟩] ∧ tab.zero 20 = some [.nilIface] ∧ tab.zero 22 = some [.slice none 0 0] ∧ tab.zero 24 = some [.int .i64 0, .int .i64 0, .string ⟨#[]⟩, .slice none 0 0] ∧ tab.zero 25 = some [.int .i64 0] ∧ tab.zero 29 = some [.nilFunc] ∧ tab.zero 30 = some [.slice none 0 0] ∧ tab.zero 31 = some [.slice none 0 0] ∧ tab.zero 32 = some [.slice none 0 0, .slice none 0 0] ∧ tab.zero 33 = some [.slice none 0 0, .slice none 0 0] ∧ tab.zero 39 = some [.int .i64 0, .int .i64 0, .string ⟨#[]⟩, .string ⟨#[]⟩, .slice none 0 0, .slice none 0 0, .slice none 0 0] ∧ tab.zero 41 = some [.pointer none] ∧ tab.zero 42 = some [.pointer none] ∧ tab.zero 43 = some [.slice none 0 0] ∧ tab.zero 45 = some [.pointer none, .slice none 0 0] ∧ tab.zero 47 = some [.pointer none, .slice none 0 0, .int .i64 0] ∧ tab.zero 54 = some [.slice none 0 0] ∧ tab.zero 55 = some [.slice none 0 0] ∧ tab.zero 57 = some [.string ⟨#[]⟩, .string ⟨#[]⟩, .slice none 0 0, .slice none 0 0] ∧ tab.zero 60 = some [.string ⟨#[]⟩, .string ⟨#[]⟩] ∧ tab.zero 62 = some [.string ⟨#[]⟩, .string ⟨#[]⟩, .slice none 0 0, .slice none 0 0] ∧ tab.zero 63 = some [.slice none 0 0] ∧ tab.zero 64 = some [.nilFunc] ∧ tab.zero 65 = some [.nilFunc] ∧ tab.zero 73 = some [.nilFunc] ∧ tab.zero 75 = some [.int .i64 0, .int .i64 0, .bool false, .int .i64 0, .int .i64 0, .string ⟨#[]⟩] ∧ tab.zero 96 = some [.nilFunc] ∧ tab.zero 97 = some [.nilFunc] ∧ tab.zero 102 = some [.pointer none] ∧ tab.zero 104 = some [.int .u64 0] ∧ tab.zero 107 = some [.int .u64 0] ∧ tab.zero 116 = some [.int .u32 0] ∧ tab.bool 4 = true ∧ tab.nilk 20 = some 4 ∧ tab.nilk 22 = some 1 ∧ tab.nilk 29 = some 3 ∧ tab.nilk 30 = some 1 ∧ tab.nilk 31 = some 1 ∧ tab.nilk 41 = some 0 ∧ tab.nilk 42 = some 0 ∧ tab.nilk 43 = some 1 ∧ tab.nilk 54 = some 1 ∧ tab.nilk 55 = some 1 ∧ tab.nilk 63 = some 1 ∧ tab.nilk 64 = some 3 ∧ tab.nilk 65 = some 3 ∧ tab.nilk 73 = some 3 ∧ tab.nilk 96 = some 3 ∧ tab.nilk 97 = some 3 ∧ tab.nilk 102 = some 0 ∧ tab.int 2 = some .i64 ∧ tab.int 3 = some .i64 ∧ tab.int 5 = some .u8 ∧ tab.int 25 = some .i64 ∧ tab.int 104 = some .u64 ∧ tab.int 107 = some .u64 ∧ tab.int 116 = some .u32 ∧ tab.str 9 = true ∧ tab.one 2 = some (.int .i64 0) ∧ tab.one 3 = some (.int .i64 0) ∧ tab.one 4 = some (.bool false) ∧ tab.one 5 = some (.int .u8 0) ∧ tab.one 9 = some (.string ⟨#[]⟩) ∧ tab.one 20 = some (.nilIface) ∧ tab.one 22 = some (.slice none 0 0) ∧ tab.one 25 = some (.int .i64 0) ∧ tab.one 29 = some (.nilFunc) ∧ tab.one 30 = some (.slice none 0 0) ∧ tab.one 31 = some (.slice none 0 0) ∧ tab.one 41 = some (.pointer none) ∧ tab.one 42 = some (.pointer none) ∧ tab.one 43 = some (.slice none 0 0) ∧ tab.one 54 = some (.slice none 0 0) ∧ tab.one 55 = some (.slice none 0 0) ∧ tab.one 63 = some (.slice none 0 0) ∧ tab.one 64 = some (.nilFunc) ∧ tab.one 65 = some (.nilFunc) ∧ tab.one 73 = some (.nilFunc) ∧ tab.one 96 = some (.nilFunc) ∧ tab.one 97 = some (.nilFunc) ∧ tab.one 102 = some (.pointer none) ∧ tab.one 104 = some (.int .u64 0) ∧ tab.one 107 = some (.int .u64 0) ∧ tab.one 116 = some (.int .u32 0) ∧ tab.one 24 = none ∧ tab.one 32 = none ∧ tab.one 33 = none ∧ tab.one 39 = none ∧ tab.one 45 = none ∧ tab.one 47 = none ∧ tab.one 57 = none ∧ tab.one 60 = none ∧ tab.one 62 = none ∧ tab.one 75 = none ∧ tab.seq 60 = some [(9, 0), (9, 1)] ∧ tab.seq 75 = some [(3, 0), (3, 1), (4, 2), (2, 3), (3, 4), (9, 5)] ∧ tab.eff 0 = false ∧ tab.eff 1 = false ∧ tab.eff 2 = false ∧ tab.eff 3 = false ∧ tab.eff 4 = false ∧ tab.eff 5 = false ∧ tab.eff 6 = false ∧ tab.eff 7 = false ∧ tab.eff 8 = false ∧ tab.eff 9 = false ∧ tab.eff 10 = false ∧ tab.eff 11 = false ∧ tab.eff 12 = false ∧ tab.eff 13 = false ∧ tab.eff 14 = false ∧ tab.eff 15 = false ∧ tab.eff 16 = true ∧ tab.eff 17 = true ∧ tab.eff 18 = false ∧ tab.eff 19 = false ∧ tab.eff 20 = false ∧ tab.eff 21 = false ∧ tab.eff 22 = false ∧ tab.eff 23 = true ∧ tab.eff 24 = true ∧ tab.eff 25 = false ∧ tab.eff 26 = true ∧ tab.eff 27 = false ∧ tab.eff 28 = false ∧ tab.eff 29 = false ∧ tab.eff 30 = false ∧ tab.eff 31 = false ∧ tab.eff 32 = false ∧ tab.eff 33 = false ∧ tab.eff 34 = false ∧ tab.eff 35 = false ∧ tab.eff 36 = false ∧ tab.eff 37 = false ∧ tab.eff 38 = false ∧ tab.eff 39 = false ∧ tab.eff 40 = true ∧ tab.eff 41 = true ∧ tab.eff 42 = true ∧ tab.eff 43 = false ∧ tab.eff 44 = false ∧ tab.eff 45 = false ∧ tab.eff 46 = false ∧ tab.eff 47 = false ∧ tab.eff 48 = true ∧ tab.eff 49 = false ∧ tab.eff 50 = false ∧ tab.eff 51 = true ∧ tab.eff 52 = false ∧ tab.eff 53 = false ∧ tab.eff 54 = false ∧ tab.eff 55 = false ∧ tab.eff 56 = false ∧ tab.eff 57 = false ∧ tab.eff 58 = false ∧ tab.eff 59 = false ∧ tab.eff 60 = false ∧ tab.eff 61 = false ∧ tab.eff 62 = false ∧ tab.eff 63 = false ∧ tab.eff 64 = false ∧ tab.eff 65 = false ∧ tab.eff 66 = false ∧ tab.eff 67 = false ∧ tab.eff 68 = false ∧ tab.eff 69 = false ∧ tab.eff 70 = false ∧ tab.eff 71 = false ∧ tab.eff 72 = false ∧ tab.eff 73 = false ∧ tab.eff 74 = true ∧ tab.eff 75 = false ∧ tab.eff 76 = false ∧ tab.eff 77 = false ∧ tab.eff 78 = false ∧ tab.eff 79 = false ∧ tab.eff 80 = false ∧ tab.eff 81 = false ∧ tab.eff 82 = false ∧ tab.eff 83 = false ∧ tab.eff 84 = false ∧ tab.eff 85 = false ∧ tab.eff 86 = false ∧ tab.eff 87 = false ∧ tab.eff 88 = false ∧ tab.eff 89 = false ∧ tab.eff 90 = false ∧ tab.eff 91 = false ∧ tab.eff 92 = false ∧ tab.eff 93 = false ∧ tab.eff 94 = false ∧ tab.eff 95 = false ∧ tab.eff 96 = false ∧ tab.eff 97 = false ∧ tab.eff 98 = false ∧ tab.eff 99 = false ∧ tab.eff 100 = false ∧ tab.eff 101 = false ∧ tab.eff 102 = false ∧ tab.eff 103 = false ∧ tab.eff 104 = false ∧ tab.eff 105 = false ∧ tab.eff 106 = false ∧ tab.eff 107 = false ∧ tab.eff 108 = false ∧ tab.eff 109 = false ∧ tab.eff 110 = false ∧ tab.eff 111 = false ∧ tab.eff 112 = false ∧ tab.eff 113 = false ∧ tab.eff 114 = false ∧ tab.eff 115 = false ∧ tab.eff 116 = false ∧ tab.eff 117 = false ∧ tab.eff 118 = false ∧ tab.eff 119 = false ∧ tab.eff 120 = false ∧ tab.eff 121 = false ∧ tab.eff 122 = false ∧ tab.eff 123 = false ∧ tab.eff 124 = false ∧ tab.eff 125 = false ∧ tab.eff 126 = false ∧ tab.eff 127 = false ∧ tab.eff 128 = false ∧ tab.eff 129 = false ∧ tab.eff 130 = false ∧ tab.eff 131 = false ∧ tab.eff 132 = false ∧ tab.eff 133 = false ∧ tab.eff 134 = false ∧ tab.eff 135 = false ∧ tab.eff 136 = false ∧ tab.lit = false :=
  ⟨rfl, rfl, rfl, rfl, rfl, rfl, rfl, rfl, rfl, rfl, rfl, rfl, rfl, rfl, rfl, rfl, rfl, rfl, rfl, rfl, rfl, rfl, rfl, rfl, rfl, rfl, rfl, rfl, rfl, rfl, rfl, rfl, rfl, rfl, rfl, rfl, rfl, rfl, rfl, rfl, rfl, rfl, rfl, rfl, rfl, rfl, rfl, rfl, rfl, rfl, rfl, rfl, rfl, rfl, rfl, rfl, rfl, rfl, rfl, rfl, rfl, rfl, rfl, rfl, rfl, rfl, rfl, rfl, rfl, rfl, rfl, rfl, rfl, rfl, rfl, rfl, rfl, rfl, rfl, rfl, rfl, rfl, rfl, rfl, rfl, rfl, rfl, rfl, rfl, rfl, rfl, rfl, rfl, rfl, rfl, rfl, rfl, rfl, rfl, rfl, rfl, rfl, rfl, rfl, rfl, rfl, rfl, rfl, rfl, rfl, rfl, rfl, rfl, rfl, rfl, rfl, rfl, rfl, rfl, rfl, rfl, rfl, rfl, rfl, rfl, rfl, rfl, rfl, rfl, rfl, rfl, rfl, rfl, rfl, rfl, rfl, rfl, rfl, rfl, rfl, rfl, rfl, rfl, rfl, rfl, rfl, rfl, rfl, rfl, rfl, rfl, rfl, rfl, rfl, rfl, rfl, rfl, rfl, rfl, rfl, rfl, rfl, rfl, rfl, rfl, rfl, rfl, rfl, rfl, rfl, rfl, rfl, rfl, rfl, rfl, rfl, rfl, rfl, rfl, rfl, rfl, rfl, rfl, rfl, rfl, rfl, rfl, rfl, rfl, rfl, rfl, rfl, rfl, rfl, rfl, rfl, rfl, rfl, rfl, rfl, rfl, rfl, rfl, rfl, rfl, rfl, rfl, rfl, rfl, rfl, rfl, rfl, rfl, rfl, rfl, rfl, rfl, rfl, rfl, rfl, rfl, rfl, rfl, rfl, rfl, rfl, rfl, rfl, rfl, rfl, rfl, rfl, rfl, rfl, rfl, rfl, rfl, rfl, rfl, rfl, rfl, rfl, rfl, rfl, rfl, rfl, rfl, rfl, rfl, rfl, rfl, rfl, rfl, rfl, rfl, rfl, rfl, rfl, rfl, rfl, rfl, rfl, rfl, rfl, rfl, rfl, rfl, rfl, rfl, rfl, rfl, rfl, rfl, rfl, rfl, rfl, rfl, rfl, rfl, rfl, rfl, rfl, rfl, rfl, rfl, rfl, rfl, rfl, rfl, rfl, rfl, rfl, rfl, rfl, rfl, rfl, rfl, rfl, rfl, rfl, rfl, rfl, rfl, rfl, rfl, rfl, rfl, rfl, rfl, rfl, rfl, rfl, rfl, rfl, rfl, rfl, rfl, rfl, rfl, rfl, rfl, rfl, rfl, rfl, rfl, rfl, rfl, rfl, rfl, rfl, rfl, rfl, rfl⟩
theorem follows_mixed : Tryd.prog.follows .mixedOrders = true := by kernel_rfl
end V
end Go.Proofs.YtbmbmcdaabhgnaaDoor
end
section
namespace Go.Proofs.YtbmbmcdaabhgnaaDoor
namespace V
open Go.RowKit
def stepQ (T : Tab) (base : Nat) (ops : Array Oper) (o : Oper) (st : St) : Option St :=
  match wantA ops o st.s with
  | some true => (match kind T o.op with
    | .store => (match o.op with
      | .store ty x v => (match adrId (ev st.s x), o.dst with
        | some j, none => (match st.m j with
          | some b => (match stO T ty (ev st.s x) (ev st.s v) b with | some b' => some ⟨st.s, upd st.m j (some b')⟩ | none => none)
          | none => none)
        | _, _ => none)
      | _ => none)
    | .barrier => none
    | _ => (match o.dst with
      | some d => (match qv T st.s st.m (base + d) o.op with
        | some (r, none) => some ⟨upd st.s d r, st.m⟩
        | some (r, some x) => (match st.m (base + d) with | none => some ⟨upd st.s d r, upd st.m (base + d) (some x)⟩ | some _ => none)
        | none => none)
      | none => none))
  | some false => (match o.dst with | some d => some ⟨upd st.s d .undef, st.m⟩ | none => some st)
  | none => none
def exec (T : Tab) (base : Nat) (ops : Array Oper) : List Oper → St → Option St
  | [], st => some st
  | o :: l, st => match stepQ T base ops o st with | some st1 => exec T base ops l st1 | none => none
section
variable {P : Go.Program} {T : Tab} {kp : Nat → Prop} {base : Nat} {ops : Array Oper}
theorem stepQ_hs {o : Oper} {st st' : St} (h : stepQ T base ops o st = some st') : HS P T kp base ops o st st' := by
  unfold stepQ at h
  split at h
  · rename_i hw
    split at h
    · split at h
      · rename_i ty x v hop
        split at h
        · rename_i j hx hd
          split at h
          · rename_i b hj
            split at h
            · rename_i b' hn
              cases h
              exact .store ⟨hw, hop, hd, hx, hj, hn⟩
            · cases h
          · cases h
        · cases h
      · cases h
    · cases h
    · split at h
      · rename_i d hd
        have hid : idOf base o = base + d := by simp [idOf, hd]
        split at h
        · rename_i r hq
          cases h
          have := HS.val (P := P) (T := T) (kp := kp) (HV.val (base := base) hw (by rw [hid]; exact hq) (fun h => by cases h) (fun h => by cases h))
          rw [hd] at this
          exact this
        · rename_i r x hq
          split at h
          · rename_i hm
            cases h
            have := HS.val (P := P) (T := T) (kp := kp) (HV.val (base := base) hw (by rw [hid]; exact hq) (fun _ => by rw [hid]; exact hm) (fun _ => by rw [hd]; rfl))
            rw [hd, hid] at this
            exact this
          · cases h
        · cases h
      · cases h
  · rename_i hw
    have := HS.val (P := P) (T := T) (base := base) (kp := kp) (HV.skip hw)
    split at h
    · rename_i d hd
      cases h
      rw [hd] at this
      exact this
    · rename_i hd
      cases h
      rw [hd] at this
      exact this
  · cases h
theorem exec_run : ∀ {l : List Oper} {st st' : St}, exec T base ops l st = some st' → RunL P T kp base ops l st st'
  | [], st, st', h => by simp [exec] at h; subst h; exact .nil _
  | o :: l, st, st', h => by
    simp only [exec] at h
    split at h
    · rename_i st1 h1
      exact .cons (stepQ_hs h1) (exec_run h)
    · cases h
theorem RunL.append {l1 l2 : List Oper} {st st1 st2 : St} (h : RunL P T kp base ops l1 st st1) (k : RunL P T kp base ops l2 st1 st2) : RunL P T kp base ops (l1 ++ l2) st st2 := by
  induction h with
  | nil => exact k
  | cons h _ ih => exact .cons h (ih k)
theorem run_split {l : List Oper} {st st1 st2 : St} (i : Nat) (h : exec T base ops (l.take i) st = some st1) (k : RunL P T kp base ops (l.drop i) st1 st2) : RunL P T kp base ops l st st2 := by
  have := (exec_run (P := P) (kp := kp) h).append k
  rwa [List.take_append_drop] at this
def RunK (P : Go.Program) (T : Tab) (kp : Nat → Prop) (base : Nat) (ops : Array Oper) (l : List Oper) (st : St) (k : St → Prop) : Prop := ∃ st', RunL P T kp base ops l st st' ∧ k st'
theorem runk_exec {l : List Oper} {st st' : St} {k : St → Prop} (h : exec T base ops l st = some st') (hk : k st') : RunK P T kp base ops l st k := ⟨st', exec_run h, hk⟩
theorem runk_split {l : List Oper} {st st1 : St} {k : St → Prop} (i : Nat) (h : exec T base ops (l.take i) st = some st1) (hk : RunK P T kp base ops (l.drop i) st1 k) : RunK P T kp base ops l st k :=
  let ⟨st', h1, h2⟩ := hk
  ⟨st', run_split i h h1, h2⟩
theorem runk_step {o : Oper} {l : List Oper} {st st1 : St} {k : St → Prop} (h : HS P T kp base ops o st st1) (ht : RunK P T kp base ops l st1 k) : RunK P T kp base ops (o :: l) st k :=
  let ⟨st', h1, h2⟩ := ht
  ⟨st', .cons h h1, h2⟩
theorem runk_call {o : Oper} {l : List Oper} {st : St} {k : St → Prop} {r : A} {c : Call} {x : Operand} {f : FuncId} {ids : List Nat} {args : List A} {d : Nat} (h : wantA ops o st.s = some true) (hop : o.op = .call c) (hc : c.callee = .value x) (hx : ev st.s x = .fn f ids) (hd : o.dst = some d) (hb : ∀ j ∈ ids, ∃ ty cells, st.m j = some (.box ty cells))
    (ha : Cvs st.m (c.args.toList.map (ev st.s) ++ ids.map (A.ptr · 0)) args) (hk : COk P f args st.m r) (ht : RunK P T kp base ops l ⟨upd st.s d r, st.m⟩ k) : RunK P T kp base ops (o :: l) st k := by
  refine runk_step (st1 := ⟨upd st.s d r, st.m⟩) ?_ ht
  have := HS.val (P := P) (T := T) (base := base) (ops := ops) (o := o) (kp := kp) (HV.call h hop hc hx hb ha hk)
  rw [hd] at this
  exact this
theorem runk_callR {o : Oper} {l : List Oper} {st : St} {k : St → Prop} {r : A} {c : Call} {x : Operand} {f : FuncId} {ids : List Nat} {args : List A} {d : Nat} (h : wantA ops o st.s = some true) (hop : o.op = .call c) (hc : c.callee = .value x) (hx : ev st.s x = .fn f ids) (hd : o.dst = some d) (hb : ∀ j ∈ ids, ∃ ty cells, st.m j = some (.box ty cells))
    (ha : CvRs st.m (c.args.toList.map (ev st.s) ++ ids.map (A.ptr · 0)) args) (hi : args.all (fun a => a.ids.isEmpty) = true) (hf : flatA r = true) (hk : ∀ m, COk P f args m r) (ht : RunK P T kp base ops l ⟨upd st.s d r, st.m⟩ k) : RunK P T kp base ops (o :: l) st k := by
  refine runk_step (st1 := ⟨upd st.s d r, st.m⟩) ?_ ht
  have := HS.val (P := P) (T := T) (base := base) (ops := ops) (o := o) (kp := kp) (HV.callR h hop hc hx hb ha (fun a ha => by have := List.all_eq_true.1 hi a ha; simpa using this) hf hk)
  rw [hd] at this
  exact this
theorem runk_callE {o : Oper} {l : List Oper} {st : St} {k : St → Prop} {r : A} {c : Call} {x : Operand} {f : FuncId} {ids : List Nat} {args : List A} {D : List Nat} {M' : Mem} (h : wantA ops o st.s = some true) (hop : o.op = .call c) (hc : c.callee = .value x) (hbar : kind T o.op = .barrier) (hx : ev st.s x = .fn f ids) (hkp : ∀ j ∈ D, ¬ kp j) (hb : ∀ j ∈ ids, ∃ ty cells, st.m j = some (.box ty cells))
    (ha : Cvs st.m (c.args.toList.map (ev st.s) ++ ids.map (A.ptr · 0)) args) (hk : CallE P f args st.m D r M') (ht : RunK P T kp base ops l ⟨putS (killL D st.s) o.dst r, M'⟩ k) : RunK P T kp base ops (o :: l) st k :=
  runk_step (.eff (eff_call hkp hbar h hop hc hx hb ha hk)) ht
theorem W.regionK {R : Ref} {n : Nat} {ds : List Deferred} {st : St} {K : Exit → St → Prop} (hT : T.Ok P) (base : Nat) {id : Nat} (hd : dstOk n ops = true) (h : RunK P T R.keep base ops ops.toList st (K .normal)) : W P R n ds st (.region id ops false) K :=
  let ⟨_, h1, h2⟩ := h
  W.region hT base hd h1 h2
theorem W.regionDK {R : Ref} {n : Nat} {ds : List Deferred} {st : St} {K : Exit → St → Prop} (hT : T.Ok P) (base : Nat) {id : Nat} (hm : P.follows .mixedOrders = true) (hok : okRegion T ops = true) (hd : dstOk n ops = true) (h : RunK P T R.keep base ops ops.toList st (K .normal)) : W P R n ds st (.region id ops true) K :=
  let ⟨_, h1, h2⟩ := h
  W.regionD hT base hm hok hd h1 h2
theorem MR.newNil {w0 w : World} {I0 I : Nat → Nat → Prop} {B : Nat → Value} {m : Mem} (hm : MR w0 I0 B I m w) {id : Nat} (hid : m id = none) (fz : Bool) (ty e : Nat) : MR w0 I0 (upd B id (.slice none 0 0)) I (upd m id (some (rowO fz ty e []))) w := by
  have hne : ∀ j, (m j).isSome = true → j ≠ id := fun j hj e' => by subst e'; rw [hid] at hj; cases hj
  have hB : ∀ j, (m j).isSome = true → upd B id (.slice none 0 0) j = B j := fun j hj => upd_ne _ _ (hne j hj)
  have liv : ∀ j, (m j).isSome = true → (upd m id (some (rowO fz ty e [])) j).isSome = true := fun j hj => by rw [upd_ne _ _ (hne j hj)]; exact hj
  have other : ∀ {j : Nat} {z : O}, upd m id (some (rowO fz ty e [])) j = some z → (j = id ∧ z = rowO fz ty e []) ∨ (j ≠ id ∧ m j = some z) := fun {j z} hz => by
    unfold upd at hz
    split at hz
    · rename_i e'; exact .inl ⟨e', (Option.some.inj hz).symm⟩
    · rename_i e'; exact .inr ⟨e', hz⟩
  have nofoot : ∀ {k : Nat}, ¬ foot (upd B id (.slice none 0 0)) id (rowO fz ty e []) k := fun {k} hk => by cases fz <;> simp [rowO, foot, upd_same, Value.ownBlock] at hk
  have live : ∀ {j : Nat} {z : O}, m j = some z → (m j).isSome = true := fun {j z} hj => by simp [hj]
  refine ⟨hm.below, hm.glob, hm.base, hm.old, hm.there, fun j z hz => ?_, fun j z hz k hk => ?_, fun j z j' z' hz hz' hne' k hk hk' => ?_, fun j z hz i hi => ?_⟩
  · rcases other hz with ⟨rfl, rfl⟩ | ⟨hj, ho⟩
    · cases fz with
      | true => exact ⟨[], by rw [upd_same]; exact World.ownsRow_nil w 0 ty e, trivial, fun x hx => by simp at hx, fun b hb => by simp [upd_same, Value.ownBlock] at hb⟩
      | false => exact ⟨[], by rw [upd_same]; exact ⟨by simp, .inl ⟨rfl, rfl⟩⟩, trivial, fun x hx => by simp at hx, fun b hb => by simp [upd_same, Value.ownBlock] at hb⟩
    · exact RO.mono (Ext.refl _ _) (hB j (live ho)) (fun i hi => hB i (hm.live j z ho i hi)) (fun _ _ => rfl) (fun _ _ _ hp => hp) (hm.objs j z ho)
  · rcases other hz with ⟨rfl, rfl⟩ | ⟨hj, ho⟩
    · exact absurd hk nofoot
    · exact hm.low j z ho k ((foot_eq (hB j (live ho))).1 hk)
  · rcases other hz with ⟨rfl, rfl⟩ | ⟨hj, ho⟩
    · exact nofoot hk
    · rcases other hz' with ⟨rfl, rfl⟩ | ⟨hj', ho'⟩
      · exact nofoot hk'
      · exact hm.apart j z j' z' ho ho' hne' k ((foot_eq (hB j (live ho))).1 hk) ((foot_eq (hB j' (live ho'))).1 hk')
  · rcases other hz with ⟨rfl, rfl⟩ | ⟨hj, ho⟩
    · cases fz <;> simp [rowO, O.ids] at hi
    · exact liv i (hm.live j z ho i hi)
theorem W.newRowBox {R : Ref} {n : Nat} {ds : List Deferred} {st : St} {c : Code} {K : Exit → St → Prop} (fz : Bool) (j k id ty e : Nat) {tyb : TypeId} {cells : List A} (hj : st.m j = some (.box tyb cells)) (hk : cells[k]? = some .nil) (hid : st.m id = none)
    (h : W P R n ds ⟨st.s, upd (upd st.m id (some (rowO fz ty e []))) j (some (.box tyb (cells.set k (.own id))))⟩ c K) : W P R n ds st c K := by
  intro a w hr
  refine h a w ?_
  obtain ⟨⟨B, I, hm, hx0, hkp, hs⟩, h2, h3, hnn, h4, h5⟩ := hr
  have hne : ∀ i, (st.m i).isSome = true → i ≠ id := fun i hi e' => by subst e'; rw [hid] at hi; cases hi
  have hB : ∀ i, (st.m i).isSome = true → upd B id (.slice none 0 0) i = B i := fun i hi => upd_ne _ _ (hne i hi)
  have hm1 := hm.newNil hid fz ty e
  have hj1 : upd st.m id (some (rowO fz ty e [])) j = some (.box tyb cells) := by rw [upd_ne _ _ (hne j (by simp [hj]))]; exact hj
  obtain ⟨b, vs, e1, e2, e3, e4⟩ := hm1.objs j _ hj1
  have liv : ∀ i, (st.m i).isSome = true → (upd (upd st.m id (some (rowO fz ty e []))) j (some (.box tyb (cells.set k (.own id)))) i).isSome = true := fun i hi => by
    unfold upd; split
    · rfl
    · split
      · rfl
      · exact hi
  have hm2 := hm1.turn (o' := .box tyb (cells.set k (.own id))) hj1 ⟨0, e1⟩ (fun q hq => by obtain ⟨off, hq⟩ := hq; rw [e1] at hq; cases hq; rfl) e4 rfl rfl rfl rfl (fun _ _ => rfl) (fun i hi => by
    obtain ⟨a', ha', hi'⟩ := List.mem_flatMap.1 hi
    rcases List.mem_or_eq_of_mem_set ha' with ha' | rfl
    · exact hm1.live j _ hj1 i (List.mem_flatMap.2 ⟨a', ha', hi'⟩)
    · simp [A.ids] at hi'; subst hi'; rw [upd_same]; rfl) (fun _ => by
    refine ⟨b, vs, e1, e2, ?_, e4⟩
    have hl := e3.length
    refine RVs.of (by rw [List.length_set]; exact hl) fun q a' v' ha' hv' => ?_
    rw [List.getElem?_set] at ha'
    split at ha'
    · rename_i hq
      subst hq
      split at ha'
      · cases ha'
        obtain ⟨v2, q1, q2, q3⟩ := e3.at k _ hk
        rw [hv'] at q1; cases q1
        have hv : v' = .slice none 0 0 := q2
        exact ⟨⟨hv.trans (upd_same ..).symm, none, 0, 0, hv⟩, q3⟩
      · cases ha'
    · obtain ⟨v2, q1, q2, q3⟩ := e3.at q _ ha'
      rw [hv'] at q1; cases q1
      exact ⟨q2, q3⟩)
  exact ⟨⟨_, I, hm2.1, hx0, fun i hi => (hB i (h5 i hi)).trans (hkp i hi), fun t => (hs t).mono (Ext.refl _ _) fun i hi => hB i (h2 t i hi)⟩, fun t i hi => liv i (h2 t i hi), h3, hnn, h4, fun i hi => liv i (h5 i hi)⟩
end
theorem ybeq_some (a b : Bool) : (some a == some b) = (a == b) := rfl
theorem beqT (b : Bool) : (b == true) = b := by cases b <;> rfl
theorem beqF (b : Bool) : (b == false) = !b := by cases b <;> rfl
theorem ybeq_none (b : Bool) : ((none : Option Bool) == some b) = false := rfl
theorem empty_toList : (⟨#[]⟩ : ByteArray).toList = [] := by
  unfold ByteArray.toList ByteArray.toList.loop
  rfl
theorem upd_app {α : Type} (f : Nat → α) (t : Nat) (x : α) (u : Nat) : upd f t x u = if u = t then x else f u := rfl
theorem entry_zero (a : A) (l : List A) : entry (a :: l) 0 = a := rfl
theorem entry_succ (a : A) (l : List A) (n : Nat) : entry (a :: l) (n + 1) = entry l n := rfl
theorem entry_nil (n : Nat) : entry [] n = .undef := by simp [entry]
theorem cvs_nil {m : Mem} : Cvs m [] [] := trivial
theorem cvs_cons {m : Mem} {a a' : A} {l l' : List A} (h : Cv m a a') (k : Cvs m l l') : Cvs m (a :: l) (a' :: l') := ⟨h, k⟩
theorem cv_refl {m : Mem} {a : A} : Cv m a a := .inl rfl
theorem cvrs_nil {m : Mem} : CvRs m [] [] := trivial
theorem cvrs_cons {m : Mem} {a a' : A} {l l' : List A} (h : CvR m a a') (k : CvRs m l l') : CvRs m (a :: l) (a' :: l') := ⟨h, k⟩
theorem cvr_refl {m : Mem} {a : A} : CvR m a a := .inl (.inl rfl)
theorem cvr_row {m : Mem} {j : Nat} {ty : TypeId} {e : Nat} {xs : List (List C)} (hj : m j = some (.mrow ty e xs)) : CvR m (.own j) (.c (.sl xs)) := .inr (.inr (.inr ⟨j, ty, e, xs, rfl, hj, rfl⟩))
theorem cv_nil {m : Mem} : Cv m .nil (.c (.sl [])) := .inr (.inr ⟨_, rfl, rfl⟩)
theorem mem_nil_app (j : Nat) : Mem.nil j = none := rfl
theorem top_app (t : Nat) : (fun _ : Nat => A.top) t = .top := rfl
def SLe (s s' : Nat → A) : Prop := ∀ t, s' t = .top ∨ s' t = s t
def MLe (m m' : Mem) : Prop := ∀ j, m' j = none ∨ m' j = m j
theorem sle_top (s : Nat → A) : SLe s (fun _ => .top) := fun _ => .inl rfl
theorem sle_refl (s : Nat → A) : SLe s s := fun _ => .inr rfl
theorem sle_upd {s s' : Nat → A} {t : Nat} {x : A} (h : SLe s s') (hx : s t = x) : SLe s (upd s' t x) := fun u => by
  unfold upd; split
  · rename_i e; subst e; exact .inr hx.symm
  · exact h u
theorem mle_nil (m : Mem) : MLe m Mem.nil := fun _ => .inl rfl
theorem mle_refl (m : Mem) : MLe m m := fun _ => .inr rfl
theorem mle_upd {m m' : Mem} {j : Nat} {o : O} (h : MLe m m') (ho : m j = some o) : MLe m (upd m' j (some o)) := fun u => by
  unfold upd; split
  · rename_i e; subst e; exact .inr ho.symm
  · exact h u
def SWf (m : Mem) (s : Nat → A) : Prop := ∀ t, ∀ j ∈ (s t).ids, (m j).isSome = true
def MWf (m m' : Mem) : Prop := ∀ id o, m' id = some o → ∀ j ∈ o.ids, (m j).isSome = true
theorem swf_top (m : Mem) : SWf m (fun _ => .top) := fun _ j hj => by simp [A.ids] at hj
theorem swf_upd {m : Mem} {s : Nat → A} {t : Nat} {x : A} (h : SWf m s) (hx : ∀ j ∈ x.ids, (m j).isSome = true) : SWf m (upd s t x) := fun u j hj => by
  unfold upd at hj; split at hj
  · exact hx j hj
  · exact h u j hj
theorem mwf_nil (m : Mem) : MWf m Mem.nil := fun _ _ h => absurd h (noneSome _)
theorem mwf_upd {m m' : Mem} {i : Nat} {o : O} (h : MWf m m') (ho : ∀ j ∈ o.ids, (m j).isSome = true) : MWf m (upd m' i (some o)) := fun id x hx j hj => by
  unfold upd at hx; split at hx
  · cases hx; exact ho j hj
  · exact h id x hx j hj
theorem le_mk {kp : Nat → Prop} {st st' : St} (h1 : SLe st.s st'.s) (h2 : MLe st.m st'.m) (h3 : SWf st'.m st'.s) (h4 : MWf st'.m st'.m) (h5 : ∀ j, kp j → (st'.m j).isSome = true) (h6 : dfs (st'.s DID) = dfs (st.s DID)) : Le kp st st' := ⟨h1, h2, ⟨h3, h4⟩, h5, h6⟩
theorem kept_not {kp : Nat → Prop} (h : kp = fun _ => False) {m : Mem} : ∀ j, kp j → (m j).isSome = true := fun j hj => by rw [h] at hj; exact hj.elim
theorem wrap_nat {k : Nat} (h : k < 9223372036854775808) : IntKind.i64.wrap (k : Int) = k := by
  have h2 : (k : Int) % 18446744073709551616 = k := by omega
  have h3 : ¬ ((k : Int) ≥ 9223372036854775808) := by omega
  simp [IntKind.wrap, IntKind.bits, IntKind.signed, h2]
  omega
theorem ok_pure {P : Go.Program} {T : Tab} (hT : T.Ok P) {f : FuncId} {fn : Func} {c : Code} {l : List ResultVar} {args : List A} {r : A} (hf : P.funcs[f]? = some fn) (hn : (fn.name == "runtime.NumGoroutine") = false) (hb : fn.body = some c) (hl : fn.results.toList = l) (hd : args.all (fun a => a.ids.isEmpty && !(match a with | .defs _ => true | _ => false)) = true) (hr : r.ids = []) (hle : decide (args.length ≤ fn.ntmps ∧ fn.ntmps ≤ DID) = true)
    (hW : ∀ R : Ref, R.keep = (fun _ => False) → W P R fn.ntmps [] ⟨entry args, Mem.nil⟩ c (fun e st => (e = .normal ∨ e = .ret) ∧ dfs (st.s DID) = [] ∧ resA T st l = some r)) (m : Mem) : COk P f args m r :=
  ⟨enters_of hf hn hb, hr, fun m' _ => call_pure hT hf hb hl (fun a ha => by have := List.all_eq_true.1 hd a ha; simp only [Bool.and_eq_true] at this; simpa using this.1) (fun a ha l e => by have := List.all_eq_true.1 hd a ha; subst e; simp at this) (of_decide_eq_true hle).1 (of_decide_eq_true hle).2 hW m'⟩
theorem wrap_succ {k : Nat} (h : k + 1 < 9223372036854775808) : IntKind.i64.wrap ((k : Int) + 1) = ((k + 1 : Nat) : Int) := by
  have := wrap_nat h
  simpa using this
theorem wf_i64 {n : Int} (h1 : -9223372036854775808 ≤ n) (h2 : n ≤ 9223372036854775807) : (Lit.int .i64 n).wf = true := by
  simp [Lit.wf, IntKind.min, IntKind.max, IntKind.bits, IntKind.signed]
  omega
theorem at_map {α β : Type} {f : α → β} {l : List α} {k : Nat} {x : α} (h : l[k]? = some x) : (l.map f)[k]? = some (f x) := by simp [h]
theorem exs : (∀ (α : Type) (l : List α) (i : Nat), l.toArray[i]? = l[i]?) ∧ (∀ (α : Type) (a : α) (l : List α) (i : Nat), (a :: l)[i + 1]? = l[i]?) ∧ (∀ (α : Type) (a : α) (l : List α), (a :: l)[0]? = some a) ∧
    (∀ (α β : Type) (a : α) (f : α → Option β), (some a).bind f = f a) ∧ (∀ (α : Type) (l : List α), l.toArray.size = l.length) ∧ (∀ (α β : Type) (f : α → β) (a : α) (l : List α), (a :: l).map f = f a :: l.map f) ∧ (∀ (α β : Type) (f : α → β), ([] : List α).map f = []) ∧
    (∀ (α : Type) (l : List α), l.drop 0 = l) ∧ (∀ (α : Type) (a : α) (l : List α) (i : Nat), (a :: l).drop (i + 1) = l.drop i) ∧ (∀ (α : Type) (i : Nat), ([] : List α).drop i = []) ∧
    (∀ (α : Type) (a : α) (l : List α) (i : Nat), (a :: l).take (i + 1) = a :: l.take i) ∧ (∀ (α : Type) (l : List α), l.take 0 = []) ∧ (∀ (α : Type) (i : Nat), ([] : List α).take i = []) ∧ (∀ (α : Type) (a : α) (l : List α), (a :: l).head? = some a) ∧
    (∀ (α : Type) (a : α) (n : Nat), List.replicate (n + 1) a = a :: List.replicate n a) ∧ (∀ (α : Type) (a : α), List.replicate 0 a = []) ∧ (∀ (α : Type) (l : List α) (r : List (List α)), (l :: r).flatten = l ++ r.flatten) ∧ (∀ (α : Type), ([] : List (List α)).flatten = []) ∧
    (∀ (α : Type) (a : α) (l : List α), (a :: l).length = l.length + 1) ∧ (∀ (α : Type), ([] : List α).length = 0) ∧ (∀ (α β : Type) (f : α → β) (l : List α), (l.map f).length = l.length) ∧ (∀ (α : Type) (l : List α), [] ++ l = l) ∧ (∀ (α : Type) (a : α) (l r : List α), a :: l ++ r = a :: (l ++ r)) ∧ (∀ (α : Type) (l : List α), l ++ [] = l) ∧
    (∀ (α β : Type) (f : α → β) (a : α), (some a).map f = some (f a)) ∧ (∀ (α β : Type) (f : α → β), (none : Option α).map f = none) ∧ (∀ n : Nat, 0 * n = 0) ∧ (∀ n : Nat, 1 * n = n) ∧ (∀ n : Nat, n * 1 = n) ∧ (∀ n : Nat, 0 + n = n) ∧ (∀ n : Nat, n + 0 = n) ∧ (∀ n : Nat, (n : Int).toNat = n) ∧ (∀ n : Nat, (0 ≤ (n : Int)) = True) ∧
    (∀ p : Prop, (p ∨ True) = True) ∧ (∀ p : Prop, (True ∧ p) = p) ∧ (∀ p : Prop, (p ∧ True) = p) ∧ (∀ p : Prop, (p ∧ p) = p) ∧ (∀ (α : Type) (a b : α), (if True then a else b) = a) ∧ (∀ (α : Type) (a b : α), (if False then a else b) = b) ∧ ((!true) = false) ∧ ((!false) = true) :=
  ⟨fun _ _ _ => by simp, fun _ _ _ _ => rfl, fun _ _ _ => rfl, fun _ _ _ _ => rfl, fun _ _ => rfl, fun _ _ _ _ _ => rfl, fun _ _ _ => rfl, fun _ _ => rfl, fun _ _ _ _ => rfl, fun _ _ => by simp, fun _ _ _ _ => rfl, fun _ _ => by simp, fun _ _ => by simp, fun _ _ _ => rfl,
    fun _ _ _ => rfl, fun _ _ => rfl, fun _ _ _ => by simp, fun _ => rfl, fun _ _ _ => rfl, fun _ => rfl, fun _ _ _ _ => by simp, fun _ _ => rfl, fun _ _ _ _ => rfl, fun _ _ => by simp, fun _ _ _ _ => rfl, fun _ _ _ => rfl, fun _ => by simp, fun _ => by simp, fun _ => by simp, fun _ => by simp, fun _ => rfl, fun _ => rfl, fun _ => by simp,
    fun _ => by simp, fun _ => by simp, fun _ => by simp, fun _ => by simp, fun _ _ _ => rfl, fun _ _ _ => rfl, rfl, rfl⟩
theorem fillC_cons (place : Nat → Option (Nat × Nat)) (cells : List C) (i : Nat) (v : Option (List C)) (rest : List (Nat × Option (List C))) : fillC place cells ((i, v) :: rest) = match place i, v with
    | some (o, n), some xs => if xs.length = n ∧ o + n ≤ cells.length then fillC place (cells.take o ++ (xs ++ cells.drop (o + n))) rest else none
    | _, _ => none := rfl
theorem fillA_cons (place : Nat → Option (Nat × Nat)) (cells : List A1) (i : Nat) (v : Option (List A1)) (rest : List (Nat × Option (List A1))) : fillA place cells ((i, v) :: rest) = match place i, v with
    | some (o, n), some xs => if xs.length = n ∧ o + n ≤ cells.length then fillA place (cells.take o ++ (xs ++ cells.drop (o + n))) rest else none
    | _, _ => none := rfl
theorem stO_box (T : Tab) (ty : Nat) (a v : A) (ty0 : TypeId) (cells : List A) : stO T ty a v (.box ty0 cells) = match a, T.ty ty, cellsA v with
    | .ptr _ off, some (n, _), some l => if l.length = n ∧ off + l.length ≤ cells.length then some (.box ty0 (repl cells off l)) else none
    | _, _, _ => none := rfl
theorem stO_mrow (T : Tab) (ty : Nat) (a v : A) (ty0 : TypeId) (e : Nat) (xs : List (List C)) : stO T ty a v (.mrow ty0 e xs) = match a, T.ty ty, dataC v with
    | .eptr _ e' i f, some (n, _), some l => if e' = e ∧ l.length = n ∧ f + l.length ≤ e then (match xs[i]? with | some cs => some (.mrow ty0 e (xs.set i (replC cs f l))) | none => none) else none
    | _, _, _ => none := rfl
theorem stO_rows (T : Tab) (ty : Nat) (a v : A) (ty0 : TypeId) (xs : List A1) : stO T ty a v (.rows ty0 xs) = match a, T.ty ty, cellsA v with
    | .eptr _ e i f, some (n, _), some [b] => if e = 1 ∧ n = 1 ∧ f = 0 ∧ i < xs.length then (match b.down with | some y => some (.rows ty0 (xs.set i y)) | none => none) else none
    | _, _, _ => none := rfl
set_option linter.defProp false in
def exa :=
  And.intro (And.intro (And.intro @qv2.eq_17 @qv2.eq_18) (And.intro @A.kill.eq_9 (And.intro @A.kill.eq_10 (And.intro @partA.eq_1 (And.intro @fillA.eq_1 (And.intro @fillA_cons (And.intro @fillC_cons (And.intro @stO_box (And.intro @stO_mrow @stO_rows))))))))) (And.intro (And.intro (And.intro (And.intro (And.intro (And.intro (And.intro (And.intro @exec.eq_1 @exec.eq_2) (And.intro @stepQ.eq_1 @wantA.eq_1)) (And.intro (And.intro @yieldA.eq_1 @kind.eq_1) (And.intro @kind.eq_2 @kind.eq_3))) (And.intro (And.intro (And.intro @kind.eq_4 @kind.eq_5) (And.intro @kind.eq_6 @kind.eq_7)) (And.intro (And.intro @kind.eq_8 @kind.eq_9) (And.intro @kind.eq_10 @kind.eq_11)))) (And.intro (And.intro (And.intro (And.intro @kind.eq_12 @kind.eq_13) (And.intro @kind.eq_14 @kind.eq_15)) (And.intro (And.intro @kind.eq_16 @kind.eq_17) (And.intro @kind.eq_18 @kind.eq_19))) (And.intro (And.intro (And.intro @kind.eq_20 @kind.eq_21) (And.intro @kind.eq_22 @kind.eq_23)) (And.intro (And.intro @kind.eq_24 @kind.eq_25) (And.intro @qv.eq_1 (And.intro @qv1.eq_1 @qv1.eq_2)))))) (And.intro (And.intro (And.intro (And.intro (And.intro @qv1.eq_3 @qv1.eq_4) (And.intro @qv1.eq_5 @qv1.eq_6)) (And.intro (And.intro @qv1.eq_7 @qv1.eq_8) (And.intro @qv1.eq_9 @qv1.eq_10))) (And.intro (And.intro (And.intro @qv1.eq_11 @qv1.eq_12) (And.intro @qv1.eq_13 @qv1.eq_14)) (And.intro (And.intro @qv1.eq_15 @qv1.eq_16) (And.intro @qv1.eq_17 @qv1.eq_18)))) (And.intro (And.intro (And.intro (And.intro @qv1.eq_19 @qv2.eq_1) (And.intro @qv2.eq_2 @qv2.eq_3)) (And.intro (And.intro @qv2.eq_4 @qv2.eq_5) (And.intro @qv2.eq_6 @qv2.eq_7))) (And.intro (And.intro (And.intro @qv2.eq_8 @qv2.eq_9) (And.intro @qv2.eq_10 @qv2.eq_11)) (And.intro (And.intro @qv2.eq_12 @qv2.eq_13) (And.intro @qv2.eq_14 (And.intro @qv2.eq_15 @qv2.eq_16))))))) (And.intro (And.intro (And.intro (And.intro (And.intro (And.intro @stO.eq_1 @stO.eq_2) (And.intro @stO.eq_3 @stO.eq_4)) (And.intro (And.intro @stO.eq_5 @stO.eq_6) (And.intro @stO.eq_7 @adrId.eq_1))) (And.intro (And.intro (And.intro @adrId.eq_2 @adrId.eq_3) (And.intro @dataC.eq_1 @dataC.eq_2)) (And.intro (And.intro @dataC.eq_3 @dataC.eq_4) (And.intro @dataC.eq_5 @replC.eq_1)))) (And.intro (And.intro (And.intro (And.intro @eqNil.eq_1 @eqNil.eq_2) (And.intro @eqNil.eq_3 @eqNil.eq_4)) (And.intro (And.intro @eqNil.eq_5 @eqNil.eq_6) (And.intro @eqNil.eq_7 @eqNil.eq_8))) (And.intro (And.intro (And.intro @eqNil.eq_9 @eqNil.eq_10) (And.intro @eqNil.eq_11 @eqNil.eq_12)) (And.intro (And.intro @eqNil.eq_13 @binNil.eq_1) (And.intro @binNil.eq_2 (And.intro @binNil.eq_3 @shiftInt.eq_1)))))) (And.intro (And.intro (And.intro (And.intro (And.intro @shiftInt.eq_2 @shiftInt.eq_3) (And.intro @A.down.eq_1 @A.down.eq_2)) (And.intro (And.intro @A.down.eq_3 @A.down.eq_4) (And.intro @A.down.eq_5 @A.down.eq_6))) (And.intro (And.intro (And.intro @A.down.eq_7 @A.down.eq_8) (And.intro @A.down.eq_9 @A1.up.eq_1)) (And.intro (And.intro @A1.up.eq_2 @A1.up.eq_3) (And.intro @A1.up.eq_4 @A1.up.eq_5)))) (And.intro (And.intro (And.intro (And.intro @A1.up.eq_6 @A1.up.eq_7) (And.intro @A1.up.eq_8 @downs.eq_1)) (And.intro (And.intro @downs.eq_2 @toR.eq_1) (And.intro @toR.eq_2 @ev.eq_1))) (And.intro (And.intro (And.intro @ev.eq_2 @ev.eq_3) (And.intro @ev.eq_4 @putS.eq_1)) (And.intro (And.intro @putS.eq_2 @rowO.eq_1) (And.intro @ofConst.eq_1 (And.intro @ofConst.eq_2 @ofConst.eq_3)))))))) (And.intro (And.intro (And.intro (And.intro (And.intro (And.intro (And.intro @ofConst.eq_4 @ofConst.eq_5) (And.intro @ofConst.eq_6 @ofConst.eq_7)) (And.intro (And.intro @ofConst.eq_8 @ofConst.eq_9) (And.intro @cellsA.eq_1 @cellsA.eq_2))) (And.intro (And.intro (And.intro @cellsA.eq_3 @cellsA.eq_4) (And.intro @cellsA.eq_5 @cellsA.eq_6)) (And.intro (And.intro @cellsA.eq_7 @cellsA.eq_8) (And.intro @cellsA.eq_9 @cellsA.eq_10)))) (And.intro (And.intro (And.intro (And.intro @cellsA.eq_11 @cellsA.eq_12) (And.intro @cellsC.eq_1 @cellsC.eq_2)) (And.intro (And.intro @asC.eq_1 @asC.eq_2) (And.intro @asC.eq_3 @asC.eq_4))) (And.intro (And.intro (And.intro @asC.eq_5 @asCs.eq_1) (And.intro @asCs.eq_2 @ld.eq_1)) (And.intro (And.intro @ldR.eq_1 @ldR.eq_2) (And.intro @bin.eq_1 (And.intro @bin.eq_2 @bin.eq_3)))))) (And.intro (And.intro (And.intro (And.intro (And.intro @bin.eq_4 @bin.eq_5) (And.intro @bin.eq_6 @bin.eq_7)) (And.intro (And.intro @binInt.eq_1 @binInt.eq_2) (And.intro @binInt.eq_3 @binInt.eq_4))) (And.intro (And.intro (And.intro @binInt.eq_5 @binInt.eq_6) (And.intro @binInt.eq_7 @binInt.eq_8)) (And.intro (And.intro @binInt.eq_9 @binInt.eq_10) (And.intro @binInt.eq_11 @binInt.eq_12)))) (And.intro (And.intro (And.intro (And.intro @binInt.eq_13 @binInt.eq_14) (And.intro @binInt.eq_15 @binInt.eq_16)) (And.intro (And.intro @binStr.eq_1 @binStr.eq_2) (And.intro @binStr.eq_3 @binStr.eq_4))) (And.intro (And.intro (And.intro @binStr.eq_5 @binStr.eq_6) (And.intro @binStr.eq_7 @binStr.eq_8)) (And.intro (And.intro @binBool.eq_1 @binBool.eq_2) (And.intro @binBool.eq_3 (And.intro @sliceOf.eq_1 @bndOf.eq_1))))))) (And.intro (And.intro (And.intro (And.intro (And.intro (And.intro @bndOf.eq_2 @bndOf.eq_3) (And.intro @repl.eq_1 @fillC.eq_1)) (And.intro (And.intro @fillC.eq_2 @fillC.eq_3) (And.intro @zeroC.eq_1 @chunks.eq_1))) (And.intro (And.intro (And.intro @chunks.eq_2 @ptrIds.eq_1) (And.intro @ptrIds.eq_2 @ptrIds.eq_3)) (And.intro (And.intro @A.kill.eq_1 @A.kill.eq_2) (And.intro @A.kill.eq_3 @A.kill.eq_4)))) (And.intro (And.intro (And.intro (And.intro @A.kill.eq_5 @A.kill.eq_6) (And.intro @A.kill.eq_7 @A.kill.eq_8)) (And.intro (And.intro @A.kill.eq_9 @A.kill.eq_10) (And.intro @O.kill.eq_1 @O.kill.eq_2))) (And.intro (And.intro (And.intro @O.kill.eq_3 @O.kill.eq_4) (And.intro @maxStr.eq_1 @toKey.eq_1)) (And.intro (And.intro @toKey.eq_2 (And.intro @toKey.eq_3 @toKey.eq_4)) (And.intro (And.intro @keyTy.eq_1 (And.intro @keyC.eq_1 (And.intro @keyC.eq_2 (And.intro @keyC.eq_3 @keyCs.eq_1)))) (And.intro (And.intro @keyTy.eq_2 (And.intro @keyCs.eq_2 @keyCs.eq_3)) (And.intro @keyTy.eq_3 @keyTy.eq_4))))))) (And.intro (And.intro (And.intro (And.intro (And.intro @zero1.eq_1 @lookRes.eq_1) (And.intro @eqTs.eq_1 @eqTs.eq_2)) (And.intro (And.intro @eqTs.eq_3 @eqT.eq_1) (And.intro @eqT.eq_2 @eqT.eq_3))) (And.intro (And.intro (And.intro @eqT.eq_4 @eqRes.eq_1) (And.intro @eqRes.eq_2 @eqRes.eq_3)) (And.intro (And.intro @offs.eq_1 @offs.eq_2) (And.intro @upd_app (And.intro @mem_nil_app @entry_zero))))) (And.intro (And.intro (And.intro (And.intro @entry_succ @entry_nil) (And.intro @top_app @killS_app)) (And.intro (And.intro @killM_app @wf_i64) (And.intro @decide_true @decide_false))) (And.intro (And.intro (And.intro @ybeq_some @ybeq_none) (And.intro @beqT @beqF)) (And.intro (And.intro @empty_toList exs) (And.intro tabs (And.intro @isNilRow.eq_1 @isNilRow.eq_2)))))))))
end V
end Go.Proofs.YtbmbmcdaabhgnaaDoor
end
section
namespace Go.Proofs.YtbmbmcdaabhgnaaDoor
namespace V
open Go.RowKit
def cSlot (s : Slot) : List C := [.str s.type, .str s.name]
mutual
def cExpr : Expr → List C
  | ⟨k, n, nm, kids⟩ => [.int .i64 k, .int .i64 n, .str nm, .sl (cExprs kids)]
def cExprs : List Expr → List (List C)
  | [] => []
  | x :: l => cExpr x :: cExprs l
end
mutual
def cStmt : Stmt → List C
  | ⟨k, n, ty, nm, es, th, el⟩ => [.int .i64 k, .int .i64 n, .str ty, .str nm, .sl (cExprs es), .sl (cStmts th), .sl (cStmts el)]
def cStmts : List Stmt → List (List C)
  | [] => []
  | x :: l => cStmt x :: cStmts l
end
def cMethod (m : Method) : List C := [.str m.type, .str m.name, .sl (m.params.map cSlot), .sl (cStmts m.body)]
def cClass (c : Class) : List C := [.str c.name, .str c.super, .sl (c.fields.map cSlot), .sl (c.methods.map cMethod)]
def cProg (p : Program) : List C := [.sl (p.classes.map cClass), .sl (cStmts p.main)]
theorem cExprs_map (l : List Expr) : cExprs l = l.map cExpr := by induction l with | nil => rfl | cons x l ih => simp [cExprs, ih]
theorem cStmts_map (l : List Stmt) : cStmts l = l.map cStmt := by induction l with | nil => rfl | cons x l ih => simp [cStmts, ih]
end V
end Go.Proofs.YtbmbmcdaabhgnaaDoor
end
section
namespace Go.Proofs.YtbmbmcdaabhgnaaDoor
namespace V
open Go.RowKit
theorem cellsAt_of {w : World} {b : Nat} : ∀ {cs : List Value} {o : Nat}, (∀ (j : Nat) v, cs[j]? = some v → w.cell? ⟨b, o + j, none⟩ = some v) → cellsAt w b o cs
  | [], _, _ => trivial
  | v :: cs, o, h => ⟨by simpa using h 0 v rfl, cellsAt_of fun j u hj => by have := h (j + 1) u (by simpa using hj); rwa [show o + (j + 1) = o + 1 + j by omega] at this⟩
theorem cellsAt_get {w : World} {b : Nat} : ∀ {cs : List Value} {o : Nat}, cellsAt w b o cs → ∀ (j : Nat) v, cs[j]? = some v → w.cell? ⟨b, o + j, none⟩ = some v
  | [], _, _, j, v, h => by simp at h
  | u :: cs, o, h, 0, v, hv => by simp at hv; subst hv; exact h.1
  | u :: cs, o, h, j + 1, v, hv => by
    have := cellsAt_get h.2 j v (by simpa using hv)
    rwa [show o + (j + 1) = o + 1 + j by omega]
section
variable {w : World} {I : Nat → Nat → Prop}
theorem rc_rsl {α : Type} {f : α → List C} {sz : Nat} {R : List Value → α → Prop} {J : Nat → Prop} {v : Value} {l : List α} (hI : ∀ b o, I b o → J b) (hz : 0 < sz) (hf : ∀ x ∈ l, (f x).length = sz) (hR : ∀ cs x, x ∈ l → RCs w I cs (f x) → R cs x) (h : RC w I v (.sl (l.map f))) : RSl sz R w J v l := by
  cases h with
  | @sl a n cap e _ g h1 h2 h3 h4 h5 h6 =>
    refine ⟨a, n, cap, rfl, by simpa using h1, h2, by unfold maxC; unfold maxLen at h3; omega, fun i x hx => ?_⟩
    have hx' := at_map (f := f) hx
    have hm := List.mem_of_getElem? hx
    have he : e = sz := by rw [← hf x hm, h4 _ (List.mem_of_getElem? hx')]
    subst he
    obtain ⟨b, off, rfl, hc⟩ := h5 _ _ hx'
    refine ⟨b, off, (List.range e).map (g i), rfl, hI b _ (hc 0 hz).1, cellsAt_of fun j u hj => ?_, hR _ _ hm (RCs.of (by simp [hf x hm]) fun j u c hj hcj => ?_)⟩
    · rw [List.getElem?_map] at hj
      by_cases hje : j < e
      · rw [List.getElem?_range hje] at hj; cases hj; exact (hc j hje).2
      · rw [List.getElem?_eq_none (by simp; omega)] at hj; cases hj
    · rw [List.getElem?_map] at hj
      by_cases hje : j < e
      · rw [List.getElem?_range hje] at hj; cases hj; exact h6 _ _ _ _ hx' hcj
      · rw [List.getElem?_eq_none (by simp; omega)] at hj; cases hj
theorem rsl_rc {α : Type} {f : α → List C} {sz : Nat} {R : List Value → α → Prop} {J : Nat → Prop} {v : Value} {l : List α} (hI : ∀ b o, J b → I b o) (hR : ∀ cs x, x ∈ l → R cs x → cs.length = sz ∧ RCs w I cs (f x)) (h : RSl sz R w J v l) : RC w I v (.sl (l.map f)) := by
  obtain ⟨a, n, cap, rfl, h1, h2, h3, h4⟩ := h
  have hch : ∀ (i : Nat) x, l[i]? = some x → ∃ cs : List Value, ∃ b off, a = some ⟨b, off, none⟩ ∧ J b ∧ cellsAt w b (off + i * sz) cs ∧ cs.length = sz ∧ RCs w I cs (f x) := fun i x hx => by
    obtain ⟨b, off, cs, e1, e2, e3, e4⟩ := h4 i x hx
    obtain ⟨e5, e6⟩ := hR cs x (List.mem_of_getElem? hx) e4
    exact ⟨cs, b, off, e1, e2, e3, e5, e6⟩
  obtain ⟨g, hg⟩ : ∃ g : Nat → List Value, ∀ (i : Nat) x, l[i]? = some x → ∃ b off, a = some ⟨b, off, none⟩ ∧ J b ∧ cellsAt w b (off + i * sz) (g i) ∧ (g i).length = sz ∧ RCs w I (g i) (f x) := by
    have : ∀ i, ∃ g : List Value, ∀ x, l[i]? = some x → ∃ b off, a = some ⟨b, off, none⟩ ∧ J b ∧ cellsAt w b (off + i * sz) g ∧ g.length = sz ∧ RCs w I g (f x) := fun i => by
      cases hx : l[i]? with
      | none => exact ⟨[], fun x h => by cases h⟩
      | some x =>
        obtain ⟨cs, b, off, q⟩ := hch i x hx
        exact ⟨cs, fun y hy => by cases hy; exact ⟨b, off, q⟩⟩
    exact Classical.skolem.1 this
  have el : ∀ (i : Nat) y, (l.map f)[i]? = some y → ∃ x, l[i]? = some x ∧ y = f x := fun i y hy => by
    rw [List.getElem?_map] at hy
    cases hx : l[i]? with
    | none => rw [hx] at hy; cases hy
    | some x => rw [hx] at hy; exact ⟨x, rfl, (Option.some.inj hy).symm⟩
  refine .sl (e := sz) (fun i j => (g i).getD j undef) (by simpa using h1) h2 (by unfold maxLen; unfold maxC at h3; omega) (fun y hy => ?_) (fun i y hy => ?_) (fun i j y c hy hc => ?_)
  · obtain ⟨i, hi⟩ := List.getElem?_of_mem hy
    obtain ⟨x, hx, rfl⟩ := el i y hi
    obtain ⟨b, off, -, -, -, q1, q2⟩ := hg i x hx
    rw [← q2.length, q1]
  · obtain ⟨x, hx, rfl⟩ := el i y hy
    obtain ⟨b, off, q1, q2, q3, q4, -⟩ := hg i x hx
    refine ⟨b, off, q1, fun j hj => ⟨hI b _ q2, ?_⟩⟩
    have hj' : j < (g i).length := by omega
    rw [cellsAt_get q3 j _ (List.getElem?_eq_getElem hj')]
    simp [hj']
  · obtain ⟨x, hx, rfl⟩ := el i y hy
    obtain ⟨b, off, -, -, -, -, q2⟩ := hg i x hx
    obtain ⟨u, h5, h6⟩ := q2.at j c hc
    simp [h5]; exact h6
variable (hI : ∀ b o, I b o → b < w.heap.size)
theorem rcs_slot {cs : List Value} {x : Slot} (h : RCs w I cs (cSlot x)) : RSlot cs x := by
  match cs, h with
  | [a, b], ⟨h1, h2, _⟩ => exact ⟨by rw [h1.toStr.1, h2.toStr.1], h1.toStr.2, h2.toStr.2⟩
theorem slot_rcs {cs : List Value} {x : Slot} (h : RSlot cs x) : cs.length = 2 ∧ RCs w I cs (cSlot x) := by
  obtain ⟨rfl, h1, h2⟩ := h
  exact ⟨rfl, .str h1, .str h2, trivial⟩
include hI in
theorem rc_slots {v : Value} {l : List Slot} (h : RC w I v (.sl (l.map cSlot))) : RSlots w (· < w.heap.size) v l := rc_rsl hI (by decide) (fun _ _ => rfl) (fun _ _ _ h => rcs_slot h) h
mutual
def dExpr : Expr → Nat
  | ⟨_, _, _, kids⟩ => dExprs kids + 1
def dExprs : List Expr → Nat
  | [] => 0
  | x :: l => max (dExpr x) (dExprs l)
end
theorem dExprs_mem {l : List Expr} {x : Expr} (h : x ∈ l) : dExpr x ≤ dExprs l := by
  induction l with
  | nil => simp at h
  | cons y l ih =>
    simp only [dExprs]
    rcases List.mem_cons.1 h with rfl | h
    · omega
    · have := ih h; omega
include hI in
theorem rcs_expr : ∀ (d : Nat) {cs : List Value} {x : Expr}, dExpr x ≤ d → RCs w I cs (cExpr x) → RExpr d w (· < w.heap.size) cs x
  | 0, cs, ⟨k, n, nm, kids⟩, hd, _ => by simp [dExpr] at hd
  | d + 1, cs, ⟨k, n, nm, kids⟩, hd, h => by
    simp only [cExpr] at h
    match cs, h with
    | [a, b, c, e], ⟨h1, h2, h3, h4, _⟩ =>
      simp only [dExpr] at hd
      rw [cExprs_map] at h4
      refine ⟨e, by rw [h1.toInt.1, h2.toInt.1, h3.toStr.1], h1.toInt.2, h2.toInt.2, h3.toStr.2, rc_rsl hI (by decide) (fun x _ => by cases x; rfl) (fun cs x hx hc => rcs_expr d (by have h' : dExpr x ≤ dExprs kids := dExprs_mem hx; omega) hc) h4⟩
theorem expr_rcs (hJ : ∀ b o, b < w.heap.size → I b o) : ∀ (d : Nat) {cs : List Value} {x : Expr}, RExpr d w (· < w.heap.size) cs x → cs.length = 4 ∧ RCs w I cs (cExpr x)
  | 0, _, _, h => h.elim
  | d + 1, cs, ⟨k, n, nm, kids⟩, ⟨kv, h1, h2, h3, h4, h5⟩ => by
    subst h1
    refine ⟨rfl, .int h2, .int h3, .str h4, ?_, trivial⟩
    rw [cExprs_map]
    exact rsl_rc hJ (fun _ _ _ h => expr_rcs hJ d h) h5
mutual
def dStmt : Stmt → Nat
  | ⟨_, _, _, _, es, th, el⟩ => max (dExprs es) (max (dStmts th) (dStmts el)) + 1
def dStmts : List Stmt → Nat
  | [] => 0
  | x :: l => max (dStmt x) (dStmts l)
end
theorem dStmts_mem {l : List Stmt} {x : Stmt} (h : x ∈ l) : dStmt x ≤ dStmts l := by
  induction l with
  | nil => simp at h
  | cons y l ih =>
    simp only [dStmts]
    rcases List.mem_cons.1 h with rfl | h
    · omega
    · have := ih h; omega
include hI in
theorem rcs_stmt : ∀ (d : Nat) {cs : List Value} {x : Stmt}, dStmt x ≤ d → RCs w I cs (cStmt x) → RStmt d w (· < w.heap.size) cs x
  | 0, cs, ⟨k, n, ty, nm, es, th, el⟩, hd, _ => by simp [dStmt] at hd
  | d + 1, cs, ⟨k, n, ty, nm, es, th, el⟩, hd, h => by
    simp only [cStmt] at h
    match cs, h with
    | [a, b, c, e, f, g, i], ⟨h1, h2, h3, h4, h5, h6, h7, _⟩ =>
      simp only [dStmt] at hd
      rw [cExprs_map] at h5
      rw [cStmts_map] at h6 h7
      refine ⟨f, g, i, by rw [h1.toInt.1, h2.toInt.1, h3.toStr.1, h4.toStr.1], h1.toInt.2, h2.toInt.2, h3.toStr.2, h4.toStr.2, rc_rsl hI (by decide) (fun x _ => by cases x; rfl) (fun cs x hx hc => rcs_expr hI d (by have h' : dExpr x ≤ dExprs es := dExprs_mem hx; omega) hc) h5,
        rc_rsl hI (by decide) (fun x _ => by cases x; rfl) (fun cs x hx hc => rcs_stmt d (by have h' : dStmt x ≤ dStmts th := dStmts_mem hx; omega) hc) h6, rc_rsl hI (by decide) (fun x _ => by cases x; rfl) (fun cs x hx hc => rcs_stmt d (by have h' : dStmt x ≤ dStmts el := dStmts_mem hx; omega) hc) h7⟩
theorem stmt_rcs (hJ : ∀ b o, b < w.heap.size → I b o) : ∀ (d : Nat) {cs : List Value} {x : Stmt}, RStmt d w (· < w.heap.size) cs x → cs.length = 7 ∧ RCs w I cs (cStmt x)
  | 0, _, _, h => h.elim
  | d + 1, cs, ⟨k, n, ty, nm, es, th, el⟩, ⟨ev, tv, fv, h1, h2, h3, h4, h5, h6, h7, h8⟩ => by
    subst h1
    refine ⟨rfl, .int h2, .int h3, .str h4, .str h5, ?_, ?_, ?_, trivial⟩
    · rw [cExprs_map]; exact rsl_rc hJ (fun _ _ _ h => expr_rcs hJ d h) h6
    · rw [cStmts_map]; exact rsl_rc hJ (fun _ _ _ h => stmt_rcs hJ d h) h7
    · rw [cStmts_map]; exact rsl_rc hJ (fun _ _ _ h => stmt_rcs hJ d h) h8
include hI in
theorem rc_stmts {v : Value} {l : List Stmt} {d : Nat} (hd : dStmts l ≤ d) (h : RC w I v (.sl (cStmts l))) : RStmts d w (· < w.heap.size) v l := by
  rw [cStmts_map] at h
  exact rc_rsl hI (by decide) (fun x _ => by cases x; rfl) (fun cs x hx hc => rcs_stmt hI d (by have h' : dStmt x ≤ dStmts l := dStmts_mem hx; omega) hc) h
def dMethod (x : Method) : Nat := dStmts x.body
include hI in
theorem rcs_method {cs : List Value} {x : Method} {d : Nat} (hd : dMethod x ≤ d) (h : RCs w I cs (cMethod x)) : RMethod d w (· < w.heap.size) cs x := by
  match cs, h with
  | [a, b, c, e], ⟨h1, h2, h3, h4, _⟩ => exact ⟨c, e, by rw [h1.toStr.1, h2.toStr.1], h1.toStr.2, h2.toStr.2, rc_slots hI h3, rc_stmts hI hd h4⟩
theorem method_rcs (hJ : ∀ b o, b < w.heap.size → I b o) {d : Nat} {cs : List Value} {x : Method} (h : RMethod d w (· < w.heap.size) cs x) : cs.length = 4 ∧ RCs w I cs (cMethod x) := by
  obtain ⟨pv, bv, rfl, h1, h2, h3, h4⟩ := h
  refine ⟨rfl, .str h1, .str h2, rsl_rc hJ (fun _ _ _ h => slot_rcs h) h3, ?_, trivial⟩
  rw [cStmts_map]; exact rsl_rc hJ (fun _ _ _ h => stmt_rcs hJ d h) h4
def maxL (l : List Nat) : Nat := l.foldr max 0
theorem maxL_mem {l : List Nat} {x : Nat} (h : x ∈ l) : x ≤ maxL l := by
  induction l with
  | nil => simp at h
  | cons y l ih =>
    simp only [maxL, List.foldr_cons] at ih ⊢
    rcases List.mem_cons.1 h with rfl | h
    · omega
    · have := ih h; omega
def dClass (x : Class) : Nat := maxL (x.methods.map dMethod)
include hI in
theorem rcs_class {cs : List Value} {x : Class} {d : Nat} (hd : dClass x ≤ d) (h : RCs w I cs (cClass x)) : RClass d w (· < w.heap.size) cs x := by
  match cs, h with
  | [a, b, c, e], ⟨h1, h2, h3, h4, _⟩ =>
    exact ⟨c, e, by rw [h1.toStr.1, h2.toStr.1], h1.toStr.2, h2.toStr.2, rc_slots hI h3, rc_rsl hI (by decide) (fun _ _ => rfl) (fun cs m hm hc => rcs_method hI (Nat.le_trans (maxL_mem (List.mem_map_of_mem hm)) hd) hc) h4⟩
theorem class_rcs (hJ : ∀ b o, b < w.heap.size → I b o) {d : Nat} {cs : List Value} {x : Class} (h : RClass d w (· < w.heap.size) cs x) : cs.length = 4 ∧ RCs w I cs (cClass x) := by
  obtain ⟨pv, bv, rfl, h1, h2, h3, h4⟩ := h
  exact ⟨rfl, .str h1, .str h2, rsl_rc hJ (fun _ _ _ h => slot_rcs h) h3, rsl_rc hJ (fun _ _ _ h => method_rcs hJ h) h4, trivial⟩
theorem rprog_of {v : Value} {p : Program} (hI : ∀ b o, I b o → b < w.heap.size) (h : ∃ us, v = .agg us.toArray ∧ RCs w I us (cProg p)) : ∃ d, RProgram d w (· < w.heap.size) v p := by
  obtain ⟨us, rfl, h⟩ := h
  match us, h with
  | [a, b], ⟨h1, h2, _⟩ =>
    refine ⟨max (maxL (p.classes.map dClass)) (dStmts p.main), a, b, rfl, ?_, rc_stmts hI (by omega) h2⟩
    exact rc_rsl hI (by decide) (fun _ _ => rfl) (fun _ _ hm hc => rcs_class hI (by have := maxL_mem (List.mem_map_of_mem (f := dClass) hm); omega) hc) h1
theorem prog_rcs (hJ : ∀ b o, b < w.heap.size → I b o) {d : Nat} {v : Value} {p : Program} (h : RProgram d w (· < w.heap.size) v p) : ∃ us, v = .agg us.toArray ∧ RCs w I us (cProg p) := by
  obtain ⟨cv, mv, rfl, h1, h2⟩ := h
  refine ⟨[cv, mv], rfl, rsl_rc hJ (fun _ _ _ h => class_rcs hJ h) h1, ?_, trivial⟩
  rw [cStmts_map]; exact rsl_rc hJ (fun _ _ _ h => stmt_rcs hJ d h) h2
end
end V
end Go.Proofs.YtbmbmcdaabhgnaaDoor
end
