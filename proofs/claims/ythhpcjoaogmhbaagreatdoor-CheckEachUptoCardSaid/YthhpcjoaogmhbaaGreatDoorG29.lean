/- Joined by my own program, in build order: Vd, Ve, Vf, Vf2, Vf3, Vg, Vh, Vt. -/
import Derived.Test.YthhpcjoaogmhbaaGreatDoorG28
import Derived.Deep.LoopGhost
import Derived.KernelRfl
set_option linter.unusedVariables false
set_option linter.unusedSimpArgs false
section
namespace Go.Proofs.YthhpcjoaogmhbaaGreatDoor
namespace V
open Go.RowKit
structure St where
 s : Nat → A
 m : Mem
def dw (s : Nat → A) : Option Nat → A → Nat → A
 | some d, r => upd s d r
 | none, _ => s
structure Ref where
 w0 : World
 I0 : Nat → Nat → Prop
 w : World
 I : Nat → Nat → Prop
 B : Nat → Value
 keep : Nat → Prop
def DID : Nat := 1000000
def dfs : A → List Deferred
 | .defs l => l
 | _ => []
theorem nD (id : Nat) (a : A) : dfs (a.kill id) = dfs a := by
 cases a <;> simp only [A.kill] <;> (try split) <;> rfl
theorem E5 {n : Nat} (hn : n ≤ DID) {s : Nat → A} {dst : Option Nat} {r : A} (hd : ∀ d, dst = some d → d < n) : dw s dst r DID = s DID := by
 cases dst with
 | none => rfl
 | some d => exact upd_ne _ _ (fun e => by have := hd d rfl; omega)
structure SR (R : Ref) (n : Nat) (ds : List Deferred) (st : St) (a : Act) (w : World) : Prop where
 ex : ∃ B I, MR R.w0 R.I0 B I st.m w ∧ Ext R.w w R.I I ∧ (∀ j, R.keep j → B j = R.B j) ∧ ∀ t, RV B w I (st.s t) (a.tmps.getD t undef)
 ids : ∀ t, ∀ j ∈ (st.s t).ids, (st.m j).isSome = true
 size : a.tmps.size = n
 nn : n ≤ DID
 defs : a.defers = dfs (st.s DID) ++ ds
 kept : ∀ j, R.keep j → (st.m j).isSome = true
structure WF (st : St) : Prop where
 ids : ∀ t, ∀ j ∈ (st.s t).ids, (st.m j).isSome = true
 live : ∀ id o, st.m id = some o → ∀ j ∈ o.ids, (st.m j).isSome = true
theorem SR.wf {R : Ref} {w : World} {n : Nat} {ds : List Deferred} {st : St} {a : Act} (h : SR R n ds st a w) : WF st := ⟨h.ids, let ⟨_, _, hm, _⟩ := h.ex; hm.live⟩
def wC (ops : Array Oper) (s : Nat → A) (j : Nat) : Option (Option Bool) :=
 match (ops[j]?).bind (·.dst) with
 | none => some none
 | some d => match s d with | .c (.bool b) => some (some b) | .undef => some none | _ => none
def fE (ops : Array Oper) (o : Oper) (s : Nat → A) : Option Bool :=
 match o.guard with
 | none => some true
 | some (j, want) => match wC ops s j with | some y => some (y == some want) | none => none
theorem getD_lt {xs : Array Value} {d : Nat} {v : Value} (h : xs.getD d undef = v) (hv : v ≠ undef) : xs[d]? = some v := by
 rw [Array.getD_eq_getD_getElem?] at h
 cases hx : xs[d]? with
 | none => rw [hx] at h; exact absurd h.symm hv
 | some u => rw [hx] at h; exact congrArg some h
theorem fP {B : Nat → Value} {w : World} {I : Nat → Nat → Prop} {ops : Array Oper} {o : Oper} {s : Nat → A} {a : Act} {b : Bool} (hs : ∀ t, RV B w I (s t) (a.tmps.getD t undef)) (h : fE ops o s = some b) : Region.wanted o (yielded ops a.tmps) = b := by
 unfold fE at h
 unfold Region.wanted
 split at h
 ·rename_i hg; cases h; rw [hg]
 ·rename_i j want hg
  rw [hg]
  split at h
  ·rename_i y hy
   cases h
   dsimp only
   congr 1
   unfold wC at hy
   unfold yielded
   split at hy
   ·rename_i e; rw [e]; cases hy; rfl
   ·rename_i d e
    rw [e]
    have hd := hs d
    split at hy
    ·rename_i b' eb
     rw [eb] at hd
     have := getD_lt (RC.toBool hd) (by intro h; cases h)
     cases hy
     simp [this]
    ·rename_i eb
     rw [eb] at hd
     cases hy
     have hu : a.tmps.getD d undef = undef := hd
     cases hx : a.tmps[d]? with
     | none => simp [hx]
     | some u =>
       rw [Array.getD_eq_getD_getElem?, hx] at hu
       have : u = undef := hu
       subst this
       simp [hx, undef]
    ·cases hy
  ·cases h
def Cv (m : Mem) (a a' : A) : Prop := a' = a ∨ a' = .top ∨ ∃ x, asC m a = some x ∧ a' = .c x
def Cvs (m : Mem) : List A → List A → Prop
 | [], [] => True
 | a :: l, a' :: l' => Cv m a a' ∧ Cvs m l l'
 | _, _ => False
def RVl (B : Nat → Value) (w : World) (I : Nat → Nat → Prop) : List A → List Value → Prop
 | [], [] => True
 | a :: al, v :: vs => RV B w I a v ∧ RVl B w I al vs
 | _, _ => False
inductive Reach (m : Mem) (args : List A) : Nat → Prop where
 | arg {a : A} {j : Nat} (h : a ∈ args) (hj : j ∈ a.ids) : Reach m args j
 | obj {i j : Nat} {o : O} (h : Reach m args i) (ho : m i = some o) (hj : j ∈ o.ids) : Reach m args j
def rz (P : Go.Program) (f : FuncId) (args : List A) (m : Mem) (r : A) : Prop :=
 ∀ (w0 : World) (I0 : Nat → Nat → Prop) (B : Nat → Value) (I : Nat → Nat → Prop) (w : World) (vals : List Value), MR w0 I0 B I m w → RVl B w I args vals →
   Calls P f vals.toArray w fun e w' => ∃ v I', e = .returned v ∧ Below w.heap.size w w' ∧ (∀ b o, I b o → I' b o) ∧ (∀ b o, I' b o → I b o ∨ (w.heap.size ≤ b ∧ b < w'.heap.size)) ∧ RV B w' I' r v
theorem rz.Pw {P : Go.Program} {f : FuncId} {args : List A} {m : Mem} {r : A} (h : rz P f args m r) : rz P f args m r := h
def COk (P : Go.Program) (f : FuncId) (args : List A) (m : Mem) (r : A) : Prop :=
 (∀ args w, (callFunc f args).run P w = .ok (.enter f args) w) ∧ r.ids = [] ∧ ∀ m', (∀ j, Reach m args j → m' j = m j) → rz P f args m' r
def nI (m : Mem) : List Nat → Option (List (List C))
 | [] => some []
 | j :: l => match m j with
   | some (.box _ cells) => (match qD m cells, nI m l with | some xs, some r => some (xs :: r) | _, _ => none)
   | _ => none
def asL (m : Mem) : A → Option C
 | .own id => match m id with | some (.arr _ _ xs) => some (.sl xs) | some (.mrow _ _ xs) => some (.sl xs) | _ => none
 | a => asC m a
def wT (m : Mem) : List A → Option (List C)
 | [] => some []
 | a :: l => match asL m a, wT m l with | some x, some xs => some (x :: xs) | _, _ => none
def CvR (m : Mem) (a a' : A) : Prop := Cv m a a' ∨ (∃ j ty cells xs, a = .ptr j 0 ∧ m j = some (.box ty cells) ∧ wT m cells = some xs ∧ a' = .rptr xs) ∨ (∃ f ids caps, a = .fn f ids ∧ nI m ids = some caps ∧ a' = .fnR f caps) ∨ ∃ id ty e xs, a = .own id ∧ m id = some (.mrow ty e xs) ∧ a' = .c (.sl xs)
def Bl (m : Mem) : List A → List A → Prop
 | [], [] => True
 | a :: l, a' :: l' => CvR m a a' ∧ Bl m l l'
 | _, _ => False
def FV : C → Bool
 | .sl _ => false
 | _ => true
def Nu : A → Bool
 | .c x => FV x
 | .tup xs => xs.all fun p => p.2.all FV
 | _ => false
theorem Ay {w w' : World} {I I' : Nat → Nat → Prop} {x : C} {v : Value} (h : FV x = true) (hv : RC w I v x) : RC w' I' v x := by
 cases hv with
 | int k => exact .int k
 | bool => exact .bool
 | str k => exact .str k
 | sl => cases h
theorem Co {w w' : World} {I I' : Nat → Nat → Prop} : ∀ {xs : List C} {vs : List Value}, xs.all FV = true → RCs w I vs xs → RCs w' I' vs xs
 | [], [], _, _ => trivial
 | x :: xs, v :: vs, h, hv => by
   simp only [List.all_cons, Bool.and_eq_true] at h
   exact ⟨Ay h.1 hv.1, Co h.2 hv.2⟩
theorem CS {w w' : World} {I I' : Nat → Nat → Prop} : ∀ {xs : List (Bool × List C)} {vs : List Value}, (xs.all fun p => p.2.all FV) = true → RTs w I vs xs → RTs w' I' vs xs
 | [], [], _, _ => trivial
 | x :: xs, v :: vs, h, hv => by
   simp only [List.all_cons, Bool.and_eq_true] at h
   refine ⟨?_, CS h.2 hv.2⟩
   have h1 := hv.1
   unfold RT at h1 ⊢
   split
   ·rename_i hx; rw [if_pos hx] at h1; obtain ⟨us, k1, k2⟩ := h1; exact ⟨us, k1, Co h.1 k2⟩
   ·rename_i hx; rw [if_neg hx] at h1; obtain ⟨y, k1, k2⟩ := h1
    rw [k1] at h
    exact ⟨y, k1, Ay (by simpa using h.1) k2⟩
theorem NK {B B' : Nat → Value} {w w' : World} {I I' : Nat → Nat → Prop} {r : A} {v : Value} (h : Nu r = true) (hv : RV B w I r v) : RV B' w' I' r v := by
 cases r with
 | c x => exact Ay h hv
 | tup xs => obtain ⟨vs, k1, k2⟩ := hv; exact ⟨vs, k1, CS h k2⟩
 | _ => cases h
def lQ (base : Nat) (o : Oper) : Nat := base + o.dst.getD 0
inductive HV (P : Go.Program) (T : Tab) (base : Nat) (ops : Array Oper) (o : Oper) (st : St) : A → Option O → Prop where
 | skip (h : fE ops o st.s = some false) : HV P T base ops o st .undef none
 | val {r : A} {ob : Option O} (h : fE ops o st.s = some true) (hq : qv T st.s st.m (lQ base o) o.op = some (r, ob)) (hid : ob.isSome = true → st.m (lQ base o) = none) (hd : ob.isSome = true → o.dst.isSome = true) : HV P T base ops o st r ob
 | call {r : A} {c : Call} {x : Operand} {f : FuncId} {ids : List Nat} {args : List A} (h : fE ops o st.s = some true) (hop : o.op = .call c) (hc : c.callee = .value x) (hx : ev st.s x = .fn f ids) (hb : ∀ j ∈ ids, ∃ ty cells, st.m j = some (.box ty cells))
    (ha : Cvs st.m (c.args.toList.map (ev st.s) ++ ids.map (A.ptr · 0)) args) (hk : COk P f args st.m r) : HV P T base ops o st r none
 | callF {r : A} {c : Call} {x : Operand} {f : FuncId} {caps : List (List C)} {args : List A} (h : fE ops o st.s = some true) (hop : o.op = .call c) (hc : c.callee = .value x) (hx : ev st.s x = .fnR f caps)
    (ha : Cvs st.m (c.args.toList.map (ev st.s) ++ caps.map A.rptr) args) (hk : COk P f args st.m r) : HV P T base ops o st r none
 | callR {r : A} {c : Call} {x : Operand} {f : FuncId} {ids : List Nat} {args : List A} (h : fE ops o st.s = some true) (hop : o.op = .call c) (hc : c.callee = .value x) (hx : ev st.s x = .fn f ids) (hb : ∀ j ∈ ids, ∃ ty cells, st.m j = some (.box ty cells))
    (ha : Bl st.m (c.args.toList.map (ev st.s) ++ ids.map (A.ptr · 0)) args) (hi : ∀ a ∈ args, a.ids = []) (hf : Nu r = true) (hk : ∀ m, COk P f args m r) : HV P T base ops o st r none
theorem uz {B : Nat → Value} {w : World} {I : Nat → Nat → Prop} {s : Nat → A} {a : Act} {dst : Option Nat} {r : A} {v : Value} (hs : ∀ t, RV B w I (s t) (a.tmps.getD t undef)) (hv : RV B w I r v) (hd : ∀ d, dst = some d → d < a.tmps.size) :
 ∀ t, RV B w I (dw s dst r t) ((a.put dst v).tmps.getD t undef) := by
 cases dst with
 | none => exact hs
 | some d =>
   intro t
   have hd := hd d rfl
   simp only [dw, upd, Act.put]
   by_cases e : t = d
   ·subst e
    simp [hd, hv]
   ·rw [if_neg e]
    have := hs t
    rw [Array.getD_eq_getD_getElem?] at this ⊢
    rw [Array.getElem?_setIfInBounds_ne (Ne.symm e)]
    exact this
theorem vX {s : Nat → A} {m : Mem} {dst : Option Nat} {r : A} (h : ∀ t, ∀ j ∈ (s t).ids, (m j).isSome = true) (hr : ∀ j ∈ r.ids, (m j).isSome = true) : ∀ t, ∀ j ∈ (dw s dst r t).ids, (m j).isSome = true := by
 intro t j hj
 cases dst with
 | none => exact h t j hj
 | some d =>
   simp only [dw, upd] at hj
   split at hj
   ·exact hr j hj
   ·exact h t j hj
theorem qL {m : Mem} {id : Nat} {ob : Option O} {j : Nat} (h : (m j).isSome = true) : (m.put id ob j).isSome = true := by
 cases ob with
 | none => exact h
 | some x =>
   simp only [Mem.put, upd]
   split
   ·rfl
   ·exact h
theorem fJ (a : Act) (dst : Option Nat) (v : Value) : (a.put dst v).tmps.size = a.tmps.size ∧ (a.put dst v).defers = a.defers := by
 cases dst <;> simp [Act.put]
theorem rV {w0 w : World} {I0 I : Nat → Nat → Prop} {B : Nat → Value} {m : Mem} (hm : MR w0 I0 B I m w) : ∀ {al al' : List A} {vs : List Value}, Cvs m al al' → RVl B w I al vs → RVl B w I al' vs
 | [], [], [], _, _ => trivial
 | _ :: _, _ :: _, _ :: _, h, k => ⟨by
     rcases h.1 with e | e | ⟨x, hx, e⟩
     ·rw [e]; exact k.1
     ·rw [e]; trivial
     ·rw [e]; exact lV hm hx k.1, rV hm h.2 k.2⟩
theorem nS {B : Nat → Value} {w : World} {I : Nat → Nat → Prop} {ρ : Operand → Value} {s : Nat → A} (hev : ∀ x, RV B w I (ev s x) (ρ x)) : ∀ l : List Operand, RVl B w I (l.map (ev s)) (l.map ρ)
 | [] => trivial
 | x :: l => ⟨hev x, nS hev l⟩
theorem RVl.append {B : Nat → Value} {w : World} {I : Nat → Nat → Prop} : ∀ {al bl : List A} {vs us : List Value}, RVl B w I al vs → RVl B w I bl us → RVl B w I (al ++ bl) (vs ++ us)
 | [], _, [], _, _, h => h
 | _ :: _, _, _ :: _, _, h, k => ⟨h.1, RVl.append h.2 k⟩
theorem ny {w0 w : World} {I0 I : Nat → Nat → Prop} {B : Nat → Value} {m : Mem} (hm : MR w0 I0 B I m w) : ∀ {ids : List Nat}, (∀ j ∈ ids, ∃ ty cells, m j = some (.box ty cells)) → RVl B w I (ids.map (A.ptr · 0)) (ids.map B)
 | [], _ => trivial
 | j :: ids, h => ⟨by
     obtain ⟨ty, cells, hj⟩ := h j (by simp)
     obtain ⟨b, vs, h1, -⟩ := hm.objs j _ hj
     exact ⟨b, h1, h1⟩, ny hm fun i hi => h i (by simp [hi])⟩
theorem Fp {B : Nat → Value} {w : World} {I I' : Nat → Nat → Prop} {id : Nat} {ty : TypeId} {e : Nat} {xs : List (List C)} (hI : ∀ b o, I b o → I' b o) (hN : ∀ b, (B id).ownBlock = some b → ∀ o, I' b o) (h : RO B w I id (.mrow ty e xs)) : RC w I' (B id) (.sl xs) := by
 obtain ⟨vs, hrow, hvs, hlx, hnI⟩ := h
 have hvs' : RCs w I' vs (flat xs) := hvs.mono ⟨hI, fun _ _ _ => rfl⟩
 obtain ⟨hl, ho⟩ := hrow
 rcases ho with ⟨ev, hn⟩ | ⟨g, off, cap, cur, ev, hcell, q1, q2, q3, q4⟩
 ·obtain rfl : xs = [] := List.length_eq_zero_iff.1 hn
  rw [ev]
  exact RC.sl (e := 0) (fun _ _ => undef) rfl (Nat.le_refl _) (Nat.zero_le _) (fun x hx => by cases hx) (fun i x hx => by simp at hx) (fun i j x c hx _ => by simp at hx)
 ·have hat : ∀ i j x, xs[i]? = some x → j < e → i * e + j < xs.length * e := fun i j x hx hj => by
   have hi := (List.getElem?_eq_some_iff.1 hx).1
   have : (i + 1) * e ≤ xs.length * e := Nat.mul_le_mul_right _ hi
   rw [Nat.add_mul] at this
   omega
  rw [ev]
  refine RC.sl (e := e) (fun i j => vs.getD (i * e + j) undef) rfl q1 q2 hlx (fun i x hx => ⟨g, off, rfl, fun j hj => ⟨hN g (by rw [ev]; rfl) _, ?_⟩⟩) (fun i j x c hx hc => ?_)
  ·have hlt := hat i j x hx hj
   have hcur : cur[off + (i * e + j)]? = vs[i * e + j]? := by
    rw [← q4, List.getElem?_take, if_pos hlt, List.getElem?_drop, Array.getElem?_toList]
   rw [Nat.add_assoc]
   have hv : vs[i * e + j]? = some (vs.getD (i * e + j) undef) := by
    rw [List.getD_eq_getElem?_getD, List.getElem?_eq_getElem (by omega)]; rfl
   rw [← hv, ← hcur]
   simp [World.cell?, hcell]
  ·have hj : j < e := by rw [← hlx x (List.mem_of_getElem? hx)]; exact (List.getElem?_eq_some_iff.1 hc).1
   have hfl := l9 hlx i j x hx hj
   rw [hc] at hfl
   obtain ⟨u, hu, hr⟩ := hvs'.at _ _ hfl
   rw [List.getD_eq_getElem?_getD, hu]
   exact hr
def qB (B : Nat → Value) (I : Nat → Nat → Prop) (m : Mem) : Nat → Nat → Prop := fun b o => I b o ∨ ∃ j x, m j = some x ∧ foot B j x b
theorem Jk {w0 w : World} {I0 I : Nat → Nat → Prop} {B : Nat → Value} {m : Mem} (hm : MR w0 I0 B I m w) : MR w0 I0 B (qB B I m) Mem.nil w := by
 refine ⟨hm.below, hm.glob, fun b o h => .inl (hm.base b o h), fun b o h => ?_, fun b o h => ?_, fun _ _ h => absurd h (bO _), fun _ _ h => absurd h (bO _), fun _ _ _ _ h => absurd h (bO _), fun _ _ h => absurd h (bO _)⟩
 ·rcases h with h | ⟨j, x, h1, h2⟩
  ·exact hm.old b o h
  ·exact .inr (hm.low j _ h1 b h2).1
 ·rcases h with h | ⟨j, x, h1, h2⟩
  ·exact hm.there b o h
  ·exact (hm.low j _ h1 b h2).2
theorem vQ {B : Nat → Value} {w : World} {I : Nat → Nat → Prop} {m : Mem} : Ext w w I (qB B I m) := ⟨fun _ _ h => .inl h, fun _ _ _ => rfl⟩
theorem LD {w0 w : World} {I0 I : Nat → Nat → Prop} {B : Nat → Value} {m : Mem} (hm : MR w0 I0 B I m w) {j : Nat} {ty : TypeId} {cells : List A} {xs : List C} (hj : m j = some (.box ty cells)) (hx : qD m cells = some xs) :
 ∃ b us, B j = .pointer (some ⟨b, 0, none⟩) ∧ RCs w (qB B I m) us xs ∧ ∀ i x, us[i]? = some x → qB B I m b (0 + i) ∧ w.cell? ⟨b, 0 + i, none⟩ = some x := by
 obtain ⟨b, vs, h1, h2, h3, -⟩ := hm.objs j _ hj
 refine ⟨b, vs, h1, (lF hm hx h3).mono vQ, fun i x hi => ⟨.inr ⟨j, _, hj, ⟨0, h1⟩⟩, ?_⟩⟩
 simp only [World.cell?, h2]
 simpa using hi
theorem RI {w0 w : World} {I0 I : Nat → Nat → Prop} {B : Nat → Value} {m : Mem} (hm : MR w0 I0 B I m w) {a : A} {x : C} {v : Value} (hx : asL m a = some x) (hv : RV B w I a v) : RC w (qB B I m) v x := by
 have key : asC m a = some x → RC w (qB B I m) v x := fun h => RC.mono vQ (lV hm h hv)
 cases a with
 | own id =>
   have hvB : v = B id := hv.1
   simp only [asL] at hx
   split at hx
   ·rename_i ty e xs hj
    exact key (by simp only [asC, hj]; exact hx)
   ·rename_i ty e xs hj
    cases hx
    rw [hvB]
    exact Fp (fun _ _ h => .inl h) (fun b hb o => .inr ⟨id, _, hj, hb⟩) (hm.objs _ _ hj)
   ·cases hx
 | _ => exact key hx
theorem Fv {w0 w : World} {I0 I : Nat → Nat → Prop} {B : Nat → Value} {m : Mem} (hm : MR w0 I0 B I m w) : ∀ {al : List A} {xs : List C} {vs : List Value}, wT m al = some xs → RVs B w I al vs → RCs w (qB B I m) vs xs
 | [], xs, [], h, _ => by simp [wT] at h; subst h; trivial
 | a :: al, xs, v :: vs, h, hv => by
   simp only [wT] at h
   split at h
   ·rename_i x r h1 h2
    cases h
    exact ⟨RI hm h1 hv.1.1, Fv hm h2 hv.2⟩
   ·cases h
theorem Ku {w0 w : World} {I0 I : Nat → Nat → Prop} {B : Nat → Value} {m : Mem} (hm : MR w0 I0 B I m w) {j : Nat} {ty : TypeId} {cells : List A} {xs : List C} (hj : m j = some (.box ty cells)) (hx : wT m cells = some xs) :
 ∃ b us, B j = .pointer (some ⟨b, 0, none⟩) ∧ RCs w (qB B I m) us xs ∧ ∀ i x, us[i]? = some x → qB B I m b (0 + i) ∧ w.cell? ⟨b, 0 + i, none⟩ = some x := by
 obtain ⟨b, vs, h1, h2, h3, -⟩ := hm.objs j _ hj
 refine ⟨b, vs, h1, Fv hm hx h3, fun i x hi => ⟨.inr ⟨j, _, hj, ⟨0, h1⟩⟩, ?_⟩⟩
 simp only [World.cell?, h2]
 simpa using hi
theorem BH {w0 w : World} {I0 I : Nat → Nat → Prop} {B : Nat → Value} {m : Mem} (hm : MR w0 I0 B I m w) : ∀ {ids : List Nat} {caps : List (List C)}, nI m ids = some caps → RPs w (qB B I m) caps (ids.map B)
 | [], caps, h => by simp [nI] at h; subst h; trivial
 | j :: ids, caps, h => by
   simp only [nI] at h
   split at h
   ·rename_i ty cells hj
    split at h
    ·rename_i xs r hx hr
     cases h
     obtain ⟨b, us, h1, h2, h3⟩ := LD hm hj hx
     exact ⟨⟨b, 0, us, h1, h2, h3⟩, BH hm hr⟩
    ·cases h
   ·cases h
theorem A9 {w0 w : World} {I0 I : Nat → Nat → Prop} {B : Nat → Value} {m : Mem} (hm : MR w0 I0 B I m w) : ∀ {al al' : List A} {vs : List Value}, Bl m al al' → RVl B w I al vs → RVl B w (qB B I m) al' vs
 | [], [], [], _, _ => trivial
 | _ :: _, _ :: _, _ :: _, h, k => ⟨by
     rcases h.1 with (e | e | ⟨x, hx, e⟩) | ⟨j, ty, cells, xs, e1, hj, hx, e⟩ | ⟨f, ids, caps, e1, hcp, e⟩ | ⟨id, ty, e0, xs, e1, hj, e⟩
     ·rw [e]; exact k.1.mono vQ fun _ _ => rfl
     ·rw [e]; trivial
     ·rw [e]; exact RC.mono vQ (lV hm hx k.1)
     ·rw [e]
      have k1 := k.1
      rw [e1] at k1
      obtain ⟨b, h1, h2⟩ := k1
      obtain ⟨b', us, h3, h4, h5⟩ := Ku hm hj hx
      rw [h1] at h3; cases h3
      exact ⟨b, 0, us, h2, h4, h5⟩
     ·rw [e]
      have k1 := k.1
      rw [e1] at k1
      exact ⟨ids.map B, k1, BH hm hcp⟩
     ·rw [e]
      have k1 := k.1
      rw [e1] at k1
      rw [k1.1]
      exact Fp (fun _ _ h => .inl h) (fun b hb o => .inr ⟨id, _, hj, hb⟩) (hm.objs _ _ hj), A9 hm h.2 k.2⟩
theorem IJ {B : Nat → Value} {w : World} {I : Nat → Nat → Prop} : ∀ {caps : List (List C)} {ps : List Value}, RPs w I caps ps → RVl B w I (caps.map A.rptr) ps
 | [], [], _ => trivial
 | _ :: _, _ :: _, ⟨h, k⟩ => ⟨h, IJ k⟩
section
variable {P : Go.Program} {T : Tab} (hT : T.Ok P) {R : Ref} {w : World} {n base : Nat} {ds : List Deferred} {ops : Array Oper} {o : Oper} {st : St} {r : A} {ob : Option O} {a : Act}
include hT
theorem HV.snd (h : HV P T base ops o st r ob) (hr : SR R n ds st a w) (hd : ∀ d, o.dst = some d → d < n) {K : Act → World → Prop} {Q : Exit → Act → World → Prop} (hK : ∀ a' w', SR R n ds ⟨dw st.s o.dst r, st.m.put (lQ base o) ob⟩ a' w' → K a' w') :
 if Region.wanted o (yielded ops a.tmps) = true then o.wp P a w K Q else K (a.put o.dst undef) w := by
 obtain ⟨B, I, hm, hx0, hkp, hs⟩ := hr.ex
 have hd' : ∀ d, o.dst = some d → d < a.tmps.size := fun d e => by rw [hr.size]; exact hd d e
 have done : ∀ {B' : Nat → Value} {I' : Nat → Nat → Prop} {w' : World} {v : Value}, MR R.w0 R.I0 B' I' (st.m.put (lQ base o) ob) w' → Ext w w' I I' → (∀ j, (st.m j).isSome = true → B' j = B j) → (∀ t, RV B' w' I' (st.s t) (a.tmps.getD t undef)) → RV B' w' I' r v → (∀ j ∈ r.ids, (st.m.put (lQ base o) ob j).isSome = true) → K (a.put o.dst v) w' :=
  fun h1 he hb h2 h3 h4 => hK _ _ ⟨⟨_, _, h1, hx0.trans he, fun j hj => (hb j (hr.kept j hj)).trans (hkp j hj), uz h2 h3 hd'⟩, vX (fun t j hj => qL (hr.ids t j hj)) h4, by rw [(fJ _ _ _).1]; exact hr.size, hr.nn, by rw [(fJ _ _ _).2]; show a.defers = dfs (dw st.s o.dst r DID) ++ ds; rw [E5 hr.nn hd]; exact hr.defs, fun j hj => qL (hr.kept j hj)⟩
 cases h with
 | skip h =>
   rw [fP hs h]
   rw [if_neg (by simp)]
   exact done hm (Ext.refl _ _) (fun _ _ => rfl) hs rfl (fun j hj => by simp [A.ids] at hj)
 | val h hq hid hdd =>
   rw [fP hs h, if_pos rfl]
   obtain ⟨v, w', B', I', h1, h2, h3, h4, h5, h6, h7⟩ := QI hT (a := a) hm hs hr.ids hid hq
   unfold Oper.wp Oper.upon
   rw [h1]
   exact done h2 (hm.ext h3 h4) h5 (fun t => (hs t).mono (hm.ext h3 h4) fun j hj => h5 j (hr.ids t j hj)) h6 h7
 | @call _ c x f ids args h hop hc hx hb ha hk =>
   rw [fP hs h, if_pos rfl]
   have hev := iK hs
   have hfv : a.eval x = .func (.func f) #[] (ids.map B).toArray := by have := hev x; rw [hx] at this; exact this
   have hrv := rV hm ha ((nS hev c.args.toList).append (ny hm hb))
   have hcl := hk.2.2 st.m (fun _ _ => rfl) R.w0 R.I0 B I w _ hm hrv
   unfold Oper.wp Oper.upon
   have hrun : (execOp a.eval o).run P w = .ok (.enter f (c.args.toList.map a.eval ++ ids.map B).toArray) w := by
    simp only [execOp, hop, resolve, hc, hfv, Deferred.ofValue, Sem.run_bind, Sem.run_pure, Result.andThen_ok, invoke]
    rw [show (#[] ++ Array.map a.eval c.args ++ (List.map B ids).toArray) = (List.map a.eval c.args.toList ++ List.map B ids).toArray by rw [← List.map_toArray]; simp]
    exact hk.1 _ _
   rw [hrun]
   refine hcl.mono ?_
   rintro e w' ⟨v, I', rfl, h1, h2, h3, h4⟩
   exact done (hm.grow h1 h2 h3) (hm.ext h1 h2) (fun _ _ => rfl) (fun t => (hs t).mono (hm.ext h1 h2) fun _ _ => rfl) h4 (fun j hj => by rw [hk.2.1] at hj; simp at hj)
 | @callF _ c x f caps args h hop hc hx ha hk =>
   rw [fP hs h, if_pos rfl]
   have hev := iK hs
   have hfx := hev x
   rw [hx] at hfx
   obtain ⟨ps, hfv, hps⟩ := hfx
   have hrv := rV hm ha ((nS hev c.args.toList).append (IJ hps))
   have hcl := hk.2.2 st.m (fun _ _ => rfl) R.w0 R.I0 B I w _ hm hrv
   unfold Oper.wp Oper.upon
   have hrun : (execOp a.eval o).run P w = .ok (.enter f (c.args.toList.map a.eval ++ ps).toArray) w := by
    simp only [execOp, hop, resolve, hc, hfv, Deferred.ofValue, Sem.run_bind, Sem.run_pure, Result.andThen_ok, invoke]
    rw [show (#[] ++ Array.map a.eval c.args ++ ps.toArray) = (List.map a.eval c.args.toList ++ ps).toArray by simp]
    exact hk.1 _ _
   rw [hrun]
   refine hcl.mono ?_
   rintro e w' ⟨v, I', rfl, h1, h2, h3, h4⟩
   exact done (hm.grow h1 h2 h3) (hm.ext h1 h2) (fun _ _ => rfl) (fun t => (hs t).mono (hm.ext h1 h2) fun _ _ => rfl) h4 (fun j hj => by rw [hk.2.1] at hj; simp at hj)
 | @callR _ c x f ids args h hop hc hx hb ha hi hf hk =>
   rw [fP hs h, if_pos rfl]
   have hev := iK hs
   have hfv : a.eval x = .func (.func f) #[] (ids.map B).toArray := by have := hev x; rw [hx] at this; exact this
   have hrv := A9 hm ha ((nS hev c.args.toList).append (ny hm hb))
   have hcl := (hk Mem.nil).2.2 Mem.nil (fun _ _ => rfl) R.w0 R.I0 B _ w _ (Jk hm) hrv
   unfold Oper.wp Oper.upon
   have hrun : (execOp a.eval o).run P w = .ok (.enter f (c.args.toList.map a.eval ++ ids.map B).toArray) w := by
    simp only [execOp, hop, resolve, hc, hfv, Deferred.ofValue, Sem.run_bind, Sem.run_pure, Result.andThen_ok, invoke]
    rw [show (#[] ++ Array.map a.eval c.args ++ (List.map B ids).toArray) = (List.map a.eval c.args.toList ++ List.map B ids).toArray by rw [← List.map_toArray]; simp]
    exact (hk Mem.nil).1 _ _
   rw [hrun]
   refine hcl.mono ?_
   rintro e w' ⟨v, I', rfl, h1, h2, h3, h4⟩
   have hIe : ∀ b o, I b o → I b o := fun _ _ h => h
   exact done (hm.grow h1 hIe (fun _ _ h => .inl h)) (hm.ext h1 hIe) (fun _ _ => rfl) (fun t => (hs t).mono (hm.ext h1 hIe) fun _ _ => rfl) (NK hf h4) (fun j hj => by rw [(hk Mem.nil).2.1] at hj; simp at hj)
end
theorem kS {m m' : Mem} {a : A} (h : ∀ j ∈ a.ids, m' j = m j) : asC m' a = asC m a := by
 cases a with
 | own id => simp only [asC]; rw [h id (by simp [A.ids])]
 | _ => rfl
theorem pX {m m' : Mem} {a : A} (h : ∀ j ∈ a.ids, m' j = m j) : jh m' a = jh m a := by
 cases a <;> simp only [jh] <;> rw [kS h]
theorem uf {m m' : Mem} : ∀ {l : List A}, (∀ a ∈ l, ∀ j ∈ a.ids, m' j = m j) → qD m' l = qD m l
 | [], _ => rfl
 | a :: l, h => by simp only [qD]; rw [kS (h a (by simp)), uf fun b hb => h b (by simp [hb])]
theorem Jt {m m' : Mem} {a : A} (h : ∀ j ∈ a.ids, m' j = m j) : asL m' a = asL m a := by
 cases a with
 | own id => simp only [asL]; rw [h id (by simp [A.ids])]
 | _ => exact kS h
theorem sW {m m' : Mem} : ∀ {l : List A}, (∀ a ∈ l, ∀ j ∈ a.ids, m' j = m j) → wT m' l = wT m l
 | [], _ => rfl
 | a :: l, h => by simp only [wT]; rw [Jt (h a (by simp)), sW fun b hb => h b (by simp [hb])]
theorem MO {T : Tab} {m m' : Mem} {ty : Nat} {l : List A} (h : ∀ a ∈ l, ∀ j ∈ a.ids, m' j = m j) : ld T m' ty l = ld T m ty l := by
 unfold ld
 split
 ·rw [uf fun a ha => h a (List.mem_of_mem_take ha)]
 ·rfl
 ·rfl
theorem Js {T : Tab} {s s' : Nat → A} {m m' : Mem} {id : Nat} {op : Op} (hs : ∀ x ∈ op.operands, ev s' x = ev s x) (hm : ∀ j, (m j).isSome = true → m' j = m j) (hl : ∀ x, ∀ j ∈ (ev s x).ids, (m j).isSome = true) (hw : ∀ id o, m id = some o → ∀ j ∈ o.ids, (m j).isSome = true) :
 qv1 T s' m' id op = qv1 T s m id op := by
 have hml : ∀ x, ∀ j ∈ (ev s x).ids, m' j = m j := fun x j hj => hm j (hl x j hj)
 have hac : ∀ x, asC m' (ev s x) = asC m (ev s x) := fun x => kS (hml x)
 cases op with
 | move x => simp only [qv1]; rw [hs x fA]
 | assign x => simp only [qv1]; rw [hs x fA]
 | pick c a b => simp only [qv1]; rw [hs c fA, hs a fA, hs b fA]
 | box ty x => simp only [qv1]; rw [hs x fA]
 | alloc ty => rfl
 | load ty x =>
   simp only [qv1]
   rw [hs x fA]
   have hx := hml x
   split
   ·rename_i j off e
    rw [e] at hx
    rw [hx j (by simp [A.ids])]
    split
    ·rename_i ty' cells hj
     rw [MO fun a ha i hi => hm i (hw j _ hj i (List.mem_flatMap.2 ⟨a, List.mem_of_mem_drop ha, hi⟩))]
    ·rfl
   ·rfl
   ·rfl
 | fieldAddr ty x f => simp only [qv1]; rw [hs x fA]
 | field ty x f => simp only [qv1]; rw [hs x fA]
 | indexAddr ty x i => simp only [qv1]; rw [hs x fA, hs i fA, hac x]
 | binOp op ty x y yt => simp only [qv1]; rw [hs x fA, hs y fA]
 | unOp op ty x =>
   cases op with
   | not => simp only [qv1]; rw [hs x fA]
   | _ => rfl
 | extract x i => simp only [qv1]; rw [hs x fA]
 | makeFunc fn first caps =>
   cases fn with
   | func f =>
     simp only [qv1]
     rw [show caps.toList.map (ev s') = caps.toList.map (ev s) from List.map_congr_left fun x hx => hs x (by simp [Op.operands]; exact .inr uQ)]
   | _ => rfl
 | nilCheck x => simp only [qv1]; rw [hs x fA]
 | slice ty x lo hi mx =>
   cases mx with
   | some y => rfl
   | none =>
     simp only [qv1]
     rw [hs x fA, hac x]
     rw [show lo.map (ev s') = lo.map (ev s) by cases lo with | none => rfl | some y => simp [hs y fA],
      show hi.map (ev s') = hi.map (ev s) by cases hi with | none => rfl | some y => simp [hs y fA]]
 | build ty parts =>
   simp only [qv1]
   rw [show (parts.toList.map fun p => (p.1, jh m' (ev s' p.2))) = parts.toList.map fun p => (p.1, jh m (ev s p.2)) from List.map_congr_left fun p hp => by
    have e : ev s' p.2 = ev s p.2 := hs p.2 PU
    simp only [e, pX (hml p.2)]]
 | buildSlice ty len parts =>
   simp only [qv1]
   rw [show (parts.toList.map fun p => (p.1, jh m' (ev s' p.2))) = parts.toList.map fun p => (p.1, jh m (ev s p.2)) from List.map_congr_left fun p hp => by
    have e : ev s' p.2 = ev s p.2 := hs p.2 PU
    simp only [e, pX (hml p.2)]]
 | call c =>
   simp only [qv1]
   split
   ·rename_i x t hc hargs hty
    have hx : x ∈ (Op.call c).operands := by
     simp only [Op.operands, Call.operands]
     have : x ∈ c.args := by rw [← Array.mem_toList_iff, hargs]; simp
     exact Array.mem_append.2 (.inr this)
    rw [hs x hx, hac x]
   ·rfl
 | _ => rfl
theorem Kg {m m' : Mem} {a : A} (h : ∀ j ∈ a.ids, m' j = m j) : toR m' a = toR m a := by unfold toR; cases a <;> simp [kS h]
theorem J9 {T : Tab} {s s' : Nat → A} {m m' : Mem} {id : Nat} {op : Op} (hs : ∀ x ∈ op.operands, ev s' x = ev s x) (hm : ∀ j, (m j).isSome = true → m' j = m j) (hl : ∀ x, ∀ j ∈ (ev s x).ids, (m j).isSome = true) :
 qv2 T s' m' id op = qv2 T s m id op := by
 have hml : ∀ x, ∀ j ∈ (ev s x).ids, m' j = m j := fun x j hj => hm j (hl x j hj)
 cases op with
 | buildSlice ty len parts =>
   simp only [qv2]
   rw [show (parts.toList.map fun p => (p.1, jh m' (ev s' p.2))) = parts.toList.map fun p => (p.1, jh m (ev s p.2)) from List.map_congr_left fun p hp => by
    have e : ev s' p.2 = ev s p.2 := hs p.2 PU
    simp only [e, pX (hml p.2)]]
 | build ty parts =>
   simp only [qv2]
   rw [show (parts.toList.map fun p => (p.1, vO (ev s' p.2))) = parts.toList.map fun p => (p.1, vO (ev s p.2)) from List.map_congr_left fun p hp => by
    have e : ev s' p.2 = ev s p.2 := hs p.2 PU
    simp only [e]]
 | load ty x =>
   simp only [qv2]
   rw [hs x fA]
   have hx := hml x
   split
   ·rename_i j e i f ex
    rw [ex] at hx
    rw [hx j (by simp [A.ids])]
   ·rfl
 | fieldAddr ty x f => simp only [qv2]; rw [hs x fA]
 | field ty x f => simp only [qv2]; rw [hs x fA]
 | indexAddr ty x i =>
   simp only [qv2]
   rw [hs x fA, hs i fA]
   have hx := hml x
   split
   ·rename_i et n j k kn he ex ei
    rw [ex] at hx
    rw [hx j (by simp [A.ids])]
   ·rfl
 | nilCheck x => simp only [qv2]; rw [hs x fA]
 | slice ty x lo hi mx =>
   cases mx with
   | some y => rfl
   | none =>
     simp only [qv2]
     rw [hs x fA]
     rw [show lo.map (ev s') = lo.map (ev s) by cases lo with | none => rfl | some y => simp [hs y fA],
      show hi.map (ev s') = hi.map (ev s) by cases hi with | none => rfl | some y => simp [hs y fA]]
     have hx := hml x
     split
     ·rename_i et n j he ex
      rw [ex] at hx
      rw [hx j (by simp [A.ids])]
     ·rfl
 | makeSlice t l c => simp only [qv2]; rw [hs l fA, hs c fA]
 | makeMap t rs => cases rs <;> rfl
 | lookup t x k ok =>
   simp only [qv2]
   rw [hs x fA, hs k fA]
   have hx := hml x
   split
   ·split
    ·split
     ·rename_i j ex
      rw [ex] at hx
      rw [hx j (by simp [A.ids])]
     ·rfl
     ·rfl
    ·rfl
   ·rfl
 | binOp op t x y pos => simp only [qv2]; rw [hs x fA, hs y fA]
 | convert ta tb x => simp only [qv2]; rw [hs x fA]
 | unOp op ty x =>
   cases op with
   | neg => simp only [qv2]; rw [hs x fA]
   | _ => rfl
 | extract x i => simp only [qv2]; rw [hs x fA]
 | makeInterface t x => simp only [qv2]; rw [hs x fA, Kg (hml x)]
 | call c =>
   simp only [qv2]
   split
   ·rename_i x t hc hargs hty
    have hx : x ∈ (Op.call c).operands := by
     simp only [Op.operands, Call.operands]
     have : x ∈ c.args := by rw [← Array.mem_toList_iff, hargs]; simp
     exact Array.mem_append.2 (.inr this)
    rw [hs x hx]
    have hy := hml x
    split
    ·rename_i j ex
     rw [ex] at hy
     rw [hy j (by simp [A.ids])]
    ·rename_i j ex
     rw [ex] at hy
     rw [hy j (by simp [A.ids])]
    ·rfl
    ·rfl
    ·rfl
   ·rename_i x y hc hargs
    have hx : x ∈ (Op.call c).operands := by
     simp only [Op.operands, Call.operands]
     have : x ∈ c.args := by rw [← Array.mem_toList_iff, hargs]; simp
     exact Array.mem_append.2 (.inr this)
    have hy : y ∈ (Op.call c).operands := by
     simp only [Op.operands, Call.operands]
     have : y ∈ c.args := by rw [← Array.mem_toList_iff, hargs]; simp
     exact Array.mem_append.2 (.inr this)
    rw [hs x hx, hs y hy]
   ·rename_i x y hc hargs
    have hx : x ∈ (Op.call c).operands := by
     simp only [Op.operands, Call.operands]
     have : x ∈ c.args := by rw [← Array.mem_toList_iff, hargs]; simp
     exact Array.mem_append.2 (.inr this)
    have hy : y ∈ (Op.call c).operands := by
     simp only [Op.operands, Call.operands]
     have : y ∈ c.args := by rw [← Array.mem_toList_iff, hargs]; simp
     exact Array.mem_append.2 (.inr this)
    rw [hs x hx, hs y hy]
   ·rename_i x y z hc hargs
    have hop : ∀ u ∈ [x, y, z], u ∈ (Op.call c).operands := fun u hu => by
     simp only [Op.operands, Call.operands]
     have : u ∈ c.args := by rw [← Array.mem_toList_iff, hargs]; exact hu
     exact Array.mem_append.2 (.inr this)
    rw [hs x (hop x (by simp)), hs y (hop y (by simp)), hs z (hop z (by simp))]
   ·rename_i x y z hc hargs
    have hop : ∀ u ∈ [x, y, z], u ∈ (Op.call c).operands := fun u hu => by
     simp only [Op.operands, Call.operands]
     have : u ∈ c.args := by rw [← Array.mem_toList_iff, hargs]; exact hu
     exact Array.mem_append.2 (.inr this)
    rw [hs x (hop x (by simp)), hs y (hop y (by simp)), hs z (hop z (by simp))]
   ·rfl
 | _ => rfl
theorem MZ {T : Tab} {s s' : Nat → A} {m m' : Mem} {id : Nat} {op : Op} (hs : ∀ x ∈ op.operands, ev s' x = ev s x) (hm : ∀ j, (m j).isSome = true → m' j = m j) (hl : ∀ x, ∀ j ∈ (ev s x).ids, (m j).isSome = true) (hw : ∀ id o, m id = some o → ∀ j ∈ o.ids, (m j).isSome = true) :
 qv T s' m' id op = qv T s m id op := by
 unfold qv
 rw [Js hs hm hl hw, J9 hs hm hl]
theorem yB {m m' : Mem} {args : List A} (hl : ∀ a ∈ args, ∀ j ∈ a.ids, (m j).isSome = true) (hm : ∀ j, (m j).isSome = true → m' j = m j) (hw : ∀ id o, m id = some o → ∀ j ∈ o.ids, (m j).isSome = true) {j : Nat} :
 (Reach m args j → Reach m' args j ∧ (m j).isSome = true) ∧ (Reach m' args j → Reach m args j ∧ (m j).isSome = true) := by
 constructor
 ·intro h
  induction h with
  | arg h hj => exact ⟨.arg h hj, hl _ h _ hj⟩
  | obj h ho hj ih => exact ⟨.obj ih.1 ((hm _ ih.2).trans ho) hj, hw _ _ ho _ hj⟩
 ·intro h
  induction h with
  | arg h hj => exact ⟨.arg h hj, hl _ h _ hj⟩
  | obj h ho hj ih => rw [hm _ ih.2] at ho; exact ⟨.obj ih.1 ho hj, hw _ _ ho _ hj⟩
theorem rR {m m' : Mem} : ∀ {l l' : List A}, (∀ a ∈ l, ∀ j ∈ a.ids, m' j = m j) → (Cvs m l l' ↔ Cvs m' l l')
 | [], [], _ => Iff.rfl
 | [], _ :: _, _ => Iff.rfl
 | _ :: _, [], _ => Iff.rfl
 | a :: l, a' :: l', h => by
   simp only [Cvs, Cv]
   rw [kS (h a (by simp)), rR (l := l) (l' := l') fun b hb => h b (by simp [hb])]
theorem DI {m : Mem} : ∀ {l l' : List A}, Cvs m l l' → (∀ a ∈ l, ∀ j ∈ a.ids, (m j).isSome = true) → ∀ a ∈ l', ∀ j ∈ a.ids, (m j).isSome = true
 | [], [], _, h => h
 | a :: l, a' :: l', hc, h => fun b hb j hj => by
   rcases List.mem_cons.1 hb with rfl | hb
   ·rcases hc.1 with e | e | ⟨x, -, e⟩
    ·rw [e] at hj; exact h a (by simp) j hj
    ·rw [e] at hj; simp [A.ids] at hj
    ·rw [e] at hj; simp [A.ids] at hj
   ·exact DI hc.2 (fun b hb => h b (by simp [hb])) b hb j hj
theorem Aj {ops : Array Oper} {o : Oper} {s s' : Nat → A} (h : ∀ t ∈ o.looksAt ops, s' t = s t) : ∀ x ∈ o.op.operands, ev s' x = ev s x := fun x hx => by
 cases x with
 | tmp t => exact h t (List.mem_append_left _ (List.mem_filterMap.2 ⟨.tmp t, by simpa using hx, rfl⟩))
 | _ => rfl
section
variable {P : Go.Program} {T : Tab} {base : Nat} {ops : Array Oper}
theorem qC {o : Oper} {s s' : Nat → A} (h : ∀ t ∈ o.looksAt ops, s' t = s t) : fE ops o s' = fE ops o s := by
 unfold fE
 split
 ·rfl
 ·rename_i j want hg
  have : wC ops s' j = wC ops s j := by
   unfold wC
   split
   ·rfl
   ·rename_i d hd
    rw [h d (List.mem_append_right _ (by rw [hg]; simp [hd]))]
  rw [this]
theorem HV.both {o : Oper} {st st' : St} {r : A} {ob : Option O} (hs : ∀ t ∈ o.looksAt ops, st'.s t = st.s t) (hm : ∀ j, (st.m j).isSome = true → st'.m j = st.m j) (hw : WF st) :
 (HV P T base ops o st r ob → (ob.isSome = true → st'.m (lQ base o) = none) → HV P T base ops o st' r ob) ∧ (HV P T base ops o st' r ob → (ob.isSome = true → st.m (lQ base o) = none) → HV P T base ops o st r ob) := by
 have he := Aj hs
 have hel : ∀ x, ∀ j ∈ (ev st.s x).ids, (st.m j).isSome = true := tq hw.ids
 have hq := MZ (T := T) (id := lQ base o) he hm hel hw.live
 have hwt := qC hs
 -- calls
 have hcall : ∀ {c : Call} {x : Operand} {f : FuncId} {ids : List Nat} {args : List A}, o.op = .call c → c.callee = .value x → (ev st.s x = .fn f ids) → 
  ((ev st'.s x = .fn f ids) ∧ c.args.toList.map (ev st'.s) = c.args.toList.map (ev st.s) ∧ (Cvs st.m (c.args.toList.map (ev st.s) ++ ids.map (A.ptr · 0)) args ↔ Cvs st'.m (c.args.toList.map (ev st.s) ++ ids.map (A.ptr · 0)) args) ∧
    (Cvs st.m (c.args.toList.map (ev st.s) ++ ids.map (A.ptr · 0)) args → (COk P f args st.m r ↔ COk P f args st'.m r))) := by
  intro c x f ids args hop hc hx
  have hxo : x ∈ o.op.operands := by rw [hop]; simp [Op.operands, Call.operands, hc]
  have hl : ∀ a ∈ c.args.toList.map (ev st.s) ++ ids.map (A.ptr · 0), ∀ j ∈ a.ids, (st.m j).isSome = true := by
   intro a ha j hj
   rcases List.mem_append.1 ha with ha | ha
   ·obtain ⟨y, -, rfl⟩ := List.mem_map.1 ha; exact hel y j hj
   ·obtain ⟨i, hi, rfl⟩ := List.mem_map.1 ha
    simp [A.ids] at hj
    subst hj
    exact hel x j (by rw [hx]; exact hi)
  refine ⟨(he x hxo).trans hx, List.map_congr_left fun y hy => he y ?_, rR fun a ha j hj => hm j (hl a ha j hj), fun ha => ?_⟩
  ·rw [hop]; simp [Op.operands, Call.operands, hc]; exact .inr (by simpa using hy)
  ·have hl' := DI ha hl
   have hre := fun j => yB (j := j) hl' hm hw.live
   constructor
   ·rintro ⟨h1, h2, h3⟩
    exact ⟨h1, h2, fun m' hm' => h3 m' fun j hj => (hm' j ((hre j).1 hj).1).trans (hm j ((hre j).1 hj).2)⟩
   ·rintro ⟨h1, h2, h3⟩
    exact ⟨h1, h2, fun m' hm' => h3 m' fun j hj => (hm' j ((hre j).2 hj).1).trans (hm j ((hre j).2 hj).2).symm⟩
 have capsC : ∀ {ids : List Nat}, (∀ j ∈ ids, (st.m j).isSome = true) → nI st'.m ids = nI st.m ids := fun {ids} hi => by
  induction ids with
  | nil => rfl
  | cons j ids ih =>
    simp only [nI]
    rw [hm j (hi j (by simp))]
    split
    ·rename_i ty cells hj
     rw [uf fun a ha i hia => hm i (hw.live j _ hj i (List.mem_flatMap.2 ⟨a, ha, hia⟩)), ih fun i hi' => hi i (List.mem_cons_of_mem _ hi')]
    ·rfl
 have cvrC : ∀ {l l' : List A}, (∀ a ∈ l, ∀ j ∈ a.ids, (st.m j).isSome = true) → (Bl st.m l l' ↔ Bl st'.m l l') := fun {l} => by
  induction l with
  | nil => intro l' _; cases l' <;> exact Iff.rfl
  | cons a l ih =>
    intro l' hl
    cases l' with
    | nil => exact Iff.rfl
    | cons a' l' =>
      have h1 := hl a (by simp)
      have hCv : Cv st.m a a' ↔ Cv st'.m a a' := by
       unfold Cv
       rw [kS fun j hj => hm j (h1 j hj)]
      refine and_congr (or_congr hCv (or_congr ?_ (or_congr ?_ ?_))) (ih fun b hb => hl b (List.mem_cons_of_mem _ hb))
      ·constructor
       ·rintro ⟨j, ty, cells, xs, e1, hj, hx, e⟩
        refine ⟨j, ty, cells, xs, e1, (hm j (by simp [hj])).trans hj, ?_, e⟩
        rw [sW fun a ha i hia => hm i (hw.live j _ hj i (List.mem_flatMap.2 ⟨a, ha, hia⟩))]; exact hx
       ·rintro ⟨j, ty, cells, xs, e1, hj, hx, e⟩
        have hj' : st.m j = some (.box ty cells) := (hm j (h1 j (by rw [e1]; simp [A.ids]))).symm.trans hj
        refine ⟨j, ty, cells, xs, e1, hj', ?_, e⟩
        rw [sW fun a ha i hia => hm i (hw.live j _ hj' i (List.mem_flatMap.2 ⟨a, ha, hia⟩))] at hx; exact hx
      ·constructor
       ·rintro ⟨f, ids, caps, e1, hc, e⟩
        exact ⟨f, ids, caps, e1, by rw [capsC fun j hj => h1 j (by rw [e1]; exact hj)]; exact hc, e⟩
       ·rintro ⟨f, ids, caps, e1, hc, e⟩
        exact ⟨f, ids, caps, e1, by rw [capsC fun j hj => h1 j (by rw [e1]; exact hj)] at hc; exact hc, e⟩
      ·constructor
       ·rintro ⟨j, ty, k, xs, e1, hj, e⟩
        exact ⟨j, ty, k, xs, e1, (hm j (by simp [hj])).trans hj, e⟩
       ·rintro ⟨j, ty, k, xs, e1, hj, e⟩
        exact ⟨j, ty, k, xs, e1, (hm j (h1 j (by rw [e1]; simp [A.ids]))).symm.trans hj, e⟩
 have argsL : ∀ {c : Call} {x : Operand} {f : FuncId} {ids : List Nat}, ev st.s x = .fn f ids → ∀ a ∈ c.args.toList.map (ev st.s) ++ ids.map (A.ptr · 0), ∀ j ∈ a.ids, (st.m j).isSome = true := by
  intro c x f ids hx a ha j hj
  rcases List.mem_append.1 ha with ha | ha
  ·obtain ⟨y, -, rfl⟩ := List.mem_map.1 ha; exact hel y j hj
  ·obtain ⟨i, hi, rfl⟩ := List.mem_map.1 ha
   simp [A.ids] at hj
   subst hj
   exact hel x j (by rw [hx]; exact hi)
 have argsE : ∀ {c : Call}, o.op = .call c → c.args.toList.map (ev st'.s) = c.args.toList.map (ev st.s) := fun {c} hop => List.map_congr_left fun y hy => he y (by rw [hop]; simp [Op.operands, Call.operands]; exact .inr (by simpa using hy))
 have valE : ∀ {c : Call} {x : Operand}, o.op = .call c → c.callee = .value x → ev st'.s x = ev st.s x := fun {c x} hop hc => he x (by rw [hop]; simp [Op.operands, Call.operands, hc])
 have argsF : ∀ {c : Call} {caps : List (List C)}, ∀ a ∈ c.args.toList.map (ev st.s) ++ caps.map A.rptr, ∀ j ∈ a.ids, (st.m j).isSome = true := by
  intro c caps a ha j hj
  rcases List.mem_append.1 ha with ha | ha
  ·obtain ⟨y, -, rfl⟩ := List.mem_map.1 ha; exact hel y j hj
  ·obtain ⟨i, hi, rfl⟩ := List.mem_map.1 ha
   simp [A.ids] at hj
 have cokE : ∀ {f : FuncId} {l args : List A} {r : A}, Cvs st.m l args → (∀ a ∈ l, ∀ j ∈ a.ids, (st.m j).isSome = true) → (COk P f args st.m r ↔ COk P f args st'.m r) := fun {f l args r} ha hl => by
  have hl' := DI ha hl
  have hre := fun j => yB (j := j) hl' hm hw.live
  constructor
  ·rintro ⟨h1, h2, h3⟩
   exact ⟨h1, h2, fun m' hm' => h3 m' fun j hj => (hm' j ((hre j).1 hj).1).trans (hm j ((hre j).1 hj).2)⟩
  ·rintro ⟨h1, h2, h3⟩
   exact ⟨h1, h2, fun m' hm' => h3 m' fun j hj => (hm' j ((hre j).2 hj).1).trans (hm j ((hre j).2 hj).2).symm⟩
 constructor
 ·intro h hid
  cases h with
  | callF h hop hc hx ha hk =>
    refine .callF (hwt.trans h) hop hc ((valE hop hc).trans hx) (by rw [argsE hop]; exact (rR fun a ha j hj => hm j (argsF a ha j hj)).1 ha) ((cokE ha argsF).1 hk)
  | callR h hop hc hx hb ha hi hf hk =>
    exact .callR (hwt.trans h) hop hc ((valE hop hc).trans hx) (fun j hj => let ⟨ty, cells, e⟩ := hb j hj; ⟨ty, cells, (hm j (by simp [e])).trans e⟩) (by rw [argsE hop]; exact (cvrC (argsL hx)).1 ha) hi hf hk
  | skip h => exact .skip (hwt.trans h)
  | val h h2 h3 hdd => exact .val (hwt.trans h) (hq.trans h2) hid hdd
  | call h hop hc hx hb ha hk =>
    obtain ⟨k1, k2, k3, k4⟩ := hcall hop hc hx
    exact .call (hwt.trans h) hop hc k1 (fun j hj => let ⟨ty, cells, e⟩ := hb j hj; ⟨ty, cells, (hm j (by simp [e])).trans e⟩) (by rw [k2]; exact k3.1 ha) ((k4 ha).1 hk)
 ·intro h hid
  cases h with
  | callF h hop hc hx ha hk =>
    rw [argsE hop] at ha
    have ha' := (rR fun a ha j hj => hm j (argsF a ha j hj)).2 ha
    exact .callF (hwt.symm.trans h) hop hc ((valE hop hc).symm.trans hx) ha' ((cokE ha' argsF).2 hk)
  | callR h hop hc hx hb ha hi hf hk =>
    have hx' := (valE hop hc).symm.trans hx
    rw [argsE hop] at ha
    exact .callR (hwt.symm.trans h) hop hc hx' (fun j hj => let ⟨ty, cells, e⟩ := hb j hj; ⟨ty, cells, (hm j (hel _ j (by rw [hx']; exact hj))).symm.trans e⟩) ((cvrC (argsL hx')).2 ha) hi hf hk
  | skip h => exact .skip (hwt.symm.trans h)
  | val h h2 h3 hdd => exact .val (hwt.symm.trans h) (hq.symm.trans h2) hid hdd
  | @call _ c x f ids args h hop hc hx hb ha hk =>
    have hxo : x ∈ o.op.operands := by rw [hop]; simp [Op.operands, Call.operands, hc]
    have hx' : ev st.s x = .fn f ids := (he x hxo).symm.trans hx
    obtain ⟨k1, k2, k3, k4⟩ := hcall (args := args) hop hc hx'
    rw [k2] at ha
    have ha' := k3.2 ha
    exact .call (hwt.symm.trans h) hop hc hx' (fun j hj => let ⟨ty, cells, e⟩ := hb j hj; ⟨ty, cells, (hm j (hel x j (by rw [hx']; exact hj))).symm.trans e⟩) ha' ((k4 ha').2 hk)
def vI (cells : List A) (off : Nat) (l : List A) : List A := cells.take off ++ (l ++ cells.drop (off + l.length))
def qW (cells : List C) (off : Nat) (l : List C) : List C := cells.take off ++ (l ++ cells.drop (off + l.length))
def xI : A → Option (List C)
 | .c x => some [x]
 | .agg xs => some xs
 | .nil => some [.sl []]
 | .nn xs => some [.sl xs]
 | _ => none
def qG : A → Option Nat
 | .ptr j _ => some j
 | .eptr j _ _ _ => some j
 | _ => none
def stO (T : Tab) (ty : Nat) (a v : A) : O → Option O
 | .box ty0 cells => match a, T.ty ty, gQ v with
   | .ptr _ off, some (n, _), some l => if l.length = n ∧ off + l.length ≤ cells.length then some (.box ty0 (vI cells off l)) else none
   | _, _, _ => none
 | .mrow ty0 e xs => match a, T.ty ty, xI v with
   | .eptr _ e' i f, some (n, _), some l => if e' = e ∧ l.length = n ∧ f + l.length ≤ e then (match xs[i]? with | some cs => some (.mrow ty0 e (xs.set i (qW cs f l))) | none => none) else none
   | _, _, _ => none
 | .rows ty0 xs => match a, T.ty ty, gQ v with
   | .eptr _ e i f, some (n, _), some [b] => if e = 1 ∧ n = 1 ∧ f = 0 ∧ i < xs.length then (match b.down with | some y => some (.rows ty0 (xs.set i y)) | none => none) else none
   | _, _, _ => none
 | _ => none
structure HStore (T : Tab) (ops : Array Oper) (o : Oper) (st : St) (ty : Nat) (x v : Operand) (j : Nat) (b b' : O) : Prop where
 want : fE ops o st.s = some true
 op : o.op = .store ty x v
 dst : o.dst = none
 at_ : qG (ev st.s x) = some j
 box : st.m j = some b
 new : stO T ty (ev st.s x) (ev st.s v) b = some b'
inductive Kind where | slot | read | store | barrier
 deriving DecidableEq
def kind (T : Tab) : Op → Kind
 | .move _ | .assign _ | .pick .. | .box .. | .alloc _ | .fieldAddr .. | .field .. | .binOp .. | .unOp .. | .extract .. | .makeFunc .. | .nilCheck _ | .makeSlice .. | .makeMap .. | .convert .. => .slot
 | .load .. | .indexAddr .. | .slice .. | .build .. | .buildSlice .. | .makeInterface .. | .lookup .. => .read
 | .call c => match c.callee with | .value (.func f) => if T.eff f = true then .barrier else .read | .builtin .len => .read | .builtin .min => .slot | .builtin .max => .slot | _ => .barrier
 | .store .. => .store
 | _ => .barrier
def indep (T : Tab) (ops : Array Oper) (x y : Oper) : Bool := x.apart ops y && (match kind T x.op, kind T y.op with
 | .slot, .slot | .slot, .read | .read, .slot | .read, .read | .store, .slot | .slot, .store => true
 | _, _ => false)
structure Eff (P : Go.Program) (T : Tab) (kp : Nat → Prop) (ops : Array Oper) (o : Oper) (st st' : St) : Prop where
 bar : kind T o.op = .barrier
 wf : WF st → WF st'
 run : ∀ (R : Ref) (n : Nat) (ds : List Deferred) (a : Act) (w : World) (K : Act → World → Prop) (Q : Exit → Act → World → Prop), R.keep = kp → SR R n ds st a w → (∀ d, o.dst = some d → d < n) → (∀ a' w', SR R n ds st' a' w' → K a' w') →
  if Region.wanted o (yielded ops a.tmps) = true then o.wp P a w K Q else K (a.put o.dst undef) w
inductive HS (P : Go.Program) (T : Tab) (kp : Nat → Prop) (base : Nat) (ops : Array Oper) (o : Oper) (st : St) : St → Prop where
 | val {r : A} {ob : Option O} (h : HV P T base ops o st r ob) : HS P T kp base ops o st ⟨dw st.s o.dst r, st.m.put (lQ base o) ob⟩
 | store {ty j : Nat} {x v : Operand} {b b' : O} (h : HStore T ops o st ty x v j b b') : HS P T kp base ops o st ⟨st.s, upd st.m j (some b')⟩
 | eff {st' : St} (h : Eff P T kp ops o st st') : HS P T kp base ops o st st'
theorem HV.new {o : Oper} {st : St} {r : A} {ob : Option O} (h : HV P T base ops o st r ob) : ob.isSome = true → st.m (lQ base o) = none ∧ ∃ d, o.dst = some d ∧ lQ base o = base + d := by
 intro hob
 cases h with
 | skip => cases hob
 | val h hq hid hd =>
   have := hd hob
   cases hdst : o.dst with
   | none => rw [hdst] at this; cases this
   | some d => exact ⟨hid hob, d, rfl, by simp [lQ, hdst]⟩
 | call => cases hob
 | callF => cases hob
 | callR => cases hob
theorem mG {s : Nat → A} {dst : Option Nat} {r : A} {l : List Nat} (h : ∀ d, dst = some d → d ∉ l) : ∀ t ∈ l, dw s dst r t = s t := by
 intro t ht
 cases dst with
 | none => rfl
 | some d => exact upd_ne _ _ (fun e => h d rfl (e ▸ ht))
theorem rX {m : Mem} {id : Nat} {ob : Option O} (h : ob.isSome = true → m id = none) : ∀ j, (m j).isSome = true → m.put id ob j = m j := by
 intro j hj
 cases ob with
 | none => rfl
 | some x => exact upd_ne _ _ (fun e => by subst e; rw [h rfl] at hj; cases hj)
theorem Ml {m : Mem} {id k : Nat} {ob : Option O} (h : m.put id ob k = none) : m k = none := by
 cases ob with
 | none => exact h
 | some x =>
   simp only [Mem.put, upd] at h
   split at h
   ·cases h
   ·exact h
theorem JI {s : Nat → A} {x y : Option Nat} (r q : A) (h : ∀ d, x = some d → y ≠ some d) : dw (dw s x r) y q = dw (dw s y q) x r := by
 cases x with
 | none => rfl
 | some d =>
   cases y with
   | none => rfl
   | some e =>
     have hne : d ≠ e := fun k => h d rfl (k ▸ rfl)
     funext t
     simp only [dw, upd]
     by_cases h1 : t = d <;> by_cases h2 : t = e <;> simp [h1, h2]
     ·subst h1; subst h2; exact absurd rfl hne
     ·intro k; exact absurd k hne
     ·intro k; exact absurd k.symm hne
theorem put_comm {m : Mem} {i j : Nat} {x y : Option O} (h : x.isSome = true → y.isSome = true → i ≠ j) : (m.put i x).put j y = (m.put j y).put i x := by
 cases x with
 | none => rfl
 | some x =>
   cases y with
   | none => rfl
   | some y =>
     have hne := h rfl rfl
     funext t
     simp only [Mem.put, upd]
     by_cases h1 : t = i <;> by_cases h2 : t = j <;> simp [h1, h2]
     ·subst h1; subst h2; exact absurd rfl hne
     ·intro k; exact absurd k hne
     ·intro k; exact absurd k.symm hne
theorem Iq {s : Nat → A} {m m' : Mem} {id : Nat} {op : Op} (h : kind T op = .slot) : qv T s m' id op = qv T s m id op := by
 have h1 : qv1 T s m' id op = qv1 T s m id op := by
  cases op with
  | call c =>
    simp only [kind] at h
    simp only [qv1]
    split
    ·rename_i x t hc _ _
     rw [hc] at h
     cases h
    ·rfl
  | unOp u _ _ => cases u <;> rfl
  | makeFunc fn _ _ => cases fn <;> rfl
  | _ => first | rfl | cases h
 have h2 : qv2 T s m' id op = qv2 T s m id op := by
  cases op with
  | call c =>
    simp only [kind] at h
    simp only [qv2]
    split
    ·rename_i x t hc _ _
     rw [hc] at h
     cases h
    ·rfl
    ·rfl
    ·rfl
    ·rfl
    ·rfl
  | unOp u _ _ => cases u <;> rfl
  | makeFunc fn _ _ => cases fn <;> rfl
  | makeMap t rs => cases rs <;> rfl
  | _ => first | rfl | cases h
 unfold qv
 rw [h1, h2]
theorem mH {c : Call} {x : Operand} (hc : c.callee = .value x) : kind T (.call c) ≠ .slot := by
 simp only [kind, hc]
 cases x <;> simp
 split <;> simp
theorem Af {kp : Nat → Prop} {oi oj : Oper} {st st' : St} (h : Eff P T kp ops oi st st') : indep T ops oi oj = false ∧ indep T ops oj oi = false := by
 simp only [indep, h.bar]
 cases kind T oj.op <;> simp
theorem IK {m : Mem} {id j : Nat} {x : O} {ob : Option O} (hne : ob.isSome = true → id ≠ j) : upd (m.put id ob) j (some x) = Mem.put (upd m j (some x)) id ob := by
 cases ob with
 | none => rfl
 | some y =>
   have hne := hne rfl
   funext t
   simp only [Mem.put, upd]
   by_cases h1 : t = id <;> by_cases h2 : t = j <;> simp [h1, h2]
   ·subst h1; exact absurd h2 hne
   ·intro k; exact absurd k hne
   ·intro k; exact absurd k.symm hne
theorem HS.comm {kp : Nat → Prop} {oi oj : Oper} {st st1 st2 : St} (hind : indep T ops oi oj = true) (hw : WF st) (h1 : HS P T kp base ops oi st st1) (h2 : HS P T kp base ops oj st1 st2) : ∃ st3, HS P T kp base ops oj st st3 ∧ HS P T kp base ops oi st3 st2 := by
 have hind0 := hind
 simp only [indep, Bool.and_eq_true] at hind
 obtain ⟨hap, hk⟩ := hind
 obtain ⟨a1, a2, a3⟩ := Oper.apart_spec hap
 cases h1 with
 | eff h => rw [(Af h).1] at hind0; cases hind0
 | @val ri obi hi =>
   have ni := hi.new
   cases h2 with
   | eff h => rw [(Af h).2] at hind0; cases hind0
   | @val rj obj hj =>
     have nj := hj.new
     have hj' := (HV.both (st := st) (mG a1) (rX fun h => (ni h).1) hw).2 hj (fun h => Ml (nj h).1)
     refine ⟨_, .val hj', ?_⟩
     have nj' := hj'.new
     have hne : obi.isSome = true → obj.isSome = true → lQ base oi ≠ lQ base oj := fun h h' e => by
      obtain ⟨-, d, hd, e1⟩ := ni h
      obtain ⟨-, d', hd', e2⟩ := nj' h'
      have hdd := e1.symm.trans (e.trans e2)
      have : d = d' := Nat.add_left_cancel hdd
      subst this
      exact a2 d hd hd'
     have hi' := (HV.both (st := st) (st' := ⟨dw st.s oj.dst rj, st.m.put (lQ base oj) obj⟩) (mG a3) (rX fun h => (nj' h).1) hw).1 hi (fun h => by
      cases obj with
      | none => exact (ni h).1
      | some y => simp only [Mem.put]; rw [upd_ne _ _ (hne h rfl)]; exact (ni h).1)
     have := HS.val (kp := kp) hi'
     dsimp only at this ⊢
     rw [JI ri rj a2, put_comm hne]
     exact this
   | @store ty j x v b b' hs =>
     -- oi looks at slots alone, or was passed over
     have hnk : kind T oj.op = .store := by rw [hs.op]; rfl
     rw [hnk] at hk
     have hki' : kind T oi.op = .slot := by
      revert hk
      cases kind T oi.op <;> simp
     have he := Aj (ops := ops) (o := oj) (s := st.s) (s' := dw st.s oi.dst ri) (mG a1)
     have ex : ev (dw st.s oi.dst ri) x = ev st.s x := he x IU
     have ev' : ev (dw st.s oi.dst ri) v = ev st.s v := he v IU
     have hat : qG (ev st.s x) = some j := by rw [← ex]; exact hs.at_
     have hjl : (st.m j).isSome = true := tq hw.ids x j (by revert hat; cases ev st.s x <;> simp [qG, A.ids] <;> exact fun e => e.symm)
     have hbox : st.m j = some b := by rw [← rX (fun h => (ni h).1) j hjl]; exact hs.box
     have hs' : HStore T ops oj st ty x v j b b' := ⟨(qC (mG a1)).symm.trans hs.want, hs.op, hs.dst, hat, hbox, by rw [← ex, ← ev']; exact hs.new⟩
     refine ⟨_, .store hs', ?_⟩
     have hni : obi.isSome = true → lQ base oi ≠ j := fun h e => by rw [← e, (ni h).1] at hjl; cases hjl
     have hi' : HV P T base ops oi ⟨st.s, upd st.m j (some b')⟩ ri obi := by
      cases hi with
      | skip h => exact .skip h
      | val h hq hid hd => exact .val h (by rw [← hq]; exact Iq hki') (fun h => by show upd _ _ _ _ = _; rw [upd_ne _ _ (hni h)]; exact hid h) hd
      | call h hop hc => rw [hop] at hki'; exact absurd hki' (mH hc)
      | callF h hop hc => rw [hop] at hki'; exact absurd hki' (mH hc)
      | callR h hop hc => rw [hop] at hki'; exact absurd hki' (mH hc)
     have := HS.val (kp := kp) hi'
     dsimp only at this ⊢
     rw [IK hni]
     exact this
 | @store ty j x v b b' hs =>
   have hnk : kind T oi.op = .store := by rw [hs.op]; rfl
   rw [hnk] at hk
   have hkj' : kind T oj.op = .slot := by
    revert hk
    cases kind T oj.op <;> simp
   cases h2 with
   | eff h => rw [(Af h).2] at hind0; cases hind0
   | @val rj obj hj =>
     have nj := hj.new
     have hjl : (st.m j).isSome = true := by simp [hs.box]
     have nj0 : obj.isSome = true → st.m (lQ base oj) = none ∧ lQ base oj ≠ j := fun h => by
      have := (nj h).1
      simp only [upd] at this
      split at this
      ·cases this
      ·rename_i e; exact ⟨this, e⟩
     have hj' : HV P T base ops oj st rj obj := by
      cases hj with
      | skip h => exact .skip h
      | val h hq hid hd => exact .val h (by rw [← hq]; exact Iq hkj') (fun h => (nj0 h).1) hd
      | call h hop hc => rw [hop] at hkj'; exact absurd hkj' (mH hc)
      | callF h hop hc => rw [hop] at hkj'; exact absurd hkj' (mH hc)
      | callR h hop hc => rw [hop] at hkj'; exact absurd hkj' (mH hc)
     refine ⟨_, .val hj', ?_⟩
     have he := Aj (ops := ops) (o := oi) (s := st.s) (s' := dw st.s oj.dst rj) (mG a3)
     have ex : ev (dw st.s oj.dst rj) x = ev st.s x := he x IU
     have ev' : ev (dw st.s oj.dst rj) v = ev st.s v := he v IU
     have hs' : HStore T ops oi ⟨dw st.s oj.dst rj, st.m.put (lQ base oj) obj⟩ ty x v j b b' :=
      ⟨(qC (mG a3)).trans hs.want, hs.op, hs.dst, by rw [ex]; exact hs.at_, (rX (fun h => (nj0 h).1) j hjl).trans hs.box, by rw [ex, ev']; exact hs.new⟩
     have := HS.store (P := P) (base := base) (kp := kp) hs'
     dsimp only at this ⊢
     rw [← IK fun h => (nj0 h).2]
     exact this
   | @store _ _ _ _ _ _ hs2 =>
     have hnk2 : kind T oj.op = .store := by rw [hs2.op]; rfl
     rw [hnk2] at hkj'
     cases hkj'
end
section
variable {P : Go.Program} {T : Tab} {base : Nat} {ops : Array Oper}
theorem Rk {s : Nat → A} {m : Mem} {id : Nat} {op : Op} {r : A} {ob : Option O} (hl : ∀ x, ∀ j ∈ (ev s x).ids, (m j).isSome = true) (hw : ∀ id o, m id = some o → ∀ j ∈ o.ids, (m j).isSome = true) (h : qv1 T s m id op = some (r, ob)) :
 (∀ j ∈ r.ids, (m.put id ob j).isSome = true) ∧ ∀ o, ob = some o → ∀ j ∈ o.ids, (m.put id ob j).isSome = true := by
 have two : ∀ {r' : A} {ob' : Option O}, ob' = none → (∀ j ∈ r'.ids, (m j).isSome = true) → (r', ob') = (r, ob) → (∀ j ∈ r.ids, (m.put id ob j).isSome = true) ∧ ∀ o, ob = some o → ∀ j ∈ o.ids, (m.put id ob j).isSome = true := by
  intro r' ob' e h1 h2
  cases h2; subst e
  exact ⟨h1, fun o h => by cases h⟩
 have none_ : ∀ {r' : A}, r'.ids = [] → ∀ j ∈ r'.ids, (m j).isSome = true := fun e j hj => by rw [e] at hj; simp at hj
 have new : ∀ {ty : Nat} {l : List A}, (∀ j ∈ l.flatMap A.ids, (m j).isSome = true) → (A.ptr id 0, some (O.box ty l)) = (r, ob) → (∀ j ∈ r.ids, (m.put id ob j).isSome = true) ∧ ∀ o, ob = some o → ∀ j ∈ o.ids, (m.put id ob j).isSome = true := by
  intro ty l h1 h2
  cases h2
  refine ⟨fun j hj => ?_, fun o ho j hj => ?_⟩
  ·simp [A.ids] at hj; subst hj; simp [Mem.put, upd]
  ·cases ho; exact qL (h1 j hj)
 cases op with
 | move x => exact two rfl (hl x) (Option.some.inj h)
 | assign x => exact two rfl (hl x) (Option.some.inj h)
 | pick c a b =>
   simp only [qv1] at h
   split at h
   ·exact two rfl (hl a) (Option.some.inj h)
   ·exact two rfl (hl b) (Option.some.inj h)
   ·cases h
 | box ty x =>
   simp only [qv1] at h
   split at h
   ·rename_i l e; exact new (fun j hj => hl x j (mR e j hj)) (Option.some.inj h)
   ·cases h
 | alloc ty =>
   simp only [qv1] at h
   split at h
   ·exact new (fun j hj => by
     simp only [List.mem_flatMap, List.mem_map] at hj
     obtain ⟨_, ⟨x, -, rfl⟩, h⟩ := hj
     simp [gX] at h) (Option.some.inj h)
   ·cases h
 | load ty x =>
   simp only [qv1] at h
   split at h
   ·split at h
    ·rename_i ty' cells hj
     split at h
     ·rename_i r' e3
      refine two rfl ?_ (Option.some.inj h)
      unfold ld at e3
      split at e3
      ·split at e3
       ·split at e3
        ·cases e3; exact none_ rfl
        ·split at e3
         ·rename_i ys hys
          cases e3
          intro j hj'
          obtain ⟨x, hx1, hx2⟩ := List.mem_flatMap.1 (mF hys j hj')
          exact hw _ _ hj j (List.mem_flatMap.2 ⟨x, List.mem_of_mem_drop (List.mem_of_mem_take hx1), hx2⟩)
         ·cases e3
       ·cases e3
      ·rename_i off _ _ _ _ _
       intro j hj'
       have : r' ∈ cells := List.mem_of_mem_drop (List.mem_of_mem_head? e3)
       exact hw _ _ hj j (List.mem_flatMap.2 ⟨r', this, hj'⟩)
      ·cases e3
     ·cases h
    ·cases h
   ·split at h
    ·rename_i r' e3
     refine two rfl ?_ (Option.some.inj h)
     unfold ldR at e3
     split at e3
     ·split at e3
      ·cases e3; exact none_ rfl
      ·cases e3
     ·split at e3
      ·cases e3; exact none_ rfl
      ·cases e3
     ·cases e3
    ·cases h
   ·cases h
 | fieldAddr ty x f =>
   simp only [qv1] at h
   split at h
   ·split at h
    ·rename_i e; exact two rfl (fun i hi => hl x i (by rw [e]; exact hi)) (Option.some.inj h)
    ·exact two rfl (none_ rfl) (Option.some.inj h)
    ·cases h
   ·cases h
 | field ty x f =>
   simp only [qv1] at h
   split at h
   ·exact two rfl (none_ rfl) (Option.some.inj h)
   ·split at h
    ·exact two rfl (none_ rfl) (Option.some.inj h)
    ·cases h
   ·cases h
 | indexAddr ty x i =>
   simp only [qv1] at h
   split at h
   ·split at h
    ·split at h
     ·split at h
      ·exact two rfl (none_ rfl) (Option.some.inj h)
      ·cases h
     ·cases h
    ·cases h
   ·cases h
 | binOp op ty x y yt =>
   simp only [qv1] at h
   split at h
   ·exact two rfl (none_ rfl) (Option.some.inj h)
   ·cases h
 | unOp op ty x =>
   cases op with
   | not =>
     simp only [qv1] at h
     split at h
     ·exact two rfl (none_ rfl) (Option.some.inj h)
     ·cases h
   | _ => cases h
 | extract x i =>
   simp only [qv1] at h
   split at h
   ·split at h
    ·exact two rfl (none_ rfl) (Option.some.inj h)
    ·exact two rfl (none_ rfl) (Option.some.inj h)
    ·cases h
   ·cases h
 | makeFunc fn first caps =>
   cases fn with
   | func f =>
     simp only [qv1] at h
     split at h
     ·split at h
      ·rename_i ids hids
       refine two rfl (fun j hj => ?_) (Option.some.inj h)
       have : ∀ {l : List Operand} {ids : List Nat}, jV (l.map (ev s)) = some ids → ∀ j ∈ ids, ∃ x, j ∈ (ev s x).ids := by
        intro l
        induction l with
        | nil => intro ids h j hj; simp [jV] at h; subst h; simp at hj
        | cons x l ih =>
          intro ids h j hj
          cases hx : ev s x with
          | ptr id off =>
            cases off with
            | zero =>
              simp only [List.map_cons, hx, jV] at h
              split at h
              ·rename_i ids' h'
               cases h
               rcases List.mem_cons.1 hj with rfl | hj
               ·exact ⟨x, by simp [hx, A.ids]⟩
               ·exact ih h' j hj
              ·cases h
            | succ n => simp [hx, jV] at h
          | _ => simp [hx, jV] at h
       obtain ⟨x, hx⟩ := this hids j hj
       exact hl x j hx
      ·cases h
     ·cases h
   | _ => cases h
 | nilCheck x =>
   simp only [qv1] at h
   have hx := hl x
   split at h
   ·rename_i e; rw [e] at hx; exact two rfl hx (Option.some.inj h)
   ·rename_i e; rw [e] at hx; exact two rfl hx (Option.some.inj h)
   ·rename_i e; rw [e] at hx; exact two rfl hx (Option.some.inj h)
   ·cases h
 | slice ty x lo hi mx =>
   cases mx with
   | some y => cases h
   | none =>
     simp only [qv1] at h
     split at h
     ·split at h
      ·rename_i r' e
       refine two rfl ?_ (Option.some.inj h)
       unfold yS at e
       split at e
       ·split at e
        ·cases e; exact none_ rfl
        ·cases e
       ·cases e
      ·cases h
     ·cases h
 | build ty parts =>
   simp only [qv1] at h
   split at h
   ·split at h
    ·exact two rfl (none_ rfl) (Option.some.inj h)
    ·cases h
   ·cases h
 | buildSlice ty len parts =>
   simp only [qv1] at h
   split at h
   ·cases h
   split at h
   ·split at h
    ·split at h
     ·split at h
      ·exact two rfl (none_ rfl) (Option.some.inj h)
      ·cases h
     ·cases h
    ·cases h
   ·cases h
 | call c =>
   simp only [qv1] at h
   split at h
   ·split at h
    ·exact two rfl (none_ rfl) (Option.some.inj h)
    ·cases h
   ·cases h
 | _ => cases h
theorem Ck {k : A1} : ∀ {l : List (A1 × A1)} {q : Nat} {v : A1}, gF k l = some (some (q, v)) → ∃ k', (k', v) ∈ l
 | [], q, v, h => by simp [gF] at h
 | p :: l, q, v, h => by
   simp only [gF] at h
   split at h
   ·cases h; exact ⟨p.1, by simp⟩
   ·split at h
    ·rename_i hf
     cases h
     obtain ⟨k', hk'⟩ := Ck hf
     exact ⟨k', List.mem_cons_of_mem _ hk'⟩
    ·cases h
    ·cases h
   ·cases h
theorem BA {T : Tab} {t : Nat} {z : A1} (h : xE T t = some z) : z.ids = [] := by
 unfold xE at h
 split at h
 ·rename_i v hv
  have := iH h
  rw [gX] at this
  exact List.eq_nil_iff_forall_not_mem.2 fun j hj => by simpa using this j hj
 ·split at h
  ·split at h
   ·cases h; rfl
   ·cases h
  ·cases h
theorem Q8 {s : Nat → A} {m : Mem} {id : Nat} {op : Op} {r : A} {ob : Option O} (hl : ∀ x, ∀ j ∈ (ev s x).ids, (m j).isSome = true) (hw : ∀ id o, m id = some o → ∀ j ∈ o.ids, (m j).isSome = true) (h : qv2 T s m id op = some (r, ob)) :
 (∀ j ∈ r.ids, (m.put id ob j).isSome = true) ∧ ∀ o, ob = some o → ∀ j ∈ o.ids, (m.put id ob j).isSome = true := by
 have two : ∀ {r' : A} {ob' : Option O}, ob' = none → (∀ j ∈ r'.ids, (m j).isSome = true) → (r', ob') = (r, ob) → (∀ j ∈ r.ids, (m.put id ob j).isSome = true) ∧ ∀ o, ob = some o → ∀ j ∈ o.ids, (m.put id ob j).isSome = true := by
  intro r' ob' e h1 h2
  cases h2; subst e
  exact ⟨h1, fun o h => by cases h⟩
 have none_ : ∀ {r' : A}, r'.ids = [] → ∀ j ∈ r'.ids, (m j).isSome = true := fun e j hj => by rw [e] at hj; simp at hj
 have new : ∀ {z : O} {r' : A}, r'.ids = [id] → z.ids = [] → (r', some z) = (r, ob) → (∀ j ∈ r.ids, (m.put id ob j).isSome = true) ∧ ∀ o, ob = some o → ∀ j ∈ o.ids, (m.put id ob j).isSome = true := by
  intro z r' h0 h1 h2
  cases h2
  refine ⟨fun j hj => ?_, fun o ho j hj => ?_⟩
  ·rw [h0] at hj; simp at hj; subst hj; simp [Mem.put, upd]
  ·cases ho; rw [h1] at hj; simp at hj
 cases op with
 | buildSlice ty len parts =>
   simp only [qv2] at h
   split at h
   ·split at h
    ·split at h
     ·split at h
      ·split at h
       ·exact new rfl rfl (Option.some.inj h)
       ·cases h
      ·cases h
     ·cases h
    ·cases h
   ·cases h
 | build ty parts =>
   simp only [qv2] at h
   split at h
   ·split at h
    ·rename_i z1 hz
     split at h
     ·rename_i xs hf
      refine two rfl (fun j hj => ?_) (Option.some.inj h)
      refine w9 (Q := fun j => (m j).isSome = true) _ z1 xs (fun j hj => (AP hz j hj).elim) (fun p hp ys hy j hj => ?_) hf j hj
      obtain ⟨q, -, rfl⟩ := List.mem_map.1 hp
      exact hl q.2 j (Da hy j hj)
     ·cases h
    ·cases h
   ·cases h
 | load ty x =>
   simp only [qv2] at h
   split at h
   ·rename_i j e i f ex
    split at h
    ·split at h
     ·split at h
      ·split at h
       ·rename_i r' e3
        refine two rfl (none_ ?_) (Option.some.inj h)
        unfold ldR at e3
        split at e3
        ·split at e3 <;> cases e3; rfl
        ·split at e3 <;> cases e3; rfl
        ·cases e3
       ·cases h
      ·cases h
     ·cases h
    ·rename_i ty' xs hj
     split at h
     ·split at h
      ·rename_i n y hty hy
       refine two rfl (fun q hq => ?_) (Option.some.inj h)
       rw [tZ] at hq
       exact hw j _ hj q (List.mem_flatMap.2 ⟨y, List.mem_of_getElem? hy, hq⟩)
      ·cases h
     ·cases h
    ·cases h
   ·cases h
 | fieldAddr ty x f =>
   simp only [qv2] at h
   split at h
   ·rename_i o' n g j e i g' ho ex
    exact two rfl (fun q hq => hl x q MU) (Option.some.inj h)
   ·cases h
 | field ty x f =>
   simp only [qv2] at h
   split at h
   ·rename_i o' n xs ho ex
    refine two rfl (fun q hq => ?_) (Option.some.inj h)
    obtain ⟨y, hy1, hy2⟩ := List.mem_flatMap.1 hq
    exact hl x q Sb
   ·rename_i o' n xs ho ex
    split at h
    ·rename_i y hy
     refine two rfl (fun q hq => ?_) (Option.some.inj h)
     rw [tZ] at hq
     exact hl x q Sy
    ·cases h
   ·cases h
 | indexAddr ty x i =>
   simp only [qv2] at h
   split at h
   ·rename_i et n j k kn he ex ei
    have hj : (m j).isSome = true := hl x j (by rw [ex]; simp [A.ids])
    split at h
    ·split at h
     ·exact two rfl (fun q hq => by simp [A.ids] at hq; subst hq; exact hj) (Option.some.inj h)
     ·cases h
    ·split at h
     ·exact two rfl (fun q hq => by simp [A.ids] at hq; subst hq; exact hj) (Option.some.inj h)
     ·cases h
    ·cases h
   ·cases h
 | nilCheck x =>
   simp only [qv2] at h
   split at h
   ·rename_i j e i f ex
    exact two rfl (fun q hq => hl x q MU) (Option.some.inj h)
   ·rename_i j ex
    exact two rfl (fun q hq => hl x q MU) (Option.some.inj h)
   ·exact two rfl (none_ rfl) (Option.some.inj h)
   ·cases h
 | slice ty x lo hi mx =>
   cases mx with
   | some _ => simp [qv2] at h
   | none =>
     simp only [qv2] at h
     split at h
     ·rename_i et n j he ex
      have hj : (m j).isSome = true := hl x j (by rw [ex]; simp [A.ids])
      split at h
      ·split at h
       ·split at h
        ·split at h
         ·exact two rfl (fun q hq => by simp [A.ids] at hq; subst hq; exact hj) (Option.some.inj h)
         ·cases h
        ·cases h
       ·cases h
      ·cases h
     ·cases h
 | makeSlice t l c =>
   simp only [qv2] at h
   split at h
   ·split at h
    ·split at h
     ·split at h
      ·refine new rfl ?_ (Option.some.inj h)
       refine List.eq_nil_iff_forall_not_mem.2 fun q hq => ?_
       obtain ⟨y, hy1, hy2⟩ := List.mem_flatMap.1 hq
       rw [List.eq_of_mem_replicate hy1] at hy2
       simp [A1.ids] at hy2
      ·split at h
       ·exact new rfl rfl (Option.some.inj h)
       ·split at h
        ·rename_i v
         split at h
         ·rename_i z' hz'
          refine new rfl ?_ (Option.some.inj h)
          refine List.eq_nil_iff_forall_not_mem.2 fun q hq => ?_
          obtain ⟨y, hy1, hy2⟩ := List.mem_flatMap.1 hq
          rw [List.eq_of_mem_replicate hy1] at hy2
          have := iH hz' q hy2
          rw [gX] at this
          simp at this
         ·cases h
        ·cases h
     ·cases h
    ·cases h
   ·cases h
 | makeMap t rs =>
   cases rs with
   | some _ => simp [qv2] at h
   | none =>
     simp only [qv2] at h
     split at h
     ·exact new rfl rfl (Option.some.inj h)
     ·cases h
 | lookup t x k ok =>
   simp only [qv2] at h
   split at h
   ·rename_i kt e key ht hkey
    split at h
    ·split at h
     ·rename_i j ex
      split at h
      ·rename_i ents hj
       split at h
       ·rename_i q v hf
        refine two rfl (fun i hi => ?_) (Option.some.inj h)
        obtain ⟨k', hk'⟩ := Ck hf
        exact hw j _ hj i (List.mem_flatMap.2 ⟨(k', v), hk', List.mem_append_right _ (j3 i hi)⟩)
       ·split at h
        ·rename_i z hz
         exact two rfl (fun i hi => by have := j3 i hi; rw [BA hz] at this; simp at this) (Option.some.inj h)
        ·cases h
       ·cases h
      ·unfold Lp at h
       split at h
       ·exact two rfl (fun i hi => by simp [A.ids] at hi) (Option.some.inj h)
       ·cases h
      ·cases h
     ·split at h
      ·rename_i z hz
       exact two rfl (fun i hi => by have := j3 i hi; rw [BA hz] at this; simp at this) (Option.some.inj h)
      ·cases h
     ·cases h
    ·cases h
   ·cases h
 | binOp op t x y pos =>
   simp only [qv2] at h
   split at h
   ·split at h
    ·split at h
     ·split at h
      ·exact two rfl (none_ rfl) (Option.some.inj h)
      ·cases h
     ·cases h
    ·cases h
   ·cases h
 | convert ta tb x =>
   simp only [qv2] at h
   split at h
   ·exact two rfl (none_ rfl) (Option.some.inj h)
   ·cases h
 | unOp op ty x =>
   cases op with
   | neg =>
     simp only [qv2] at h
     split at h
     ·exact two rfl (none_ rfl) (Option.some.inj h)
     ·cases h
   | _ => simp [qv2] at h
 | extract x i =>
   simp only [qv2] at h
   split at h
   ·rename_i xs ex
    split at h
    ·rename_i y hy
     refine two rfl (fun q hq => ?_) (Option.some.inj h)
     rw [tZ] at hq
     exact hl x q Sy
    ·cases h
   ·cases h
 | makeInterface t x =>
   simp only [qv2] at h
   split at h
   ·split at h
    ·exact two rfl (none_ rfl) (Option.some.inj h)
    ·cases h
   ·cases h
 | call c =>
   simp only [qv2] at h
   split at h
   ·split at h
    ·split at h
     ·exact two rfl (none_ rfl) (Option.some.inj h)
     ·exact two rfl (none_ rfl) (Option.some.inj h)
     ·cases h
    ·split at h
     ·split at h
      ·exact two rfl (none_ rfl) (Option.some.inj h)
      ·cases h
     ·cases h
    ·split at h
     ·exact two rfl (none_ rfl) (Option.some.inj h)
     ·cases h
    ·split at h
     ·exact two rfl (none_ rfl) (Option.some.inj h)
     ·cases h
    ·cases h
   ·split at h
    ·split at h
     ·exact two rfl (none_ rfl) (Option.some.inj h)
     ·cases h
    ·cases h
   ·split at h
    ·split at h
     ·exact two rfl (none_ rfl) (Option.some.inj h)
     ·cases h
    ·cases h
   ·split at h
    ·split at h
     ·exact two rfl (none_ rfl) (Option.some.inj h)
     ·cases h
    ·cases h
   ·split at h
    ·split at h
     ·exact two rfl (none_ rfl) (Option.some.inj h)
     ·cases h
    ·cases h
   ·cases h
 | _ => simp [qv2] at h
theorem SC {s : Nat → A} {m : Mem} {id : Nat} {op : Op} {r : A} {ob : Option O} (hl : ∀ x, ∀ j ∈ (ev s x).ids, (m j).isSome = true) (hw : ∀ id o, m id = some o → ∀ j ∈ o.ids, (m j).isSome = true) (h : qv T s m id op = some (r, ob)) :
 (∀ j ∈ r.ids, (m.put id ob j).isSome = true) ∧ ∀ o, ob = some o → ∀ j ∈ o.ids, (m.put id ob j).isSome = true := by
 unfold qv at h
 split at h
 ·rename_i r' h1; cases h; exact Rk hl hw h1
 ·exact Q8 hl hw h
theorem IX {ty : Nat} {a v : A} {b b' : O} (h : stO T ty a v b = some b') : ∀ i ∈ b'.ids, i ∈ b.ids ∨ i ∈ v.ids := by
 intro i hi
 cases b with
 | box ty0 cells =>
   simp only [stO] at h
   split at h
   ·rename_i id off n g l hty hc
    split at h
    ·cases h
     simp only [O.ids, vI, List.flatMap_append, List.mem_append] at hi ⊢
     rcases hi with hi | hi | hi
     ·obtain ⟨z, hz, hq⟩ := List.mem_flatMap.1 hi
      exact .inl (List.mem_flatMap.2 ⟨z, List.mem_of_mem_take hz, hq⟩)
     ·exact .inr (mR hc i hi)
     ·obtain ⟨z, hz, hq⟩ := List.mem_flatMap.1 hi
      exact .inl (List.mem_flatMap.2 ⟨z, List.mem_of_mem_drop hz, hq⟩)
    ·cases h
   ·cases h
 | mrow ty0 e xs =>
   simp only [stO] at h
   split at h
   ·split at h
    ·split at h
     ·cases h; simp [O.ids] at hi
     ·cases h
    ·cases h
   ·cases h
 | rows ty0 xs =>
   simp only [stO] at h
   split at h
   ·rename_i id e i' f n g b hty hc
    split at h
    ·split at h
     ·rename_i y hy
      cases h
      obtain ⟨z, hz, hq⟩ := List.mem_flatMap.1 hi
      rcases List.mem_or_eq_of_mem_set hz with hz | rfl
      ·exact .inl (List.mem_flatMap.2 ⟨z, hz, hq⟩)
      ·exact .inr (mR hc i (by simpa using iH hy i hq))
     ·cases h
    ·cases h
   ·cases h
 | _ => simp [stO] at h
theorem HS.wf {kp : Nat → Prop} {o : Oper} {st st' : St} (hw : WF st) (h : HS P T kp base ops o st st') : WF st' := by
 cases h with
 | eff h => exact h.wf hw
 | @val r ob h =>
   have hr : (∀ j ∈ r.ids, (st.m.put (lQ base o) ob j).isSome = true) ∧ ∀ x, ob = some x → ∀ j ∈ x.ids, (st.m.put (lQ base o) ob j).isSome = true := by
    cases h with
    | skip h => exact ⟨fun j hj => by simp [A.ids] at hj, fun x hx => by cases hx⟩
    | val h hq => exact SC (tq hw.ids) hw.live hq
    | call h hop hc hx hb ha hk2 => exact ⟨fun j hj => by rw [hk2.2.1] at hj; simp at hj, fun x hx => by cases hx⟩
    | callF h hop hc hx ha hk2 => exact ⟨fun j hj => by rw [hk2.2.1] at hj; simp at hj, fun x hx => by cases hx⟩
    | callR h hop hc hx hb ha hi hf hk2 => exact ⟨fun j hj => by rw [(hk2 Mem.nil).2.1] at hj; simp at hj, fun x hx => by cases hx⟩
   refine ⟨vX (fun t j hj => qL (hw.ids t j hj)) hr.1, fun id x hx j hj => ?_⟩
   cases ob with
   | none => exact hw.live id x hx j hj
   | some y =>
     by_cases e : id = lQ base o
     ·subst e
      have : x = y := by simpa [Mem.put, upd] using hx.symm
      subst this
      exact hr.2 x rfl j hj
     ·have : st.m id = some x := by simpa [Mem.put, upd, e] using hx
      exact qL (id := lQ base o) (ob := some y) (hw.live id x this j hj)
 | @store ty j x v b b' h =>
   have hlv : ∀ i, (st.m i).isSome = true → (upd st.m j (some b') i).isSome = true := fun i hi => by
    unfold upd; split
    ·rfl
    ·exact hi
   refine ⟨fun t i hi => hlv i (hw.ids t i hi), fun id y hy i hi => hlv i ?_⟩
   by_cases e : id = j
   ·subst e
    have : y = b' := by simpa [upd] using hy.symm
    subst this
    rcases IX h.new i hi with hi | hi
    ·exact hw.live _ _ h.box i hi
    ·exact tq hw.ids v i hi
   ·exact hw.live id y (by simpa [upd, e] using hy) i hi
inductive Chain (P : Go.Program) (T : Tab) (kp : Nat → Prop) (base : Nat) (ops : Array Oper) : List Nat → St → St → Prop where
 | nil (st : St) : Chain P T kp base ops [] st st
 | cons {i : Nat} {o : Oper} {l : List Nat} {st st1 st2 : St} (hi : ops[i]? = some o) (h : HS P T kp base ops o st st1) (t : Chain P T kp base ops l st1 st2) : Chain P T kp base ops (i :: l) st st2
theorem Chain.front {kp : Nat → Prop} {i : Nat} {oi : Oper} (hi : ops[i]? = some oi) : ∀ {l1 l2 : List Nat} {st st' : St}, WF st → (∀ j ∈ l1, ∀ oj, ops[j]? = some oj → indep T ops oj oi = true) → Chain P T kp base ops (l1 ++ i :: l2) st st' →
 ∃ st1, HS P T kp base ops oi st st1 ∧ Chain P T kp base ops (l1 ++ l2) st1 st'
 | [], l2, st, st', _, _, h => by
   cases h with
   | cons h1 h2 h3 =>
     have : oi = _ := Option.some.inj (hi.symm.trans h1)
     subst this
     exact ⟨_, h2, h3⟩
 | j :: l1, l2, st, st', hw, hind, h => by
   cases h with
   | @cons _ oj _ _ st1 _ h1 h2 h3 =>
     obtain ⟨st2, h4, h5⟩ := Chain.front hi (h2.wf hw) (fun k hk ok hok => hind k (by simp [hk]) ok hok) h3
     obtain ⟨st3, h6, h7⟩ := HS.comm (hind j (by simp) oj h1) hw h2 h4
     exact ⟨st3, h6, .cons h1 h7 h5⟩
def FQ (ops : Array Oper) : Nat → Nat → Nat → Bool
 | 0, _, _ => false
 | f + 1, k, j => match ops[k]? with
   | some o => o.after.toList.any (fun e => Region.binds .any e && e.on == j) || o.after.toList.any (fun e => Region.binds .any e && FQ ops f e.on j)
   | none => false
def Fj (T : Tab) (ops : Array Oper) (k : Nat) : Bool :=
 match ops[k]? with
 | none => true
 | some ok => ok.after.toList.all (fun e => !Region.binds .any e || decide (e.on < k)) && (List.range k).all fun j => match ops[j]? with | none => true | some oj => indep T ops oj ok || FQ ops ops.size k j
def qO (T : Tab) (ops : Array Oper) : Bool := (List.range ops.size).all (Fj T ops)
def mh (ops : Array Oper) (listed : Array Bool) : Prop := ∀ (k : Nat) o, ops[k]? = some o → listed.getD k true = true → ∀ e ∈ o.after, Region.binds .any e = true → listed.getD e.on false = true
theorem rD {listed : Array Bool} {k : Nat} (h : listed.getD k false = true) : listed.getD k true = true := by
 rw [Array.getD_eq_getD_getElem?] at h ⊢
 cases hx : listed[k]? with
 | none => rfl
 | some b => rw [hx] at h; exact h
theorem kT {listed : Array Bool} (hc : mh ops listed) {j : Nat} : ∀ (f k : Nat) (o : Oper), ops[k]? = some o → (∀ e ∈ o.after, Region.binds .any e = true → listed.getD e.on false = true) → FQ ops f k j = true → listed.getD j false = true
 | 0, _, _, _, _, h => by cases h
 | f + 1, k, o, ho, hr, h => by
   simp only [FQ, ho, Bool.or_eq_true, List.any_eq_true, Bool.and_eq_true, beq_iff_eq] at h
   rcases h with ⟨e, he, hb, rfl⟩ | ⟨e, he, hb, ha⟩
   ·exact hr e FL hb
   ·have hle := hr e FL hb
    cases ho' : ops[e.on]? with
    | none =>
      cases f with
      | zero => cases ha
      | succ f => simp only [FQ, ho'] at ha; cases ha
    | some o' => exact kT hc f e.on o' ho' (fun e' he' hb' => hc e.on o' ho' (rD hle) e' he' hb') ha
end
theorem kC {P : Go.Program} {b : Nat} {ty : TypeId} : ∀ (vs : List Value) (off i : Nat) (us : List Value) (w : World), w.heap[b]? = some (.cells us.toArray ty) → (∀ v ∈ vs, v.oneCell' = true) → off + i + vs.length ≤ us.length →
 ∃ w', (storeCells ⟨b, off, none⟩ vs i).run P w = .ok () w' ∧ w'.heap[b]? = some (.cells (us.take (off + i) ++ (vs ++ us.drop (off + i + vs.length))).toArray ty) ∧ w'.os = w.os ∧ w'.tape = w.tape ∧ w'.output = w.output ∧ w'.heap.size = w.heap.size ∧ ∀ k, k ≠ b → w'.heap[k]? = w.heap[k]? := by
 intro vs
 induction vs with
 | nil => intro off i us w h _ _; exact ⟨w, by simp [storeCells], by simpa using h, rfl, rfl, rfl, rfl, fun _ _ => rfl⟩
 | cons v vs ih =>
   intro off i us w h h1 hl
   have hlt : off + i < us.length := by simp at hl; omega
   have hc : w.cell? ⟨b, off + i, none⟩ = some us[off + i] := by simp [World.cell?, h, hlt]
   have hfz : w.frozen? ⟨b, off + i, none⟩ = false := by simp [World.frozen?, h]
   have hset : (w.setCell ⟨b, off + i, none⟩ v).heap[b]? = some (.cells (us.set (off + i) v).toArray ty) := by
    show (w.heap.modify b _)[b]? = _
    rw [Array.getElem?_modify, if_pos rfl, h]
    simp
   obtain ⟨w', r1, r2, r3, r4, r5, r6, r7⟩ := ih off (i + 1) (us.set (off + i) v) _ hset (fun u hu => h1 u (by simp [hu])) (by simp at hl ⊢; omega)
   have h1v := h1 v (by simp)
   refine ⟨w', ?_, ?_, r3, r4, r5, r6.trans (by simp), fun k hk => (r7 k hk).trans (Below.heap_setCell w ⟨b, off + i, none⟩ v k hk)⟩
   ·unfold storeCells
    rw [Sem.run_bind]
    have : (store ((⟨b, off, none⟩ : Addr).add i) v).run P w = .ok () (w.setCell ⟨b, off + i, none⟩ v) := by
     rw [kJ]
     unfold store
     cases v <;> first | (simp [Value.oneCell'] at h1v; done) | simp [Sem.run, hc, hfz]
    rw [this]
    exact r1
   ·rw [r2]
    congr 2
    rw [← Nat.add_assoc, List.take_set, List.length_cons]
    rw [List.drop_set]
    rw [if_pos (by omega)]
    rw [show off + i + 1 + vs.length = off + i + (vs.length + 1) by omega]
    rw [List.take_add_one, List.getElem?_eq_getElem hlt]
    rw [List.set_append]
    rw [if_neg (by simp; omega)]
    simp [List.length_take, Nat.min_eq_left (Nat.le_of_lt hlt)]
theorem RVs.append {B : Nat → Value} {w : World} {I : Nat → Nat → Prop} : ∀ {al bl : List A} {vs us : List Value}, RVs B w I al vs → RVs B w I bl us → RVs B w I (al ++ bl) (vs ++ us)
 | [], _, [], _, _, h => h
 | _ :: _, _, _ :: _, _, h, k => ⟨h.1, RVs.append h.2 k⟩
theorem RVs.oneCell {B : Nat → Value} {w : World} {I : Nat → Nat → Prop} : ∀ {al : List A} {vs : List Value}, RVs B w I al vs → ∀ v ∈ vs, v.oneCell' = true
 | [], [], _, v, h => by simp at h
 | _ :: _, u :: us, h, v, hv => by
   rcases List.mem_cons.1 hv with rfl | hv
   ·exact h.1.2
   ·exact RVs.oneCell h.2 v hv
theorem MR.store {w0 w w' : World} {I0 I : Nat → Nat → Prop} {B : Nat → Value} {m : Mem} (h : MR w0 I0 B I m w) {j b ty0 off : Nat} {cells l : List A} {us vs : List Value} (hj : m j = some (.box ty0 cells)) (hB : B j = .pointer (some ⟨b, 0, none⟩)) (hus : w.heap[b]? = some (.cells us.toArray ty0)) (hv : RVs B w I l vs)
 (hl : ∀ i ∈ l.flatMap A.ids, (m i).isSome = true) (hb : w'.heap[b]? = some (.cells (us.take off ++ (vs ++ us.drop (off + vs.length))).toArray ty0)) (h1 : w'.os = w.os) (h2 : w'.tape = w.tape) (h3 : w'.output = w.output) (h4 : w'.heap.size = w.heap.size) (h5 : ∀ k, k ≠ b → w'.heap[k]? = w.heap[k]?) :
 MR w0 I0 B I (upd m j (some (.box ty0 (vI cells off l)))) w' ∧ Ext w w' I I := by
 obtain ⟨b', us', e1, e2, e3, e4⟩ := h.objs j _ hj
 rw [hB] at e1
 cases e1
 rw [hus] at e2
 have e2' : us = us' := by
  have := Option.some.inj e2
  injection this with h1
  simpa using h1
 subst e2'
 have hbl := h.low j _ hj b ⟨0, hB⟩
 have hE : Ext w w' I I := ⟨fun _ _ k => k, fun b' o ho => World.cell?_of_block (w := w) (h5 b' (fun e => by subst e; exact e4 o ho))⟩
 have liv : ∀ i, (m i).isSome = true → (upd m j (some (O.box ty0 (vI cells off l))) i).isSome = true := fun i hi => by
  unfold upd; split
  ·rfl
  ·exact hi
 refine ⟨⟨h.below.trans ⟨h1, h2, h3, by omega, fun k hk => h5 k (by omega)⟩, h.glob, h.base, h.old, fun b' o ho => by rw [h4]; exact h.there b' o ho, fun id o ho => ?_, fun id o ho k hk => ?_, fun id o id' o' ho ho' hne k hk hk' => ?_, fun id o ho i hi => ?_⟩, hE⟩
 ·by_cases e : id = j
  ·subst e
   have : o = .box ty0 (vI cells off l) := by simpa [upd] using ho.symm
   subst this
   have hvl := hv.length
   have hcl := e3.length
   refine ⟨b, _, hB, hb, ?_, e4⟩
   unfold vI
   rw [← hvl]
   exact ((e3.take off).append (hv.append (e3.drop _))).mono hE (fun _ _ => rfl)
  ·have ho : m id = some o := by simpa [upd, e] using ho
   exact RO.mono hE rfl (fun _ _ => rfl) (fun k hk => h5 k (fun e' => by subst e'; exact h.apart id o j _ ho hj e k hk ⟨0, hB⟩)) (fun _ _ _ hp => hp) (h.objs id o ho)
 ·rw [h4]
  by_cases e : id = j
  ·subst e
   have : o = .box ty0 (vI cells off l) := by simpa [upd] using ho.symm
   subst this
   exact h.low id _ hj k hk
  ·exact h.low id o MJ k hk
 ·have same : ∀ {i : Nat} {x : O} {q : Nat}, upd m j (some (O.box ty0 (vI cells off l))) i = some x → foot B i x q → ∃ y, m i = some y ∧ foot B i y q := fun {i x q} hx hq => by
   by_cases e : i = j
   ·subst e
    have : x = .box ty0 (vI cells off l) := by simpa [upd] using hx.symm
    subst this
    exact ⟨_, hj, hq⟩
   ·exact ⟨x, by simpa [upd, e] using hx, hq⟩
  obtain ⟨y, hy, hq⟩ := same ho hk
  obtain ⟨y', hy', hq'⟩ := same ho' hk'
  exact h.apart id y id' y' hy hy' hne k hq hq'
 ·refine liv i ?_
  by_cases e : id = j
  ·subst e
   have : o = .box ty0 (vI cells off l) := by simpa [upd] using ho.symm
   subst this
   simp only [O.ids, vI, List.flatMap_append, List.mem_append] at hi
   have old : ∀ z ∈ cells, ∀ q ∈ z.ids, (m q).isSome = true := fun z hz q hq => h.live _ _ hj q (List.mem_flatMap.2 ⟨z, hz, hq⟩)
   rcases hi with hi | hi | hi
   ·obtain ⟨z, hz, hq⟩ := List.mem_flatMap.1 hi
    exact old z (List.mem_of_mem_take hz) i hq
   ·exact hl i hi
   ·obtain ⟨z, hz, hq⟩ := List.mem_flatMap.1 hi
    exact old z (List.mem_of_mem_drop hz) i hq
  ·exact h.live id o MJ i hi
theorem zF {P : Go.Program} (w : World) (t ty e : TypeId) (i : TypeInfo) (z : Value) (size bytes : Nat) (ht : P.underlying t = some (.slice e)) (hi : P.info? e = some i) (hz : i.zero = some z) (hsize : i.size = size) (hby : i.bytes = bytes) (hzs : z.cells.size = size) (hsz : 0 < size)
 (v : Value) (n : Nat) (xs : List Value) (hown : w.ownsRow 0 e size v n xs) (ad : Option Addr) (m c : Nat) (news : List Value) (hl : news.length = m * size) (hnews : ∀ (j : Nat) u, news[j]? = some u → ∃ a, ad = some a ∧ w.cell? (a.add j) = some u) (h1 : ∀ u ∈ news, u.oneCell' = true)
 (h63 : n + m ≤ maxLen) (hbytes : (n + m) * bytes ≤ 140737488355328) :
 ∃ v' w', (Builtin.append_ #[t, t] ty #[v, .slice ad m c]).run P w = .ok v' w' ∧ w'.ownsRow 0 e size v' (n + m) (xs ++ news) ∧ w'.os = w.os ∧ w'.tape = w.tape ∧ w'.output = w.output ∧
   ((∃ g, v.ownBlock = some g ∧ v'.ownBlock = some g ∧ w'.heap.size = w.heap.size ∧ ∀ k, k ≠ g → w'.heap[k]? = w.heap[k]?) ∨ (Below w.heap.size w w' ∧ ∀ k, v'.ownBlock = some k → w.heap.size ≤ k) ∨ (v' = v ∧ w' = w)) := by
 subst hsize
 subst hby
 have hsmall : n + m ≤ 9223372036854775807 := by simp only [maxLen] at h63; omega
 have hlen : (xs ++ news).length = (n + m) * i.size := by rw [List.length_append, hown.1, hl, Nat.add_mul]
 by_cases hm : m = 0
 ·subst hm
  have hn : news = [] := List.eq_nil_of_length_eq_zero BO
  subst hn
  refine ⟨v, w, ?_, by simpa using hown, rfl, rfl, rfl, .inr (.inr ⟨rfl, rfl⟩)⟩
  rcases hown.2 with ⟨rfl, rfl⟩ | ⟨g, cap, cur, rfl, hbg, hg, hnc, hcm, hcs, htake⟩
  ·cases ad <;> simp [Builtin.append_, run_underlying ht, sizeOf, typeInfo, hi, Builtin.lenOf, Builtin.firstCells, loadCells, loadCellsFrom]
  ·cases ad <;> simp [Builtin.append_, run_underlying ht, sizeOf, typeInfo, hi, Builtin.lenOf, Builtin.firstCells, loadCells, loadCellsFrom, hnc, storeCells]
 ·have hpos : 0 < news.length := by rw [hl]; exact Nat.mul_pos (by omega) hsz
  obtain ⟨a, rfl, -⟩ := hnews 0 _ (List.getElem?_eq_getElem hpos)
  have hnews' : ∀ (j : Nat) u, news[j]? = some u → w.cell? (a.add j) = some u := fun j u hj => by
   obtain ⟨a', e', h⟩ := hnews j u hj
   cases e'; exact h
  have grown : ∀ (old : Nat), old < n + m →
   (w.drew.alloc (.cells (xs.toArray ++ news.toArray ++ Builtin.zeroCells z.cells (grownCap w (n + m) old e - (n + m))) e)).ownsRow 0 e i.size
     (.slice (some ⟨w.heap.size, 0, none⟩) (n + m) (grownCap w (n + m) old e)) (n + m) (xs ++ news) ∧
   Below w.heap.size w (w.drew.alloc (.cells (xs.toArray ++ news.toArray ++ Builtin.zeroCells z.cells (grownCap w (n + m) old e - (n + m))) e)) := by
   intro old ho
   have hge := grownCap_ge w (n + m) old e
   have hcm : grownCap w (n + m) old e ≤ maxLen := grownCap_le_maxLen w (n + m) old e h63
   refine ⟨⟨hlen, .inr ⟨w.heap.size, _, _, rfl, Nat.zero_le _, heap_alloc_new w.drew _, hge, hcm, ?_, ?_⟩⟩, (Below.refl w.heap.size w).drew.alloc (Nat.le_refl _) _⟩
   ·simp only [Array.size_append, List.size_toArray, size_zeroCells, hzs, hown.1, hl, ← Nat.add_mul]
    congr 1
    omega
   ·simp only [Array.toList_append, List.append_assoc]
    rw [← List.append_assoc, ← hlen]
    exact List.take_left
  rcases hown.2 with ⟨rfl, rfl⟩ | ⟨g, cap, cur, rfl, hbg, hg, hnc, hcm, hcs, htake⟩
  ·have hx : xs = [] := List.eq_nil_of_length_eq_zero (by simpa using hown.1)
   subst hx
   have hr := run_append_nil (P := P) w t ty e i z ht hi hz a m c news hl hnews' (by omega) (by omega) R9
   have hgr := grown 0 (by omega)
   simp only [Nat.zero_add, List.nil_append, Array.empty_append] at hgr ⊢
   exact ⟨_, _, hr, hgr.1, rfl, rfl, rfl, .inr (.inl ⟨hgr.2, fun k hk => by simp [Value.ownBlock] at hk; omega⟩)⟩
  ·by_cases hroom : n + m ≤ cap
   ·have hfit : n * i.size + news.length ≤ cur.size := by rw [hl, hcs, ← Nat.add_mul]; exact Nat.mul_le_mul_right _ hroom
    have hr := run_append_room (P := P) w t ty e i ht hi g n cap cur hg a m c news hl hnews' h1 hroom hfit
    refine ⟨_, _, hr, ⟨hlen, .inr ⟨g, cap, _, rfl, hbg, setRow_heap w g cur _ e _ hg, hroom, hcm, ?_, ?_⟩⟩, rfl, rfl, rfl, .inl ⟨g, rfl, rfl, by simp, fun k hk => setRow_other w g k _ hk⟩⟩
    ·simp only [List.size_toArray, List.length_append, List.length_take, List.length_drop, Array.length_toList]
     omega
    ·rw [htake, ← hlen]
     exact List.take_left
   ·have holds : ∀ (j : Nat) u, xs[j]? = some u → w.cell? ((⟨g, 0, none⟩ : Addr).add j) = some u := hown.cells (g := g) rfl
    have hr := run_append_grow (P := P) w t ty e i z ht hi hz ⟨g, 0, none⟩ n cap xs hown.1 holds a m c news hl hnews' (by omega) (by omega) (growslice_fits (by omega) hbytes)
    have hgr := grown cap (by omega)
    exact ⟨_, _, hr, hgr.1, rfl, rfl, rfl, .inr (.inl ⟨hgr.2, fun k hk => by simp [Value.ownBlock] at hk; omega⟩)⟩
theorem MR.append {w0 w w' : World} {I0 I : Nat → Nat → Prop} {B : Nat → Value} {m : Mem} (h : MR w0 I0 B I m w) {id e n : Nat} {xs ys : List (List C)} {vs news : List Value} {v' : Value} (hid : m id = some (.arr e n xs)) (hv : w.ownsRow 0 e n (B id) xs.length vs) (hvs : RCs w I vs (flat xs)) (hlx : ∀ x ∈ xs, x.length = n)
 (hiff : ∀ b, (B id).ownBlock = some b → ∀ o, (I b o ↔ o < xs.length * n)) (hown : w'.ownsRow 0 e n v' (xs.length + ys.length) (vs ++ news)) (hnews : RCs w I news (flat ys)) (hly : ∀ y ∈ ys, y.length = n) (h1 : w'.os = w.os) (h2 : w'.tape = w.tape) (h3 : w'.output = w.output)
 (h4 : (∃ g, (B id).ownBlock = some g ∧ v'.ownBlock = some g ∧ w'.heap.size = w.heap.size ∧ ∀ k, k ≠ g → w'.heap[k]? = w.heap[k]?) ∨ (Below w.heap.size w w' ∧ ∀ k, v'.ownBlock = some k → w.heap.size ≤ k) ∨ (v' = B id ∧ w' = w)) :
 ∃ I', MR w0 I0 (upd B id v') I' (upd (eH id m) id (some (.arr e n (xs ++ ys)))) w' ∧ Ext w w' I I' := by
 have hlow := h.low id _ hid
 -- of which block v' is
 have hblk : ∀ b, v'.ownBlock = some b → b < w'.heap.size ∧ ((B id).ownBlock = some b ∨ w.heap.size ≤ b) := fun b hb => by
  refine ⟨(hown.lt b hb).2, ?_⟩
  rcases h4 with ⟨g, k1, k2, -⟩ | ⟨-, k⟩ | ⟨k, -⟩
  ·rw [k2] at hb; rw [← hb]; exact .inl k1
  ·exact .inr (k b hb)
  ·rw [k] at hb; exact .inl hb
 have hsize : w.heap.size ≤ w'.heap.size := by
  rcases h4 with ⟨g, -, -, k, -⟩ | ⟨k, -⟩ | ⟨-, k⟩
  ·omega
  ·exact k.size
  ·rw [k]; exact Nat.le_refl _
 have hkeep : ∀ b, b < w.heap.size → (B id).ownBlock ≠ some b → w'.heap[b]? = w.heap[b]? := fun b hb hne => by
  rcases h4 with ⟨g, k1, -, -, k⟩ | ⟨k, -⟩ | ⟨-, k⟩
  ·exact k b (fun e => hne (by rw [k1, e]))
  ·exact k.block b hb
  ·rw [k]
 have hbel : Below w0.heap.size w0 w' := h.below.trans ⟨h1, h2, h3, hsize, fun b hb => hkeep b (Nat.lt_of_lt_of_le hb h.below.size) (fun e => by have := (hlow b e).1; omega)⟩
 let I' : Nat → Nat → Prop := fun b o => I b o ∨ (v'.ownBlock = some b ∧ o < (xs.length + ys.length) * n)
 have cellOf : ∀ {W : World} {v : Value} {k : Nat} {us : List Value} {b o : Nat}, W.ownsRow 0 e n v k us → v.ownBlock = some b → o < us.length → W.cell? ⟨b, o, none⟩ = us[o]? := fun {W v k us b o} hr hb ho => by
  have := hr.cells hb o _ (List.getElem?_eq_getElem ho)
  rw [kJ, Nat.zero_add] at this
  rw [this, List.getElem?_eq_getElem ho]
 have hE : Ext w w' I I' := by
  refine ⟨fun _ _ k => .inl k, fun b o ho => ?_⟩
  by_cases e1 : (B id).ownBlock = some b
  ·have hlt := (hiff b e1 o).1 ho
   have hlv : vs.length = xs.length * n := hv.1
   rcases h4 with ⟨g, k1, k2, -⟩ | ⟨k, -⟩ | ⟨-, k⟩
   ·have : g = b := by rw [k1] at e1; exact Option.some.inj e1
    subst this
    rw [cellOf hown k2 (by rw [List.length_append]; omega), cellOf hv k1 (by omega), List.getElem?_append_left (by omega)]
   ·exact k.cell (p := ⟨b, o, none⟩) (h.there b o ho)
   ·rw [k]
  ·exact World.cell?_of_block (w := w) (hkeep b (h.there b o ho) e1)
 refine ⟨I', h.BM hid h1 h2 h3 hsize (fun b hb hn => hkeep b hb (fun e => hn e)) (fun k hk => hblk k (by simpa [foot, upd_same] using hk)) hE (fun b p hp => hp.imp (fun z => z) fun q => by simpa [foot, upd_same] using q.1) ?_ (fun i hi => by simp [O.ids] at hi), hE⟩
 refine ⟨vs ++ news, ?_, ?_, fun x hx => ?_, fun b hb o => ?_⟩
 ·rw [upd_same, List.length_append]; exact hown
 ·rw [flat, List.flatten_append]
  exact (hvs.mono hE).append (hnews.mono hE)
 ·rcases List.mem_append.1 hx with q | q
  ·exact hlx x q
  ·exact hly x q
 ·rw [upd_same] at hb
  rw [List.length_append]
  refine ⟨fun ho => ?_, fun ho => .inr ⟨hb, ho⟩⟩
  rcases ho with ho | ⟨-, ho⟩
  ·rcases (hblk b hb).2 with q | q
   ·have := (hiff b q o).1 ho
    rw [Nat.add_mul]; omega
   ·have := h.there b o ho; omega
  ·exact ho
theorem nH {α : Type} (l ins : List α) (k q : Nat) (h : k + ins.length ≤ l.length) : (l.take k ++ (ins ++ l.drop (k + ins.length)))[q]? = if k ≤ q ∧ q < k + ins.length then ins[q - k]? else l[q]? := by
 have hk : min k l.length = k := by omega
 by_cases h1 : q < k
 ·rw [if_neg (by omega), List.getElem?_append_left x9, List.getElem?_take, if_pos h1]
 ·rw [List.getElem?_append_right x9, List.length_take, hk]
  by_cases h2 : q < k + ins.length
  ·rw [if_pos ⟨by omega, h2⟩, List.getElem?_append_left (by omega)]
  ·rw [if_neg (by omega), List.getElem?_append_right (by omega), List.getElem?_drop]
   congr 1; omega
theorem kM {α : Type} (l ins : List α) (k : Nat) (h : k + ins.length ≤ l.length) : (l.take k ++ (ins ++ l.drop (k + ins.length))).length = l.length := by
 simp only [List.length_append, List.length_take, List.length_drop]; omega
theorem tu {α : Type} (cur ins vs : List α) (off k N : Nat) (hv : (cur.drop off).take N = vs) (hN : off + N ≤ cur.length) (hk : k + ins.length ≤ N) :
 ((cur.take (off + k) ++ (ins ++ cur.drop (off + k + ins.length))).drop off).take N = vs.take k ++ (ins ++ vs.drop (k + ins.length)) := by
 have hvl : vs.length = N := by rw [← hv]; simp only [List.length_take, List.length_drop]; omega
 refine List.ext_getElem? fun q => ?_
 rw [nH vs ins k q (by omega), List.getElem?_take]
 by_cases hq : q < N
 ·rw [if_pos hq, List.getElem?_drop, nH cur ins (off + k) (off + q) (by omega)]
  have hvq : vs[q]? = cur[off + q]? := by rw [← hv, List.getElem?_take, if_pos hq, List.getElem?_drop]
  by_cases h1 : k ≤ q ∧ q < k + ins.length
  ·rw [if_pos (by omega), if_pos h1]; congr 1; omega
  ·rw [if_neg (by omega), if_neg h1, hvq]
 ·rw [if_neg hq, if_neg (by omega), List.getElem?_eq_none (by omega)]
theorem Fy {xs : List (List C)} {e i f : Nat} {cs l : List C} (hlx : ∀ x ∈ xs, x.length = e) (hcs : xs[i]? = some cs) (hfl : f + l.length ≤ e) :
 flat (xs.set i (qW cs f l)) = (flat xs).take (i * e + f) ++ (l ++ (flat xs).drop (i * e + f + l.length)) := by
 have hlt := (List.getElem?_eq_some_iff.1 hcs).1
 have hcl := hlx cs (List.mem_of_getElem? hcs)
 have hrl : (qW cs f l).length = e := by rw [qW, kM _ _ _ (by omega), hcl]
 have hlx' : ∀ x ∈ xs.set i (qW cs f l), x.length = e := fun x hx => by
  rcases List.mem_or_eq_of_mem_set hx with hx | rfl
  ·exact hlx x hx
  ·exact hrl
 have hF := lC hlx
 have hF' := lC hlx'
 rw [List.length_set] at hF'
 have hbnd : i * e + e ≤ xs.length * e := by
  have := Nat.mul_le_mul_right e (show i + 1 ≤ xs.length from hlt)
  rw [Nat.add_mul] at this; omega
 by_cases he : e = 0
 ·subst he
  have h1 : flat (xs.set i (qW cs f l)) = [] := List.eq_nil_of_length_eq_zero (by omega)
  have h2 : flat xs = [] := List.eq_nil_of_length_eq_zero (by omega)
  have h3 : l = [] := List.eq_nil_of_length_eq_zero (by omega)
  rw [h1, h2, h3]; simp
 ·refine List.ext_getElem? fun q => ?_
  rw [nH _ _ _ _ (by omega)]
  by_cases hq : q < xs.length * e
  ·have hml := Nat.mod_lt q (Nat.pos_of_ne_zero he)
   have hqd : q / e < xs.length := (Nat.div_lt_iff_lt_mul (Nat.pos_of_ne_zero he)).2 hq
   have eq : q / e * e + q % e = q := by rw [Nat.mul_comm]; exact Nat.div_add_mod q e
   have old := l9 hlx (q / e) (q % e) _ (List.getElem?_eq_getElem hqd) hml
   rw [eq] at old
   by_cases h6 : i = q / e
   ·have nw := l9 hlx' (q / e) (q % e) (qW cs f l) (by rw [List.getElem?_set, if_pos h6, if_pos hlt]) hml
    rw [eq] at nw
    have hcs' : xs[q / e] = cs := by
     have := List.getElem?_eq_getElem hqd
     have h7 : xs[q / e]? = some cs := by rw [← h6]; exact hcs
     exact Option.some.inj (this.symm.trans h7)
    rw [hcs'] at old
    have eq2 : i * e + q % e = q := by rw [h6]; exact eq
    rw [nw, qW, nH cs l f (q % e) (by omega)]
    by_cases h1 : f ≤ q % e ∧ q % e < f + l.length
    ·rw [if_pos h1, if_pos (by omega)]; congr 1; omega
    ·rw [if_neg h1, if_neg (by omega), old]
   ·have nw := l9 hlx' (q / e) (q % e) xs[q / e] (by rw [List.getElem?_set, if_neg h6]; exact List.getElem?_eq_getElem hqd) hml
    rw [eq] at nw
    have hout : q < i * e ∨ i * e + e ≤ q := by
     rcases Nat.lt_or_gt_of_ne h6 with h7 | h7
     ·right
      have := Nat.mul_le_mul_right e (show i + 1 ≤ q / e from h7)
      rw [Nat.add_mul] at this; omega
     ·left
      have := Nat.mul_le_mul_right e (show q / e + 1 ≤ i from h7)
      rw [Nat.add_mul] at this; omega
    rw [nw, if_neg (by omega), old]
  ·rw [if_neg (by omega), List.getElem?_eq_none (by omega), List.getElem?_eq_none (by omega)]
section
variable {P : Go.Program} {T : Tab} {w0 w : World} {I0 I : Nat → Nat → Prop} {B : Nat → Value} {m : Mem}
theorem Jp (hT : T.Ok P) (hm : MR w0 I0 B I m w) {ty j : Nat} {a v : A} {b b' : O} {u y : Value} (ha : qG a = some j) (hj : m j = some b) (hn : stO T ty a v b = some b') (hu : RV B w I a u) (hy : RV B w I v y) (hl : ∀ i ∈ v.ids, (m i).isSome = true) :
 ∃ w', (Instr.storeAt ty u y).run P w = .ok () w' ∧ MR w0 I0 B I (upd m j (some b')) w' ∧ Ext w w' I I := by
 have hids : ∀ i ∈ b'.ids, (m i).isSome = true := fun i hi => (IX hn i hi).elim (hm.live j b hj i) (hl i)
 cases b with
 | box ty0 cells =>
   simp only [stO] at hn
   split at hn
   ·rename_i id off n g l hty hc
    simp [qG] at ha; subst ha
    split at hn
    ·rename_i hh
     cases hn
     obtain ⟨b, us, hB, hus, hcs, hI⟩ := hm.objs _ _ hj
     obtain ⟨b', hB', e2⟩ := hu
     rw [hB] at hB'
     cases hB'
     have hvs := pW hc hy
     have hlen := hvs.length
     have hcl := hcs.length
     obtain ⟨w', r1, r2, r3, r4, r5, r6, r7⟩ := kC (P := P) y.cells.toList off 0 us w hus hvs.oneCell (by omega)
     refine ⟨w', ?_, ?_⟩
     ·simp only [e2, Instr.storeAt, Instr.sureAddr, Sem.run_bind, Sem.run_pure, Result.andThen_ok, storeVar, run_sizeOf hT hty]
      rw [if_neg (by rw [← hh.1, hlen]; simp), r1]
     ·refine hm.turn hj ⟨0, hB⟩ (fun k hk => ?_) hI r3 r4 r5 r6 r7 hids (fun hE => ⟨b, _, hB, r2, ?_, hI⟩)
      ·obtain ⟨o', hk⟩ := hk
       rw [hB] at hk; cases hk; rfl
      ·unfold vI
       rw [hlen]
       exact ((hcs.take off).append (hvs.append (hcs.drop _))).mono hE (fun _ _ => rfl)
    ·cases hn
   ·cases hn
 | mrow ty0 e xs =>
   simp only [stO] at hn
   split at hn
   ·rename_i id e' i f n g l hty hc
    simp [qG] at ha; subst ha
    split at hn
    ·rename_i hh
     obtain ⟨rfl, hln, hfl⟩ := hh
     split at hn
     ·rename_i cs hcs
      cases hn
      obtain ⟨vs, hrow, hvs, hlx, hI⟩ := hm.objs _ _ hj
      obtain ⟨bl, off, nn, cap, hB, e2⟩ := hu
      have hcl := hlx cs (List.mem_of_getElem? hcs)
      have hlt := (List.getElem?_eq_some_iff.1 hcs).1
      have hdat : RCs w I y.cells.toList l := by
       cases v <;> simp [xI] at hc <;> subst hc
       ·rw [(RC.one hy).2]; exact ⟨hy, trivial⟩
       ·obtain ⟨us, rfl, h⟩ := hy; exact h
       ·have hy' : y = _ := hy
        rw [hy']
        exact ⟨.sl (e := 0) (fun _ _ => undef) rfl (Nat.le_refl _) (Nat.zero_le _) (fun _ h => by simp at h) (fun i x hx => by simp at hx) (fun i j x c hx => by simp at hx), trivial⟩
       ·rw [(RC.one hy.1).2]; exact ⟨hy.1, trivial⟩
      have hlen := hdat.length
      have hlen2 : y.cells.size = l.length := by rw [← Array.length_toList]; exact hlen
      rcases hrow.2 with ⟨e3, -⟩ | ⟨gb, o3, c3, cur, e3, hg, hnc, hcm, hsz, htk⟩
      ·rw [hB] at e3; cases e3
      ·rw [hB] at e3; cases e3
       have hbnd : i * e' + e' ≤ xs.length * e' := by
        have := Nat.mul_le_mul_right e' (show i + 1 ≤ xs.length from hlt)
        rw [Nat.add_mul] at this; omega
       have hcap : xs.length * e' ≤ cap * e' := Nat.mul_le_mul_right _ hnc
       have one : ∀ u ∈ y.cells.toList, u.oneCell' = true := fun u hu => by
        obtain ⟨q, hq⟩ := List.getElem?_of_mem hu
        obtain ⟨x, hx⟩ : ∃ x, l[q]? = some x := ⟨_, List.getElem?_eq_getElem (by rw [← hlen]; exact (List.getElem?_eq_some_iff.1 hq).1)⟩
        obtain ⟨u', h5, h6⟩ := hdat.at q x hx
        rw [hq] at h5; cases h5; exact h6.one.1
       obtain ⟨w', r1, r2, r3, r4, r5, r6, r7⟩ := kC (P := P) y.cells.toList (off + i * e' + f) 0 cur.toList w hg one (by rw [show cur.toList.length = cur.size from Array.length_toList]; omega)
       refine ⟨w', ?_, ?_⟩
       ·simp only [e2, Instr.storeAt, Instr.sureAddr, Sem.run_bind, Sem.run_pure, Result.andThen_ok, storeVar, run_sizeOf hT hty]
        rw [if_neg (by rw [← hln, ← hlen]; simp), r1]
       ·have hf : foot B id (.mrow ty0 e' xs) bl := by show Value.ownBlock _ = _; rw [hB]; rfl
        refine hm.turn hj hf (fun k hk => ?_) (hI bl hf) r3 r4 r5 r6 r7 hids (fun hE => ⟨vs.take (i * e' + f) ++ (y.cells.toList ++ vs.drop (i * e' + f + y.cells.toList.length)), ?_, ?_, fun x hx => ?_, fun b hb => hI b hb⟩)
        ·have hk : (B id).ownBlock = some k := hk
         rw [hB] at hk; simp [Value.ownBlock] at hk; exact hk.symm
        ·have hvl : vs.length = xs.length * e' := hrow.1
         refine ⟨by rw [kM _ _ _ (by omega), List.length_set]; exact hvl, .inr ⟨bl, off, cap, _, by rw [List.length_set]; exact hB, r2, by rw [List.length_set]; exact hnc, hcm, ?_, ?_⟩⟩
         ·rw [List.size_toArray, kM _ _ _ CB, Array.length_toList]
          exact hsz
         ·rw [List.length_set]
          have := tu cur.toList y.cells.toList vs off (i * e' + f) (xs.length * e') htk CB (by omega)
          simp only [Nat.add_zero, ← Nat.add_assoc] at this ⊢
          exact this
        ·refine RCs.mono hE ?_
         rw [Fy hlx hcs hfl]
         rw [show i * e' + f + y.cells.toList.length = i * e' + f + l.length by omega]
         exact (hvs.take _).append (hdat.append (hvs.drop _))
        ·rcases List.mem_or_eq_of_mem_set hx with hx | rfl
         ·exact hlx x hx
         ·rw [qW, kM _ _ _ (by omega), hcl]
     ·cases hn
    ·cases hn
   ·cases hn
 | rows ty0 xs =>
   simp only [stO] at hn
   split at hn
   ·rename_i id e i f n g b1 hty hc
    simp [qG] at ha; subst ha
    split at hn
    ·rename_i hh
     obtain ⟨rfl, rfl, rfl, hlt⟩ := hh
     split at hn
     ·rename_i q hq
      cases hn
      obtain ⟨vs, hrow, hvs, h1, hI⟩ := hm.objs _ _ hj
      obtain ⟨bl, off, nn, cap, hB, e2⟩ := hu
      have hvc := pW hc hy
      have hyc : ∃ u, y.cells.toList = [u] := by
       have := hvc.length
       cases hyl : y.cells.toList with
       | nil => rw [hyl] at this; cases this
       | cons u us => cases us with | nil => exact ⟨u, rfl⟩ | cons _ _ => rw [hyl] at this; simp at this
      obtain ⟨u, hyu⟩ := hyc
      rw [hyu] at hvc
      have hru := lg hq hvc.1.1
      rcases hrow.2 with ⟨e3, -⟩ | ⟨gb, o3, c3, cur, e3, hg, hnc, hcm, hsz, htk⟩
      ·rw [hB] at e3; cases e3
      ·rw [hB] at e3; cases e3
       have hvl : vs.length = xs.length * 1 := hrow.1
       obtain ⟨w', r1, r2, r3, r4, r5, r6, r7⟩ := kC (P := P) [u] (off + i * 1 + 0) 0 cur.toList w hg (fun z hz => by simp at hz; subst hz; exact hvc.1.2) SQ
       refine ⟨w', ?_, ?_⟩
       ·simp only [e2, Instr.storeAt, Instr.sureAddr, Sem.run_bind, Sem.run_pure, Result.andThen_ok, storeVar, run_sizeOf hT hty]
        rw [if_neg (by rw [← Array.length_toList, hyu]; simp), hyu, r1]
       ·have hf : foot B id (.rows ty0 xs) bl := by show Value.ownBlock _ = _; rw [hB]; rfl
        refine hm.turn hj hf (fun k hk => ?_) (hI bl hf) r3 r4 r5 r6 r7 hids (fun hE => ⟨vs.set i u, ?_, ?_, fun x hx => ?_, fun b hb => hI b hb⟩)
        ·have hk : (B id).ownBlock = some k := hk
         rw [hB] at hk; simp [Value.ownBlock] at hk; exact hk.symm
        ·refine ⟨by rw [List.length_set, List.length_set]; exact hvl, .inr ⟨bl, off, cap, _, by rw [List.length_set]; exact hB, r2, by rw [List.length_set]; exact hnc, hcm, ?_, ?_⟩⟩
         ·rw [List.size_toArray, kM _ _ _ SQ, Array.length_toList]
          exact hsz
         ·rw [List.length_set]
          have := tu cur.toList [u] vs off i (xs.length * 1) htk CB (by simp only [List.length_cons, List.length_nil]; omega)
          simp only [Nat.add_zero, Nat.mul_one] at this ⊢
          rw [this]
          refine List.ext_getElem? fun q => ?_
          rw [nH _ _ _ _ (by rw [List.length_cons, List.length_nil]; omega), List.getElem?_set]
          by_cases h1 : i = q
          ·subst h1
           rw [if_pos (by simp), if_pos rfl, if_pos (by omega)]; simp
          ·rw [if_neg (by simp; omega), if_neg h1]
        ·refine R1s.of (by rw [List.length_set, List.length_set]; exact hvs.length) fun q a' v' ha' hv' => ?_
         rw [List.getElem?_set] at ha' hv'
         by_cases h1 : i = q
         ·subst h1
          rw [if_pos rfl, if_pos (by omega)] at ha' hv'
          cases ha'; cases hv'
          exact hru.mono hE fun _ _ => rfl
         ·rw [if_neg h1] at ha' hv'
          obtain ⟨v2, h2, h3⟩ := hvs.at q a' ha'
          rw [hv'] at h2; cases h2
          exact h3.mono hE fun _ _ => rfl
        ·rcases List.mem_or_eq_of_mem_set hx with hx | rfl
         ·exact h1 x hx
         ·exact hvc.1.2
     ·cases hn
    ·cases hn
   ·cases hn
 | _ => simp [stO] at hn
end
section
variable {P : Go.Program} {T : Tab} (hT : T.Ok P) {R : Ref} {w : World} {n base : Nat} {ds : List Deferred} {ops : Array Oper}
include hT
theorem HS.snd {o : Oper} {st st' : St} {a : Act} (h : HS P T R.keep base ops o st st') (hr : SR R n ds st a w) (hd : ∀ d, o.dst = some d → d < n) {K : Act → World → Prop} {Q : Exit → Act → World → Prop} (hK : ∀ a' w', SR R n ds st' a' w' → K a' w') :
 if Region.wanted o (yielded ops a.tmps) = true then o.wp P a w K Q else K (a.put o.dst undef) w := by
 cases h with
 | eff h => exact h.run R n ds a w K Q rfl hr hd hK
 | val h => exact h.snd hT hr hd hK
 | @store ty j x v b b' h =>
   obtain ⟨B, I, hm, hx0, hkp, hs⟩ := hr.ex
   rw [fP hs h.want, if_pos rfl]
   obtain ⟨w', r1, r2, r3⟩ := Jp hT hm h.at_ h.box h.new (iK hs x) (iK hs v) (tq hr.ids v)
   have hrun : (execOp a.eval o).run P w = .ok .skip w' := by
    simp only [execOp, h.op, Sem.run_bind, r1, Result.andThen_ok]
    rfl
   unfold Oper.wp Oper.upon
   rw [hrun, h.dst]
   have liv : ∀ i, (st.m i).isSome = true → (upd st.m j (some b') i).isSome = true := fun i hi => by
    unfold upd; split
    ·rfl
    ·exact hi
   exact hK _ _ ⟨⟨B, I, r2, hx0.trans r3, hkp, fun t => (hs t).mono r3 fun _ _ => rfl⟩, fun t i hi => liv i (hr.ids t i hi), hr.size, hr.nn, hr.defs, fun i hi => liv i (hr.kept i hi)⟩
theorem Ij (hok : qO T ops = true) (hd : ∀ o ∈ ops, ∀ d, o.dst = some d → d < n) {Q : Exit → Act → World → Prop} {st' : St} (hQ : ∀ a w, SR R n ds st' a w → Q .normal a w) :
 ∀ (fuel : Nat) (listed : Array Bool) (l : List Nat) (st : St) (a : Act) (w : World), l.length ≤ fuel → listed.size = ops.size → l.Pairwise (· < ·) → (∀ i, i ∈ l ↔ i < ops.size ∧ listed.getD i true = false) → mh ops listed → SR R n ds st a w → Chain P T R.keep base ops l st st' →
   wpAny P .any ops Q fuel listed a w := by
 have hokAt : ∀ k, k < ops.size → Fj T ops k = true := fun k hk => List.all_eq_true.1 hok k (List.mem_range.2 hk)
 -- the least that has not come up may come up
 have least : ∀ {listed : Array Bool} {i : Nat} {l : List Nat}, listed.size = ops.size → (i :: l).Pairwise (· < ·) → (∀ j, j ∈ i :: l ↔ j < ops.size ∧ listed.getD j true = false) → i ∈ Region.ready .any ops listed := by
  intro listed i l hsz hp hmem
  have hi := (hmem i).1 (by simp)
  rw [mem_ready]
  refine ⟨hi.2, ops[i], by simp [hi.1], fun e he hb => ?_⟩
  have hk := hokAt i hi.1
  simp only [Fj, Array.getElem?_eq_getElem hi.1, Bool.and_eq_true, List.all_eq_true] at hk
  have hlt := hk.1 e FL
  rw [hb] at hlt
  simp at hlt
  have : ¬ (e.on ∈ i :: l) := fun hmm => by
   rcases List.mem_cons.1 hmm with rfl | hmm
   ·omega
   ·have := (List.pairwise_cons.1 hp).1 e.on hmm; omega
  have hnot := mt (hmem e.on).2 this
  have hlt2 : e.on < ops.size := by omega
  rw [Array.getD_eq_getD_getElem?] at hnot ⊢
  cases hx : listed[e.on]? with
  | none => have := (Array.getElem?_eq_none_iff.1 hx); omega
  | some c => cases c with
    | true => rfl
    | false => rw [hx] at hnot; exact absurd ⟨hlt2, rfl⟩ hnot
 intro fuel
 induction fuel with
 | zero =>
   intro listed l st a w hl hsz hp hmem hc hr hch
   have : l = [] := List.length_eq_zero_iff.1 (by omega)
   subst this
   cases hch
   refine ⟨?_, hQ a w hr⟩
   refine List.eq_nil_iff_forall_not_mem.2 fun i hi => ?_
   obtain ⟨h1, o, h2, -⟩ := mem_ready.1 hi
   have := (hmem i).2 ⟨(Array.getElem?_eq_some_iff.1 h2).1, h1⟩
   simp at this
 | succ fuel ih =>
   intro listed l st a w hl hsz hp hmem hc hr hch
   constructor
   ·intro hnil
    cases l with
    | nil => cases hch; exact hQ a w hr
    | cons i l => have := least hsz hp hmem; rw [hnil] at this; cases this
   ·intro i hi
    obtain ⟨h1, oi, h2, h3⟩ := mem_ready.1 hi
    have hil := (hmem i).2 ⟨(Array.getElem?_eq_some_iff.1 h2).1, h1⟩
    obtain ⟨l1, l2, rfl⟩ := List.append_of_mem hil
    have hpp := List.pairwise_append.1 hp
    have hind : ∀ j ∈ l1, ∀ oj, ops[j]? = some oj → indep T ops oj oi = true := fun j hj oj hoj => by
     have hji : j < i := hpp.2.2 j hj i (by simp)
     have hk := hokAt i (Array.getElem?_eq_some_iff.1 h2).1
     simp only [Fj, h2, Bool.and_eq_true, List.all_eq_true] at hk
     have := hk.2 j (List.mem_range.2 hji)
     rw [hoj] at this
     simp only [Bool.or_eq_true] at this
     refine this.resolve_right fun ha => ?_
     have hjl := kT hc _ i oi h2 h3 ha
     have := ((hmem j).1 (by simp [hj])).2
     rw [rD hjl] at this
     cases this
    obtain ⟨st1, h4, h5⟩ := Chain.front h2 hr.wf hind hch
    have hoi : oi ∈ ops := Array.mem_of_getElem? h2
    have hlt := (Array.getElem?_eq_some_iff.1 h2).1
    have hset : ∀ k, (listed.setIfInBounds i true).getD k true = if k = i then true else listed.getD k true := fun k => by
     rw [Array.getD_eq_getD_getElem?, Array.getD_eq_getD_getElem?, Array.getElem?_setIfInBounds]
     by_cases e : i = k
     ·subst e; simp; split <;> rfl
     ·rw [if_neg e, if_neg (Ne.symm e)]
    have hsetf : ∀ k, listed.getD k false = true → (listed.setIfInBounds i true).getD k false = true := fun k hk => by
     rw [Array.getD_eq_getD_getElem?] at hk ⊢
     rw [Array.getElem?_setIfInBounds]
     by_cases e : i = k
     ·subst e; simp [hsz, hlt]
     ·rw [if_neg e]; exact hk
    unfold wpOp
    rw [h2]
    have hgo := h4.snd hT hr (hd oi hoi) (K := wpAny P .any ops Q fuel (listed.setIfInBounds i true)) (Q := Q) (fun a' w' hr' => by
     refine ih _ (l1 ++ l2) st1 a' w' ?_ Cg (hp.sublist (by simp)) (fun k => ?_) (fun k o ho hkl e he hb => ?_) hr' h5
     ·simp at hl ⊢; omega
     ·rw [hset]
      by_cases e : k = i
      ·subst e
       rw [if_pos rfl]
       refine ⟨fun hk => ?_, fun hk => by cases hk.2⟩
       exfalso
       rcases List.mem_append.1 hk with hk | hk
       ·have := hpp.2.2 k hk k (by simp); omega
       ·have := (List.pairwise_cons.1 hpp.2.1).1 k hk; omega
      ·rw [if_neg e, ← hmem k]
       simp [e]
     ·rw [hset] at hkl
      split at hkl
      ·rename_i e'; subst e'
       have : o = oi := Option.some.inj (ho.symm.trans h2)
       subst this
       exact hsetf _ (h3 e he hb)
      ·exact hsetf _ (hc k o ho hkl e he hb))
    dsimp only
    split
    ·rename_i hw; rw [if_pos hw] at hgo; exact .inl hgo
    ·rename_i hw; rw [if_neg hw] at hgo; exact hgo
end
section
variable {P : Go.Program} {T : Tab} {w0 w : World} {I0 I : Nat → Nat → Prop} {B : Nat → Value} {m : Mem}
theorem Ik {yv : Value} {ys : List (List C)} {n' : Nat} (hn0 : 0 < n') (h : RC w I yv (.sl ys)) (hl : ∀ z ∈ ys, z.length = n') :
 ∃ ad my cap news, yv = .slice ad my cap ∧ ys.length = my ∧ news.length = my * n' ∧ (∀ (j : Nat) u, news[j]? = some u → ∃ a, ad = some a ∧ w.cell? (a.add j) = some u) ∧ RCs w I news (flat ys) ∧ ∀ u ∈ news, u.oneCell' = true := by
 cases h with
 | @sl ad my cap e' _ f hn hc hmx hln ha hrr =>
   let news : List Value := ((List.range ys.length).map fun i => (List.range n').map (f i)).flatten
   have hin : ∀ x ∈ (List.range ys.length).map (fun i => (List.range n').map (f i)), x.length = n' := fun x hx => by
    obtain ⟨i, -, rfl⟩ := List.mem_map.1 hx
    simp
   have hnl : news.length = ys.length * n' := by
    have : ∀ {l : List (List Value)}, (∀ x ∈ l, x.length = n') → l.flatten.length = l.length * n' := by
     intro l
     induction l with
     | nil => intro _; simp
     | cons x l ih => intro h; rw [List.flatten_cons, List.length_append, ih fun y hy => h y (List.mem_cons_of_mem _ hy), h x (by simp), List.length_cons, Nat.add_mul]; omega
    have := this hin
    rw [List.length_map, List.length_range] at this
    exact this
   have hns : ∀ (i j : Nat), i < ys.length → j < n' → news[i * n' + j]? = some (f i j) := fun i j hi hj => by
    have key : ∀ {l : List (List Value)} (i : Nat) (x : List Value), (∀ x ∈ l, x.length = n') → l[i]? = some x → l.flatten[i * n' + j]? = x[j]? := by
     intro l
     induction l with
     | nil => intro i x _ h; simp at h
     | cons y l ih =>
       intro i x hl hx
       have hy := hl y (by simp)
       cases i with
       | zero =>
         simp at hx; subst hx
         rw [List.flatten_cons, Nat.zero_mul, Nat.zero_add, List.getElem?_append_left (by omega)]
       | succ i =>
         have := ih i x (fun z hz => hl z (List.mem_cons_of_mem _ hz)) uQ
         rw [List.flatten_cons, List.getElem?_append_right M5, hy, show (i + 1) * n' + j - n' = i * n' + j by rw [Nat.add_mul]; omega]
         exact this
    have := key i ((List.range n').map (f i)) hin (by simp [hi])
    rw [this]
    simp [hj]
   have hdiv : ∀ (j : Nat), j < ys.length * n' → j / n' < ys.length ∧ j % n' < n' ∧ j / n' * n' + j % n' = j := fun j hj => ⟨(Nat.div_lt_iff_lt_mul hn0).2 hj, Nat.mod_lt _ hn0, by rw [Nat.mul_comm]; exact Nat.div_add_mod j n'⟩
   have hye : ∀ z ∈ ys, e' = n' := fun z hz => by rw [← hln z hz, hl z hz]
   have hrcs : RCs w I news (flat ys) := RCs.of (by rw [hnl, lC hl]) fun j u q hj hq => by
    have hjl := (List.getElem?_eq_some_iff.1 hj).1
    rw [hnl] at hjl
    obtain ⟨d1, d2, d3⟩ := hdiv j hjl
    have hget := List.getElem?_eq_getElem d1
    have h5 := hns _ _ d1 d2
    rw [d3, hj] at h5
    rw [Option.some.inj h5]
    have h6 := l9 hl _ _ _ hget d2
    rw [d3, hq] at h6
    exact hrr _ _ _ _ hget h6.symm
   refine ⟨ad, my, cap, news, rfl, hn, by rw [hnl, hn], fun j u hj => ?_, hrcs, fun u hu => ?_⟩
   ·have hjl := (List.getElem?_eq_some_iff.1 hj).1
    rw [hnl] at hjl
    obtain ⟨d1, d2, d3⟩ := hdiv j hjl
    have hget := List.getElem?_eq_getElem d1
    have hee := hye _ (List.getElem_mem d1)
    subst hee
    obtain ⟨bb, off, rfl, hcs⟩ := ha _ _ hget
    refine ⟨_, rfl, ?_⟩
    rw [kJ]
    have h5 := hns _ _ d1 d2
    rw [d3, hj] at h5
    have h6 := (hcs _ d2).2
    rw [Nat.add_assoc, d3] at h6
    rw [h6, ← Option.some.inj h5]
   ·obtain ⟨j, hj⟩ := List.getElem?_of_mem hu
    obtain ⟨q, hq⟩ : ∃ q, (flat ys)[j]? = some q := ⟨_, List.getElem?_eq_getElem (by rw [lC hl, ← hnl]; exact (List.getElem?_eq_some_iff.1 hj).1)⟩
    obtain ⟨u', h5, h6⟩ := hrcs.at j q hq
    have : u' = u := Option.some.inj (h5.symm.trans hj)
    subst this; exact h6.one.1
theorem Bo {P : Go.Program} (w : World) (t ty e : TypeId) (i : TypeInfo) (z : Value) (size bytes : Nat) (ht : P.underlying t = some (.slice e)) (hi : P.info? e = some i) (hz : i.zero = some z) (hsize : i.size = size) (hby : i.bytes = bytes) (hzs : z.cells.size = size) (hsz : 0 < size)
 (v : Value) (n : Nat) (xs : List Value) (hown : rowAt w e size v n xs) (ad : Option Addr) (m c : Nat) (news : List Value) (hl : news.length = m * size) (hnews : ∀ (j : Nat) u, news[j]? = some u → ∃ a, ad = some a ∧ w.cell? (a.add j) = some u) (h1 : ∀ u ∈ news, u.oneCell' = true)
 (h63 : n + m ≤ maxLen) (hbytes : (n + m) * bytes ≤ 140737488355328) :
 ∃ v' w', (Builtin.append_ #[t, t] ty #[v, .slice ad m c]).run P w = .ok v' w' ∧ rowAt w' e size v' (n + m) (xs ++ news) ∧ w'.os = w.os ∧ w'.tape = w.tape ∧ w'.output = w.output ∧
   ((∃ g, v.ownBlock = some g ∧ v'.ownBlock = some g ∧ w'.heap.size = w.heap.size ∧ ∀ k, k ≠ g → w'.heap[k]? = w.heap[k]?) ∨ (Below w.heap.size w w' ∧ ∀ k, v'.ownBlock = some k → k = w.heap.size ∧ k < w'.heap.size) ∨ (v' = v ∧ w' = w)) := by
 subst hsize
 subst hby
 have hsmall : n + m ≤ 9223372036854775807 := by simp only [maxLen] at h63; omega
 have hlen : (xs ++ news).length = (n + m) * i.size := by rw [List.length_append, hown.1, hl, Nat.add_mul]
 by_cases hm : m = 0
 ·subst hm
  have hn : news = [] := List.eq_nil_of_length_eq_zero BO
  subst hn
  refine ⟨v, w, ?_, by simpa using hown, rfl, rfl, rfl, .inr (.inr ⟨rfl, rfl⟩)⟩
  rcases hown.2 with ⟨rfl, rfl⟩ | ⟨g, off, cap, cur, rfl, hg, hnc, hcm, hcs, htake⟩
  ·cases ad <;> simp [Builtin.append_, run_underlying ht, sizeOf, typeInfo, hi, Builtin.lenOf, Builtin.firstCells, loadCells, loadCellsFrom]
  ·cases ad <;> simp [Builtin.append_, run_underlying ht, sizeOf, typeInfo, hi, Builtin.lenOf, Builtin.firstCells, loadCells, loadCellsFrom, hnc, storeCells]
 ·have hpos : 0 < news.length := by rw [hl]; exact Nat.mul_pos (by omega) hsz
  obtain ⟨a, rfl, -⟩ := hnews 0 _ (List.getElem?_eq_getElem hpos)
  have hnews' : ∀ (j : Nat) u, news[j]? = some u → w.cell? (a.add j) = some u := fun j u hj => by
   obtain ⟨a', e', h⟩ := hnews j u hj
   cases e'; exact h
  have grown : ∀ (old : Nat), old < n + m →
   rowAt (w.drew.alloc (.cells (xs.toArray ++ news.toArray ++ Builtin.zeroCells z.cells (grownCap w (n + m) old e - (n + m))) e)) e i.size
    (.slice (some ⟨w.heap.size, 0, none⟩) (n + m) (grownCap w (n + m) old e)) (n + m) (xs ++ news) ∧
   Below w.heap.size w (w.drew.alloc (.cells (xs.toArray ++ news.toArray ++ Builtin.zeroCells z.cells (grownCap w (n + m) old e - (n + m))) e)) := by
   intro old ho
   have hge := grownCap_ge w (n + m) old e
   have hcm : grownCap w (n + m) old e ≤ maxLen := grownCap_le_maxLen w (n + m) old e h63
   refine ⟨⟨hlen, .inr ⟨w.heap.size, 0, _, _, rfl, heap_alloc_new w.drew _, hge, hcm, ?_, ?_⟩⟩, (Below.refl w.heap.size w).drew.alloc (Nat.le_refl _) _⟩
   ·simp only [Array.size_append, List.size_toArray, size_zeroCells, hzs, hown.1, hl, ← Nat.add_mul, Nat.zero_add]
    refine Nat.le_of_eq ?_
    congr 1
    omega
   ·simp only [Array.toList_append, List.append_assoc, List.drop_zero]
    rw [← List.append_assoc, ← hlen]
    exact List.take_left
  rcases hown.2 with ⟨rfl, rfl⟩ | ⟨g, off, cap, cur, rfl, hg, hnc, hcm, hcs, htake⟩
  ·have hx : xs = [] := List.eq_nil_of_length_eq_zero (by simpa using hown.1)
   subst hx
   have hr := run_append_nil (P := P) w t ty e i z ht hi hz a m c news hl hnews' (by omega) (by omega) R9
   have hgr := grown 0 (by omega)
   simp only [Nat.zero_add, List.nil_append, Array.empty_append] at hgr ⊢
   exact ⟨_, _, hr, hgr.1, rfl, rfl, rfl, .inr (.inl ⟨hgr.2, fun k hk => by simp [Value.ownBlock] at hk; subst hk; exact ⟨rfl, by simp⟩⟩)⟩
  ·by_cases hroom : n + m ≤ cap
   ·have hbnd : (n + m) * i.size ≤ cap * i.size := Nat.mul_le_mul_right _ hroom
    have hadd : (n + m) * i.size = n * i.size + m * i.size := Nat.add_mul _ _ _
    have hf := run_firstCells_some (P := P) w i.size m a m c news hl hnews'
    obtain ⟨w', r1, r2, r3, r4, r5, r6, r7⟩ := kC (P := P) news (off + n * i.size) 0 cur.toList w (by simpa using hg) h1 CB
    refine ⟨.slice (some ⟨g, off, none⟩) (n + m) cap, w', ?_, ⟨hlen, .inr ⟨g, off, cap, _, rfl, r2, hroom, hcm, ?_, ?_⟩⟩, r3, r4, r5, .inl ⟨g, rfl, rfl, r6, r7⟩⟩
    ·have hst : ((⟨g, off, none⟩ : Addr).add (n * i.size)) = ⟨g, off + n * i.size, none⟩ := kJ _ _ _
     simp [Builtin.append_, run_underlying ht, sizeOf, typeInfo, hi, Builtin.lenOf, hroom, hf, hst, r1]
    ·rw [List.size_toArray, kM _ _ _ CB, Array.length_toList]
     exact hcs
    ·have hx := hown.1
     have := tu cur.toList news ((cur.toList.drop off).take ((n + m) * i.size)) off (n * i.size) ((n + m) * i.size) rfl CB (by omega)
     simp only [Nat.add_zero] at this ⊢
     rw [this, List.take_take, Nat.min_eq_left (by omega), htake]
     rw [List.drop_eq_nil_of_le (by rw [List.length_take, List.length_drop, Array.length_toList]; omega)]
     simp
   ·have holds : ∀ (j : Nat) u, xs[j]? = some u → w.cell? ((⟨g, off, none⟩ : Addr).add j) = some u := fun j u hj => by
     rw [kJ]; exact hown.cell rfl hj
    have hr := run_append_grow (P := P) w t ty e i z ht hi hz ⟨g, off, none⟩ n cap xs hown.1 holds a m c news hl hnews' (by omega) (by omega) (growslice_fits (by omega) hbytes)
    have hgr := grown cap (by omega)
    exact ⟨_, _, hr, hgr.1, rfl, rfl, rfl, .inr (.inl ⟨hgr.2, fun k hk => by simp [Value.ownBlock] at hk; subst hk; exact ⟨rfl, by simp⟩⟩)⟩
theorem rowAt.lt {ty : TypeId} {e : Nat} {v : Value} {n : Nat} {vs : List Value} (h : rowAt w ty e v n vs) {k : Nat} (hk : v.ownBlock = some k) : k < w.heap.size := by
 rcases h.2 with ⟨e1, -⟩ | ⟨g, o, c, cur, e1, hg, hnc, hm, hs, ht⟩
 ·rw [e1] at hk; simp [Value.ownBlock] at hk
 ·rw [e1] at hk; simp [Value.ownBlock] at hk; subst hk
  exact (Array.getElem?_eq_some_iff.1 hg).1
theorem MR.OX (h : MR w0 I0 B I m w) {w' : World} {id e n : Nat} {xs ys : List (List C)} {vs news : List Value} {v' : Value} (hid : m id = some (.mrow e n xs)) (hvs : RCs w I vs (flat xs)) (hlx : ∀ x ∈ xs, x.length = n)
 (hI : ∀ b, (B id).ownBlock = some b → ∀ o, ¬ I b o) (hown : rowAt w' e n v' (xs.length + ys.length) (vs ++ news)) (hnews : RCs w I news (flat ys)) (hly : ∀ y ∈ ys, y.length = n) (h1 : w'.os = w.os) (h2 : w'.tape = w.tape) (h3 : w'.output = w.output)
 (h4 : (∃ g, (B id).ownBlock = some g ∧ v'.ownBlock = some g ∧ w'.heap.size = w.heap.size ∧ ∀ k, k ≠ g → w'.heap[k]? = w.heap[k]?) ∨ (Below w.heap.size w w' ∧ ∀ k, v'.ownBlock = some k → k = w.heap.size ∧ k < w'.heap.size) ∨ (v' = B id ∧ w' = w)) :
 MR w0 I0 (upd B id v') I (upd (eH id m) id (some (.mrow e n (xs ++ ys)))) w' ∧ Ext w w' I I := by
 have hsize : w.heap.size ≤ w'.heap.size := by
  rcases h4 with ⟨g, -, -, k, -⟩ | ⟨k, -⟩ | ⟨-, k⟩
  ·omega
  ·exact k.size
  ·rw [k]; exact Nat.le_refl _
 have hkeep : ∀ b, b < w.heap.size → (B id).ownBlock ≠ some b → w'.heap[b]? = w.heap[b]? := fun b hb hne => by
  rcases h4 with ⟨g, k1, -, -, k⟩ | ⟨k, -⟩ | ⟨-, k⟩
  ·exact k b (fun e => hne (by rw [k1, e]))
  ·exact k.block b hb
  ·rw [k]
 have hE : Ext w w' I I := ⟨fun _ _ k => k, fun b o ho => World.cell?_of_block (w := w) (hkeep b (h.there b o ho) (fun e1 => hI b e1 o ho))⟩
 refine ⟨h.BM hid h1 h2 h3 hsize (fun b hb hn => hkeep b hb (fun e => hn e)) (fun k hk => ?_) hE (fun b p hp => .inl hp) ⟨vs ++ news, ?_, ?_, fun x hx => ?_, fun b hb o ho => ?_⟩ (fun i hi => by simp [O.ids] at hi), hE⟩
 ·have hk : v'.ownBlock = some k := by simpa [foot, upd_same] using hk
  refine ⟨hown.lt hk, ?_⟩
  rcases h4 with ⟨g, k1, k2, -⟩ | ⟨-, k⟩ | ⟨k, -⟩
  ·exact .inl (by show (B id).ownBlock = _; rw [k1, ← k2, hk])
  ·exact .inr (by have := (k _ hk).1; omega)
  ·exact .inl (by show (B id).ownBlock = _; rw [← k, hk])
 ·rw [upd_same, List.length_append]; exact hown
 ·rw [flat, List.flatten_append]
  exact (hvs.mono hE).append (hnews.mono hE)
 ·rcases List.mem_append.1 hx with q | q
  ·exact hlx x q
  ·exact hly x q
 ·rw [upd_same] at hb
  rcases h4 with ⟨g, k1, k2, -⟩ | ⟨-, k⟩ | ⟨k, -⟩
  ·exact hI b (by rw [k1, ← k2, hb]) o ho
  ·have := (k _ hb).1
   have := h.there b o ho
   omega
  ·exact hI b (by rw [← k, hb]) o ho
end
def jd (fz : Bool) (e n : Nat) (xs : List (List C)) : O := if fz = true then .arr e n xs else .mrow e n xs
structure HAppend (T : Tab) (ops : Array Oper) (o : Oper) (st : St) (c : Call) (x y : Operand) (t d id e n b : Nat) (fz : Bool) (zs : List Value) (xs ys : List (List C)) : Prop where
 want : fE ops o st.s = some true
 op : o.op = .call c
 callee : c.callee = .builtin .append
 args : c.args = #[x, y]
 tys : c.argTypes = #[t, t]
 dst : o.dst = some d
 at_ : ev st.s x = .own id
 arr : st.m id = some (jd fz e n xs)
 val : asC st.m (ev st.s y) = some (.sl ys)
 elem : T.elem t = some (e, n)
 bytes : T.bytes e = some b
 zero : T.zero e = some zs
 zlen : zs.length = n
 lens : ∀ z ∈ ys, z.length = n
 bound : (xs.length + ys.length) * b ≤ 140737488355328
 small : xs.length + ys.length ≤ maxLen
section
variable {P : Go.Program} {T : Tab} (hT : T.Ok P) {kp : Nat → Prop} {ops : Array Oper}
theorem Ej {st : St} {id : Nat} {o0 o' : O} (hw : WF st) (_hid : st.m id = some o0) (hl : ∀ i ∈ o'.ids, (st.m i).isSome = true) (d : Nat) (r : A) (hr : ∀ i ∈ r.ids, (st.m i).isSome = true) : WF ⟨upd (gD id st.s) d r, upd (eH id st.m) id (some o')⟩ := by
 have hlv : ∀ i, (st.m i).isSome = true → (upd (eH id st.m) id (some o') i).isSome = true := fun i hi => by
  unfold upd; split
  ·rfl
  ·simpa [aL] using hi
 refine ⟨fun t i hi => hlv i ?_, fun k z hz i hi => hlv i ?_⟩
 ·dsimp only at hi
  unfold upd at hi
  split at hi
  ·exact hr i hi
  ·exact hw.ids t i ((A.dW.1 i hi).1)
 ·dsimp only at hz
  unfold upd at hz
  split at hz
  ·cases hz; exact hl i hi
  ·have hz : (st.m k).map (O.kill id) = some z := hz
   cases hk : st.m k with
   | none => rw [hk] at hz; cases hz
   | some o => rw [hk] at hz; cases hz; exact hw.live k _ hk i (O.dW i hi)
include hT
theorem AU {o : Oper} {st : St} {c : Call} {x y : Operand} {t d id e n b : Nat} {fz : Bool} {zs : List Value} {xs ys : List (List C)} (hkp : ¬ kp id) (h : HAppend T ops o st c x y t d id e n b fz zs xs ys) :
 Eff P T kp ops o st ⟨upd (gD id st.s) d (.own id), upd (eH id st.m) id (some (jd fz e n (xs ++ ys)))⟩ := by
 refine ⟨by rw [h.op]; simp [kind, h.callee], fun hw => ?_, fun R n0 ds a w K Q hR hr hd hK => ?_⟩
 ·refine Ej hw h.arr (fun i hi => ?_) d _ (fun i hi => ?_)
  ·cases fz <;> simp [jd, O.ids] at hi
  ·simp [A.ids] at hi; subst hi; simp [h.arr]
 ·obtain ⟨B, I, hm, hx0, hkp0, hs⟩ := hr.ex
  rw [fP hs h.want, if_pos rfl]
  obtain ⟨hu, hn0, i, hi, hin⟩ := hT.elem _ _ _ h.elem
  obtain ⟨i2, hi2, hib⟩ := hT.bytes _ _ h.bytes
  obtain ⟨i3, z, hi3, hz, hzc, -⟩ := hT.zero _ _ h.zero
  have e1 : i2 = i := Option.some.inj (hi2.symm.trans hi)
  have e2 : i3 = i := Option.some.inj (hi3.symm.trans hi)
  subst e1 e2
  have hx := iK hs x
  rw [h.at_] at hx
  obtain ⟨hx, -⟩ := hx
  obtain ⟨ad, my, cap, news, hyv, hn, hnl, hcellsN, hrcs, hone⟩ := Ik hn0 (lV hm h.val (iK hs y)) h.lens
  have fin : ∃ v' w' I', (Builtin.append_ #[t, t] o.type #[B id, .slice ad my cap]).run P w = .ok v' w' ∧ (∃ aa nn cc, v' = .slice aa nn cc) ∧ MR R.w0 R.I0 (upd B id v') I' (upd (eH id st.m) id (some (jd fz e n (xs ++ ys)))) w' ∧ Ext w w' I I' := by
   cases fz with
   | true =>
     obtain ⟨vs, hv, hvs, hlx, hiff⟩ := hm.objs id _ h.arr
     obtain ⟨v', w', r1, r2, r3, r4, r5, r6⟩ := zF (P := P) w t o.type e i3 z n b hu hi3 hz hin hib (by rw [hzc]; simpa using h.zlen) hn0 (B id) xs.length vs hv ad my cap news hnl hcellsN hone (by rw [← hn]; exact h.small) (by rw [← hn]; exact h.bound)
     rw [← hn] at r2
     obtain ⟨I', hm', hE⟩ := hm.append h.arr hv hvs hlx hiff r2 hrcs h.lens r3 r4 r5 r6
     refine ⟨v', w', I', r1, ?_, hm', hE⟩
     rcases r2.2 with ⟨q, -⟩ | ⟨g, cap, cur, q, -⟩
     ·exact ⟨_, _, _, q⟩
     ·exact ⟨_, _, _, q⟩
   | false =>
     obtain ⟨vs, hv, hvs, hlx, hI⟩ := hm.objs id _ h.arr
     obtain ⟨v', w', r1, r2, r3, r4, r5, r6⟩ := Bo (P := P) w t o.type e i3 z n b hu hi3 hz hin hib (by rw [hzc]; simpa using h.zlen) hn0 (B id) xs.length vs hv ad my cap news hnl hcellsN hone (by rw [← hn]; exact h.small) (by rw [← hn]; exact h.bound)
     rw [← hn] at r2
     obtain ⟨hm', hE⟩ := hm.OX h.arr hvs hlx hI r2 hrcs h.lens r3 r4 r5 r6
     obtain ⟨ad', cap', q, -⟩ := r2.shape
     exact ⟨v', w', I, r1, ⟨_, _, _, q⟩, hm', hE⟩
  obtain ⟨v', w', I', r1, hsh, hm', hE⟩ := fin
  have hrun : (execOp a.eval o).run P w = .ok (.value v') w' := by
   obtain ⟨cal, args, tys⟩ := c
   have h7 := h.callee
   have h8 := h.args
   have h9 := h.tys
   simp only at h7 h8 h9
   subst h7 h8 h9
   simp only [execOp, h.op, resolve, invoke, builtin, Sem.run_bind, Sem.run_pure, Result.andThen_ok, List.map_toArray, List.map_cons, List.map_nil, hx, hyv, r1]
  unfold Oper.wp Oper.upon
  rw [hrun]
  have hdlt : ∀ q, o.dst = some q → q < a.tmps.size := fun q hq => by rw [hr.size]; exact hd q hq
  have hkill : ∀ t', RV (upd B id v') w' I' ((st.s t').kill id) (a.tmps.getD t' undef) := fun t' => by
   rcases (A.dW (id := id) (a := st.s t')).2 with q | ⟨q, hnn⟩
   ·rw [q]; trivial
   ·rw [q]
    exact (hs t').mono hE fun j hj => upd_ne _ _ (fun e => hnn (e ▸ hj))
  have hput := uz (dst := o.dst) (r := A.own id) (v := v') hkill ⟨(upd_same B id v').symm, hsh⟩ hdlt
  rw [h.dst] at hput
  have hwf : WF ⟨upd (gD id st.s) d (.own id), upd (eH id st.m) id (some (jd fz e n (xs ++ ys)))⟩ := Ej hr.wf h.arr (fun i hi => by cases fz <;> simp [jd, O.ids] at hi) d _ (fun i hi => by simp [A.ids] at hi; subst hi; simp [h.arr])
  refine hK _ _ ⟨⟨_, I', hm', hx0.trans hE, fun j hj => ?_, by rw [h.dst]; exact hput⟩, hwf.ids, by rw [(fJ _ _ _).1]; exact hr.size, hr.nn, by
   rw [(fJ _ _ _).2]
   have hdd : DID ≠ d := fun q => absurd (hd d h.dst) (Nat.not_lt.2 (q ▸ hr.nn))
   show a.defers = dfs (upd (gD id st.s) d (.own id) DID) ++ ds
   rw [upd_ne _ _ hdd, aM, nD]; exact hr.defs, fun j hj => ?_⟩
  ·rw [upd_ne _ _ (fun e => by subst e; rw [hR] at hj; exact hkp hj)]; exact hkp0 j hj
  ·have := hr.kept j hj
   show (upd (eH id st.m) id _ j).isSome = true
   unfold upd; split
   ·rfl
   ·simpa [aL] using this
omit hT
def WFm (m : Mem) : Prop := ∀ id o, m id = some o → ∀ j ∈ o.ids, (m j).isSome = true
def gU (P : Go.Program) (f : FuncId) (args : List A) (M : Mem) (D : List Nat) (r : A) (M' : Mem) : Prop :=
 (∀ args w, (callFunc f args).run P w = .ok (.enter f args) w) ∧ (∀ j ∈ r.ids, (M' j).isSome = true) ∧ (∀ j, (M j).isSome = true → (M' j).isSome = true) ∧ (WFm M → WFm M') ∧
 ∀ (w0 : World) (I0 : Nat → Nat → Prop) (B : Nat → Value) (I : Nat → Nat → Prop) (w : World) (vals : List Value), MR w0 I0 B I M w → RVl B w I args vals →
   Calls P f vals.toArray w fun e w' => ∃ v B' I', e = .returned v ∧ MR w0 I0 B' I' M' w' ∧ Ext w w' I I' ∧ (∀ j, (M j).isSome = true → j ∉ D → B' j = B j) ∧ RV B' w' I' r v
def bQ : List Nat → (Nat → A) → Nat → A
 | [], s => s
 | d :: D, s => bQ D (gD d s)
theorem jU : ∀ (D : List Nat) (s : Nat → A) (t : Nat), (∀ j ∈ (bQ D s t).ids, j ∈ (s t).ids ∧ j ∉ D) ∧ (bQ D s t = .top ∨ (bQ D s t = s t ∧ ∀ j ∈ D, j ∉ (s t).ids))
 | [], s, t => ⟨fun j hj => ⟨hj, by simp⟩, .inr ⟨rfl, fun j hj => by simp at hj⟩⟩
 | d :: D, s, t => by
   obtain ⟨h1, h2⟩ := jU D (gD d s) t
   have h3 := A.dW (id := d) (a := s t)
   refine ⟨fun j hj => ?_, ?_⟩
   ·obtain ⟨k1, k2⟩ := h1 j hj
    obtain ⟨k3, k4⟩ := h3.1 j k1
    exact ⟨k3, by simp [k4, k2]⟩
   ·rcases h2 with h2 | ⟨h2, h4⟩
    ·exact .inl h2
    ·rcases h3.2 with h5 | ⟨h5, h6⟩
     ·exact .inl (h2.trans h5)
     ·refine .inr ⟨h2.trans h5, fun j hj => ?_⟩
      rcases List.mem_cons.1 hj with rfl | hj
      ·exact h6
      ·have := h4 j hj
       rw [aM, h5] at this
       exact this
theorem rP : ∀ (D : List Nat) (s : Nat → A), dfs (bQ D s DID) = dfs (s DID)
 | [], _ => rfl
 | d :: D, s => (rP D (gD d s)).trans (nD d (s DID))
theorem FP {o : Oper} {st : St} {c : Call} {x : Operand} {f : FuncId} {ids : List Nat} {args : List A} {D : List Nat} {r : A} {M' : Mem} (hkp : ∀ j ∈ D, ¬ kp j) (hbar : kind T o.op = .barrier) (h : fE ops o st.s = some true) (hop : o.op = .call c) (hc : c.callee = .value x) (hx : ev st.s x = .fn f ids) (hb : ∀ j ∈ ids, ∃ ty cells, st.m j = some (.box ty cells))
 (ha : Cvs st.m (c.args.toList.map (ev st.s) ++ ids.map (A.ptr · 0)) args) (hk : gU P f args st.m D r M') : Eff P T kp ops o st ⟨dw (bQ D st.s) o.dst r, M'⟩ := by
 obtain ⟨k1, k2, k3, k4, k5⟩ := hk
 refine ⟨hbar, fun hw => ⟨vX (fun t j hj => k3 j (hw.ids t j ((jU D st.s t).1 j hj).1)) k2, k4 hw.live⟩, fun R n0 ds a w K Q hR hr hd hK => ?_⟩
 obtain ⟨B, I, hm, hx0, hkp0, hs⟩ := hr.ex
 rw [fP hs h, if_pos rfl]
 have hev := iK hs
 have hfv : a.eval x = .func (.func f) #[] (ids.map B).toArray := by have := hev x; rw [hx] at this; exact this
 have hrv := rV hm ha ((nS hev c.args.toList).append (ny hm hb))
 have hcl := k5 R.w0 R.I0 B I w _ hm hrv
 unfold Oper.wp Oper.upon
 have hrun : (execOp a.eval o).run P w = .ok (.enter f (c.args.toList.map a.eval ++ ids.map B).toArray) w := by
  simp only [execOp, hop, resolve, hc, hfv, Deferred.ofValue, Sem.run_bind, Sem.run_pure, Result.andThen_ok, invoke]
  rw [show (#[] ++ Array.map a.eval c.args ++ (List.map B ids).toArray) = (List.map a.eval c.args.toList ++ List.map B ids).toArray by rw [← List.map_toArray]; simp]
  exact k1 _ _
 rw [hrun]
 refine hcl.mono ?_
 rintro e w' ⟨v, B', I', rfl, h1, h2, h3, h4⟩
 have hd' : ∀ d, o.dst = some d → d < a.tmps.size := fun d e => by rw [hr.size]; exact hd d e
 have hs' : ∀ t, RV B' w' I' (bQ D st.s t) (a.tmps.getD t undef) := fun t => by
  rcases (jU D st.s t).2 with q | ⟨q, q2⟩
  ·rw [q]; trivial
  ·rw [q]
   exact (hs t).mono h2 fun j hj => h3 j (hr.ids t j hj) (fun hd => q2 j hd hj)
 exact hK _ _ ⟨⟨B', I', h1, hx0.trans h2, fun j hj => (h3 j (hr.kept j hj) (fun hd => by rw [hR] at hj; exact hkp j hd hj)).trans (hkp0 j hj), uz hs' h4 hd'⟩,
  vX (fun t j hj => k3 j (hr.ids t j ((jU D st.s t).1 j hj).1)) k2, by rw [(fJ _ _ _).1]; exact hr.size, hr.nn, by rw [(fJ _ _ _).2]; show a.defers = dfs (dw (bQ D st.s) o.dst r DID) ++ ds; rw [E5 hr.nn hd, rP]; exact hr.defs, fun j hj => k3 j (hr.kept j hj)⟩
end
inductive RunL (P : Go.Program) (T : Tab) (kp : Nat → Prop) (base : Nat) (ops : Array Oper) : List Oper → St → St → Prop where
 | nil (st : St) : RunL P T kp base ops [] st st
 | cons {o : Oper} {l : List Oper} {st st1 st2 : St} (h : HS P T kp base ops o st st1) (t : RunL P T kp base ops l st1 st2) : RunL P T kp base ops (o :: l) st st2
section
variable {P : Go.Program} {T : Tab} {kp : Nat → Prop} {base : Nat} {ops : Array Oper}
theorem RunL.chain : ∀ {l : List Oper} {k : Nat} {st st' : St}, (∀ j, l[j]? = ops[k + j]?) → RunL P T kp base ops l st st' → Chain P T kp base ops (List.range' k l.length) st st'
 | [], _, _, _, _, h => by cases h; exact .nil _
 | o :: l, k, _, _, hl, h => by
   cases h with
   | cons h t =>
     refine .cons (by simpa using (hl 0).symm) h (t.chain fun j => ?_)
     have := hl (j + 1)
     rw [Nat.add_right_comm, Nat.add_assoc]
     simpa [Nat.add_comm, Nat.add_left_comm] using this
theorem uT (n : Nat) : List.range n = List.range' 0 n := by rw [List.range_eq_range']
variable (hT : T.Ok P) {R : Ref} {w : World} {n : Nat} {ds : List Deferred}
include hT
theorem CW (hd : ∀ o ∈ ops, ∀ d, o.dst = some d → d < n) {Q : Exit → Act → World → Prop} {st' : St} (hQ : ∀ a w, SR R n ds st' a w → Q .normal a w) :
 ∀ (l : List Nat) (st : St) (a : Act) (w : World), Chain P T R.keep base ops l st st' → SR R n ds st a w → wpOps P ops Q l a w
 | [], st, a, w, h, hr => by cases h; exact hQ a w hr
 | i :: l, st, a, w, h, hr => by
   cases h with
   | @cons _ o _ _ st1 _ hi h1 t =>
     rw [wpOps_cons]
     unfold wpOp
     rw [hi]
     have hgo := h1.snd hT hr (hd o (Array.mem_of_getElem? hi)) (K := wpOps P ops Q l) (Q := Q) (fun a' w' hr' => CW hd hQ l st1 a' w' t hr')
     dsimp only
     split
     ·rename_i hw; rw [if_pos hw] at hgo; exact .inl hgo
     ·rename_i hw; rw [if_neg hw] at hgo; exact hgo
end
def jM (n : Nat) (ops : Array Oper) : Bool := ops.toList.all fun o => match o.dst with | some d => decide (d < n) | none => true
theorem gB {n : Nat} {ops : Array Oper} (h : jM n ops = true) : ∀ o ∈ ops, ∀ d, o.dst = some d → d < n := fun o ho d hd => by
 have := List.all_eq_true.1 h o (by simpa using ho)
 rw [hd] at this
 simpa using this
def W (P : Go.Program) (R : Ref) (n : Nat) (ds : List Deferred) (st : St) (c : Code) (K : Exit → St → Prop) : Prop :=
 ∀ a w, SR R n ds st a w → c.wp P (fun e a' w' => ∃ st', K e st' ∧ SR R n ds st' a' w') a w
@[reducible] def zM (k : St → Prop) (K : Exit → St → Prop) : Exit → St → Prop
  | .normal, st => k st
  | e, st => K e st
@[reducible] def DR (id : Nat) (K : Exit → St → Prop) : Exit → St → Prop
  | .exit j, st => if j = id then K .normal st else K (.exit j) st
  | e, st => K e st
section
variable {P : Go.Program} {T : Tab} {R : Ref} {n : Nat} {ds : List Deferred} {st : St} {K : Exit → St → Prop}
theorem W.mono {c : Code} {K' : Exit → St → Prop} (h : W P R n ds st c K) (hk : ∀ e st', K e st' → K' e st') : W P R n ds st c K' :=
 fun a w hr => wp_mono (h a w hr) fun e _ _ ⟨st', h1, h2⟩ => ⟨st', hk e st' h1, h2⟩
theorem W.region (hT : T.Ok P) (base : Nat) {id : Nat} {ops : Array Oper} {st' : St} (hd : jM n ops = true) (h : RunL P T R.keep base ops ops.toList st st') (hk : K .normal st') : W P R n ds st (.region id ops false) K := fun a w hr =>
 wp_region (CW hT (gB hd) (fun a w hr' => ⟨st', hk, hr'⟩) _ st a w P6 hr)
theorem W.DC (hT : T.Ok P) (base : Nat) {id : Nat} {ops : Array Oper} {st' : St} (hm : P.follows .mixedOrders = true) (hok : qO T ops = true) (hd : jM n ops = true) (h : RunL P T R.keep base ops ops.toList st st') (hk : K .normal st') : W P R n ds st (.region id ops true) K := fun a w hr => by
 refine wp_region_any hm (Ij hT hok (gB hd) (fun a w hr' => ⟨st', hk, hr'⟩) _ _ (List.range ops.size) st a _ (by simp) (by simp) (List.pairwise_lt_range) (fun i => ?_) (fun k o ho hl => ?_) ?_ P6)
 ·rw [List.mem_range]
  refine ⟨fun hi => ⟨hi, ?_⟩, fun hi => hi.1⟩
  simp [hi]
 ·exfalso
  have hk := (Array.getElem?_eq_some_iff.1 ho).1
  simp [hk] at hl
 ·obtain ⟨⟨B, I, hmr, hx0, hkp, hs⟩, h2, h3, hnn, h4, h5⟩ := hr
  have hE : Ext w w.drew I I := ⟨fun _ _ k => k, fun _ _ _ => rfl⟩
  exact ⟨⟨B, I, hmr.call (Below.refl _ _).drew, hx0.trans hE, hkp, fun t => (hs t).mono hE fun _ _ => rfl⟩, h2, h3, hnn, h4, h5⟩
theorem W.seq {x y : Code} (h : W P R n ds st x (zM (fun st' => W P R n ds st' y K) K)) : W P R n ds st (.seq x y) K := fun a w hr =>
 wp_seq (wp_mono (h a w hr) fun e a' w' ⟨st', h1, h2⟩ => by
  cases e with
  | normal => exact h1 a' w' h2
  | _ => exact ⟨st', h1, h2⟩)
theorem W.cond {c : Operand} {x y : Code} {b : Bool} (hc : ev st.s c = .c (.bool b)) (ht : b = true → W P R n ds st x K) (hf : b = false → W P R n ds st y K) : W P R n ds st (.cond c x y) K := fun a w hr => by
 obtain ⟨B, I, hm, -, -, hs⟩ := hr.ex
 have := iK hs c
 rw [hc] at this
 exact wp_cond_split (RC.toBool this) (fun e => ht e a w hr) (fun e => hf e a w hr)
theorem W.block {id : Nat} {c : Code} (h : W P R n ds st c (DR id K)) : W P R n ds st (.block id c) K := fun a w hr =>
 wp_block (wp_mono (h a w hr) fun e a' w' ⟨st', h1, h2⟩ => by
  cases e with
  | exit j =>
    simp only [DR, Exit.inBlock] at h1 ⊢
    split
    ·rename_i e; rw [if_pos e] at h1; exact ⟨st', h1, h2⟩
    ·rename_i e; rw [if_neg e] at h1; exact ⟨st', h1, h2⟩
  | _ => exact ⟨st', h1, h2⟩)
theorem W.exit {id : Nat} (h : K (.exit id) st) : W P R n ds st (.exit id) K := fun _ _ hr => wp_exit ⟨st, h, hr⟩
theorem W.ret (h : K .ret st) : W P R n ds st .ret K := fun _ _ hr => wp_ret ⟨st, h, hr⟩
theorem W.skip (h : K .normal st) : W P R n ds st .skip K := fun _ _ hr => wp_skip ⟨st, h, hr⟩
def A1.ren (τ : Nat → Nat) : A1 → A1
 | .ptr id off => .ptr (τ id) off
 | .own id => .own (τ id)
 | .map id => .map (τ id)
 | a => a
def A.ren (τ : Nat → Nat) : A → A
 | .ptr id off => .ptr (τ id) off
 | .own id => .own (τ id)
 | .fn f ids => .fn f (ids.map τ)
 | .pinP v id off => .pinP v (τ id) off
 | .eptr id e i f => .eptr (τ id) e i f
 | .win id e lo hi => .win (τ id) e lo hi
 | .map id => .map (τ id)
 | .tupA xs => .tupA (xs.map (A1.ren τ))
 | .aggA xs => .aggA (xs.map (A1.ren τ))
 | a => a
def O.ren (τ : Nat → Nat) : O → O
 | .box ty cells => .box ty (cells.map (A.ren τ))
 | .rows ty xs => .rows ty (xs.map (A1.ren τ))
 | .map ents => .map (ents.map fun p => (p.1.ren τ, p.2.ren τ))
 | o => o
theorem R1.ren {B : Nat → Value} {w : World} {I : Nat → Nat → Prop} {τ : Nat → Nat} {a : A1} {v : Value} (h : R1 B w I (a.ren τ) v) : R1 (fun j => B (τ j)) w I a v := by
 cases a <;> exact h
theorem R1s.ren {B : Nat → Value} {w : World} {I : Nat → Nat → Prop} {τ : Nat → Nat} : ∀ {al : List A1} {vs : List Value}, R1s B w I (al.map (A1.ren τ)) vs → R1s (fun j => B (τ j)) w I al vs
 | [], [], _ => trivial
 | _ :: _, _ :: _, h => ⟨h.1.ren, R1s.ren h.2⟩
theorem RV.ren {B : Nat → Value} {w : World} {I : Nat → Nat → Prop} {τ : Nat → Nat} {a : A} {v : Value} (h : RV B w I (a.ren τ) v) : RV (fun j => B (τ j)) w I a v := by
 cases a with
 | fn f ids => show v = _; rw [show v = _ from h]; simp [Function.comp_def]
 | tupA xs => obtain ⟨vs, h1, h2⟩ := h; exact ⟨vs, h1, h2.ren⟩
 | aggA xs => obtain ⟨vs, h1, h2, h3⟩ := h; exact ⟨vs, h1, h2.ren, h3⟩
 | _ => exact h
theorem RVs.ren {B : Nat → Value} {w : World} {I : Nat → Nat → Prop} {τ : Nat → Nat} : ∀ {al : List A} {vs : List Value}, RVs B w I (al.map (A.ren τ)) vs → RVs (fun j => B (τ j)) w I al vs
 | [], [], _ => trivial
 | _ :: _, _ :: _, h => ⟨⟨h.1.1.ren, h.1.2⟩, RVs.ren h.2⟩
theorem REs.ren {B : Nat → Value} {w : World} {I : Nat → Nat → Prop} {τ : Nat → Nat} : ∀ {l : List (A1 × A1)} {es : List MapEntry}, REs B w I (l.map fun p => (p.1.ren τ, p.2.ren τ)) es → REs (fun j => B (τ j)) w I l es
 | [], [], _ => trivial
 | _ :: _, _ :: _, h => ⟨⟨h.1.1.ren, h.1.2.ren⟩, REs.ren h.2⟩
theorem RO.ren {B : Nat → Value} {w : World} {I : Nat → Nat → Prop} {τ : Nat → Nat} {j : Nat} {o : O} (h : RO B w I (τ j) (o.ren τ)) : RO (fun j => B (τ j)) w I j o := by
 cases o with
 | box ty cells => obtain ⟨b, vs, h1, h2, h3, h4⟩ := h; exact ⟨b, vs, h1, h2, h3.ren, h4⟩
 | rows ty xs => obtain ⟨vs, h1, h2, h3, h4⟩ := h; rw [List.length_map] at h1; exact ⟨vs, h1, h2.ren, h3, h4⟩
 | map ents => obtain ⟨r, es, clock, h1, h2, h3, h4⟩ := h; exact ⟨r, es, clock, h1, h2, h3.ren, h4⟩
 | _ => exact h
theorem zC {B : Nat → Value} {τ : Nat → Nat} {j k : Nat} {o : O} : foot (fun j => B (τ j)) j o k ↔ foot B (τ j) (o.ren τ) k := by
 cases o <;> exact Iff.rfl
structure LeT (τ : Nat → Nat) (kp : Nat → Prop) (st st' : St) : Prop where
 s : ∀ t, st'.s t = .top ∨ (st'.s t).ren τ = st.s t
 m : ∀ j o, st'.m j = some o → st.m (τ j) = some (o.ren τ)
 inj : ∀ i j, (st'.m i).isSome = true → (st'.m j).isSome = true → τ i = τ j → i = j
 wf : WF st'
 kept : ∀ j, kp j → τ j = j ∧ (st'.m j).isSome = true
 dd : dfs (st'.s DID) = dfs (st.s DID)
theorem SR.leT {τ : Nat → Nat} {st' : St} {a : Act} {w : World} (h : SR R n ds st a w) (hl : LeT τ R.keep st st') : SR R n ds st' a w := by
 obtain ⟨⟨B, I, hm, hx0, hkp, hs⟩, -, h3, hnn, h4, -⟩ := h
 refine ⟨⟨fun j => B (τ j), I, ⟨hm.below, hm.glob, hm.base, hm.old, hm.there, fun id o ho => RO.ren (hm.objs _ _ (hl.m id o ho)), fun id o ho k hk => hm.low _ _ (hl.m id o ho) k (zC.1 hk), fun id o id' o' ho ho' hne k hk hk' => ?_, hl.wf.live⟩, hx0, fun j hj => ?_, fun t => ?_⟩, hl.wf.ids, h3, hnn, by rw [hl.dd]; exact h4, fun j hj => (hl.kept j hj).2⟩
 ·exact hm.apart _ _ _ _ (hl.m id o ho) (hl.m id' o' ho') (fun e => hne (hl.inj id id' (by simp [ho]) (by simp [ho']) e)) k (zC.1 hk) (zC.1 hk')
 ·show B (τ j) = _
  rw [(hl.kept j hj).1]; exact hkp j hj
 ·rcases hl.s t with e | e
  ·rw [e]; trivial
  ·refine RV.ren ?_
   rw [e]; exact hs t
structure Le (kp : Nat → Prop) (st st' : St) : Prop where
 s : ∀ t, st'.s t = .top ∨ st'.s t = st.s t
 m : ∀ j, st'.m j = none ∨ st'.m j = st.m j
 wf : WF st'
 kept : ∀ j, kp j → (st'.m j).isSome = true
 dd : dfs (st'.s DID) = dfs (st.s DID)
theorem SR.le {st' : St} {a : Act} {w : World} (h : SR R n ds st a w) (hl : Le R.keep st st') : SR R n ds st' a w := by
 obtain ⟨⟨B, I, hm, hx0, hkp, hs⟩, -, h3, hnn, h4, -⟩ := h
 have hmm : ∀ {j : Nat} {o : O}, st'.m j = some o → st.m j = some o := fun {j o} hj => by
  rcases hl.m j with e | e
  ·rw [e] at hj; cases hj
  ·rw [← e]; exact hj
 refine ⟨⟨B, I, ⟨hm.below, hm.glob, hm.base, hm.old, hm.there, fun id o ho => hm.objs id o (hmm ho), fun id o ho => hm.low id o (hmm ho), fun id o id' o' ho ho' => hm.apart id o id' o' (hmm ho) (hmm ho'), hl.wf.live⟩, hx0, hkp, fun t => ?_⟩, hl.wf.ids, h3, hnn, by rw [hl.dd]; exact h4, hl.kept⟩
 rcases hl.s t with e | e
 ·rw [e]; trivial
 ·rw [e]; exact hs t
theorem W.weaken {st' : St} {c : Code} (hl : Le R.keep st st') (h : W P R n ds st' c K) : W P R n ds st c K := fun a w hr => h a w (hr.le hl)
theorem W.loop {ι : Type} {c : Code} (mk : ι → St) (Inv : ι → Prop) (μ : ι → Nat) (i0 : ι) (hl : Le R.keep st (mk i0)) (h0 : Inv i0)
 (hround : ∀ i, Inv i → W P R n ds (mk i) c (zM (fun st' => ∃ i', Inv i' ∧ μ i' < μ i ∧ Le R.keep st' (mk i')) K)) : W P R n ds st (.loop c) K := by
 refine W.weaken hl ?_
 intro a w hr
 refine wp_loop_ghost (fun k a w => ∃ i, Inv i ∧ μ i = k ∧ SR R n ds (mk i) a w) (μ i0) ⟨i0, h0, rfl, hr⟩ ?_
 rintro k a w ⟨i, hi, rfl, hr⟩
 refine wp_mono (hround i hi a w hr) ?_
 rintro e a' w' ⟨st', h1, h2⟩
 cases e with
 | normal =>
   obtain ⟨i', hi', hlt, hle⟩ := h1
   exact ⟨μ i', hlt, i', hi', rfl, h2.le hle⟩
 | _ => exact ⟨st', h1, h2⟩
end
def aD (T : Tab) (st : St) : ResultVar → Option A
 | .tmp t => some (st.s t)
 | .cell a ty => match st.s a with
   | .ptr j off => (match st.m j with | some (.box _ cells) => ld T st.m ty (cells.drop off) | _ => none)
   | _ => none
def fin (m : Mem) : A → Option A
 | .agg xs => some (.agg xs)
 | a => match asC m a with | some x => some (.c x) | none => none
def toT (m : Mem) : A → Option (Bool × List C)
 | .agg xs => some (true, xs)
 | a => match asC m a with | some x => some (false, [x]) | none => none
def bE (T : Tab) (st : St) : List ResultVar → Option A
 | [x] => match aD T st x with | some a => fin st.m a | none => none
 | [] => some (.tup [])
 | [x, y] => match aD T st x, aD T st y with
   | some a, some b => (match toT st.m a, toT st.m b with | some p, some q => some (.tup [p, q]) | _, _ => none)
   | _, _ => none
 | [x, y, z] => match aD T st x, aD T st y, aD T st z with
   | some a, some b, some c => (match toT st.m a, toT st.m b, toT st.m c with | some p, some q, some r => some (.tup [p, q, r]) | _, _, _ => none)
   | _, _, _ => none
 | _ => none
def xq (tmps : Array Value) : ResultVar → Sem Value
 | .tmp t => pure (tmps.getD t undef)
 | .cell a t => do loadVar t (← asAddr (tmps.getD a undef))
section
variable {P : Go.Program} {T : Tab} (hT : T.Ok P) {w0 w : World} {I0 I : Nat → Nat → Prop} {B : Nat → Value} {st : St} {a : Act}
include hT
theorem gy (hm : MR w0 I0 B I st.m w) (hs : ∀ t, RV B w I (st.s t) (a.tmps.getD t undef)) {x : ResultVar} {r : A} (h : aD T st x = some r) : ∃ v, (xq a.tmps x).run P w = .ok v w ∧ RV B w I r v := by
 cases x with
 | tmp t => cases h; exact ⟨_, rfl, hs t⟩
 | cell p ty =>
   simp only [aD] at h
   have hp := hs p
   split at h
   ·rename_i j off e
    rw [e] at hp
    obtain ⟨b, hB, e2⟩ := hp
    split at h
    ·rename_i ty' cells hj
     obtain ⟨b', vs, hB', hh, hv, -⟩ := hm.objs j _ hj
     rw [hB] at hB'
     cases hB'
     have hcell : ∀ (k : Nat) v, (vs.drop off)[k]? = some v → w.cell? ⟨b, off + k, none⟩ = some v := fun k v hk => by
      simp only [World.cell?, hh]
      simpa using hk
     have hvd := hv.drop off
     unfold ld at h
     split at h
     ·rename_i n hty
      split at h
      ·rename_i hn
       split at h
       ·rename_i xs hxs
        cases h
        have hlen := hvd.length
        refine ⟨.agg ((vs.drop off).take n).toArray, ?_, _, rfl, lF hm hxs (hvd.take n)⟩
        simp only [xq, e2, asAddr, Sem.run_bind, Sem.run_pure, Result.andThen_ok]
        exact jC hT hty (b := b) (off := off) (cs := (vs.drop off).take n) x9 (fun k v hk => by
         rw [List.getElem?_take] at hk
         split at hk
         ·exact hcell k v hk
         ·cases hk)
       ·split at h
        ·rename_i ys hys
         cases h
         have hlen := hvd.length
         obtain ⟨k1, k2⟩ := oC hys (hvd.take n)
         refine ⟨.agg ((vs.drop off).take n).toArray, ?_, _, rfl, k1, k2⟩
         simp only [xq, e2, asAddr, Sem.run_bind, Sem.run_pure, Result.andThen_ok]
         exact jC hT hty (b := b) (off := off) (cs := (vs.drop off).take n) x9 (fun k v hk => by
          rw [List.getElem?_take] at hk
          split at hk
          ·exact hcell k v hk
          ·cases hk)
        ·cases h
      ·cases h
     ·rename_i n hty
      cases hcd : cells.drop off with
      | nil => rw [hcd] at h; cases h
      | cons y ys =>
        rw [hcd] at h hvd
        cases h
        cases hvd2 : vs.drop off with
        | nil => rw [hvd2] at hvd; exact hvd.elim
        | cons u us =>
          rw [hvd2] at hvd
          have hc0 : w.cell? ⟨b, off, none⟩ = some u := by have := hcell 0 u (by rw [hvd2]; rfl); simpa using this
          refine ⟨u, ?_, hvd.1.1⟩
          simp only [xq, e2, asAddr, Sem.run_bind, Sem.run_pure, Result.andThen_ok]
          exact lI hT hty hc0
     ·cases h
    ·cases h
   ·cases h
omit hT in
theorem vF (hm : MR w0 I0 B I st.m w) {r : A} {p : Bool × List C} {v : Value} (h : toT st.m r = some p) (hv : RV B w I r v) : RT w I v p := by
 unfold toT at h
 split at h
 ·cases h; exact hv
 ·split at h
  ·rename_i x hx
   cases h
   exact ⟨x, rfl, lV hm hx hv⟩
  ·cases h
omit hT in
theorem O7 (hm : MR w0 I0 B I st.m w) {r r' : A} {v : Value} (h : fin st.m r = some r') (hv : RV B w I r v) : RV B w I r' v ∧ r'.ids = [] := by
 unfold fin at h
 split at h
 ·cases h; exact ⟨hv, rfl⟩
 ·split at h
  ·rename_i x hx
   cases h
   exact ⟨lV hm hx hv, rfl⟩
  ·cases h
theorem uw (hm : MR w0 I0 B I st.m w) (hs : ∀ t, RV B w I (st.s t) (a.tmps.getD t undef)) {fn : Func} {l : List ResultVar} {r : A} (hl : fn.results.toList = l) (h : bE T st l = some r) :
 ∃ v, (results fn a.tmps).run P w = .ok v w ∧ RV B w I r v ∧ r.ids = [] := by
 have hf : fn.results = l.toArray := by rw [← hl]
 have e : results fn a.tmps = (do let vs ← l.toArray.mapM (xq a.tmps); pure (if h : vs.size = 1 then vs[0] else .tuple vs)) := by
  unfold results
  rw [hf]
  rfl
 rw [e]
 unfold bE at h
 split at h
 ·rename_i x
  split at h
  ·rename_i a' hx
   obtain ⟨v, h1, h2⟩ := gy hT hm hs hx
   obtain ⟨h3, h4⟩ := O7 hm h h2
   exact ⟨v, by simp [h1], h3, h4⟩
  ·cases h
 ·cases h
  exact ⟨.tuple #[], by simp, ⟨[], rfl, trivial⟩, rfl⟩
 ·rename_i x y
  split at h
  ·rename_i a' b' hx hy
   split at h
   ·rename_i p q hp hq
    cases h
    obtain ⟨v, h1, h2⟩ := gy hT hm hs hx
    obtain ⟨u, h3, h4⟩ := gy hT hm hs hy
    exact ⟨.tuple #[v, u], by simp [Sem.run_bind, h1, h3], ⟨[v, u], rfl, vF hm hp h2, vF hm hq h4, trivial⟩, rfl⟩
   ·cases h
  ·cases h
 ·rename_i x y z
  split at h
  ·rename_i a' b' c' hx hy hz
   split at h
   ·rename_i p q s hp hq hs'
    cases h
    obtain ⟨v, h1, h2⟩ := gy hT hm hs hx
    obtain ⟨u, h3, h4⟩ := gy hT hm hs hy
    obtain ⟨z, h5, h6⟩ := gy hT hm hs hz
    exact ⟨.tuple #[v, u, z], by simp [Sem.run_bind, h1, h3, h5], ⟨[v, u, z], rfl, vF hm hp h2, vF hm hq h4, vF hm hs' h6, trivial⟩, rfl⟩
   ·cases h
  ·cases h
 ·cases h
end
def entry (args : List A) : Nat → A := fun t => args.getD t .undef
theorem j4 {B : Nat → Value} {w : World} {I : Nat → Nat → Prop} {m : Nat} : ∀ {args : List A} {vals : List Value}, RVl B w I args vals → ∀ t, RV B w I (entry args t) ((vals.toArray ++ Array.replicate m undef).getD t undef) := by
 intro args vals h t
 have e : (vals.toArray ++ Array.replicate m undef).getD t undef = (vals ++ List.replicate m undef)[t]?.getD undef := by
  rw [Array.getD_eq_getD_getElem?, ← Array.getElem?_toList]; simp
 rw [e]
 unfold entry
 rw [List.getD_eq_getElem?_getD]
 clear e
 induction args generalizing vals t with
 | nil =>
   cases vals with
   | nil =>
     show _ = _
     rw [List.nil_append, List.getElem?_replicate]
     split <;> rfl
   | cons _ _ => exact h.elim
 | cons a al ih =>
   cases vals with
   | nil => exact h.elim
   | cons v vs =>
     cases t with
     | zero => exact h.1
     | succ t => exact ih h.2 t
def resE (T : Tab) (st : St) : List ResultVar → Option A
 | [x] => aD T st x
 | [] => some (.tup [])
 | [x, y] => match aD T st x, aD T st y with
   | some a, some b => (match a.down, b.down with | some p, some q => some (.tupA [p, q]) | _, _ => none)
   | _, _ => none
 | [x, y, z] => match aD T st x, aD T st y, aD T st z with
   | some a, some b, some c => (match a.down, b.down, c.down with | some p, some q, some r => some (.tupA [p, q, r]) | _, _, _ => none)
   | _, _, _ => none
 | _ => none
theorem zB {P : Go.Program} {T : Tab} (hT : T.Ok P) {w0 w : World} {I0 I : Nat → Nat → Prop} {B : Nat → Value} {st : St} {a : Act} (hm : MR w0 I0 B I st.m w) (hs : ∀ t, RV B w I (st.s t) (a.tmps.getD t undef)) {fn : Func} {l : List ResultVar} {r : A} (hl : fn.results.toList = l) (h : resE T st l = some r) :
 ∃ v, (results fn a.tmps).run P w = .ok v w ∧ RV B w I r v := by
 have hf : fn.results = l.toArray := by rw [← hl]
 have e : results fn a.tmps = (do let vs ← l.toArray.mapM (xq a.tmps); pure (if h : vs.size = 1 then vs[0] else .tuple vs)) := by
  unfold results
  rw [hf]
  rfl
 rw [e]
 unfold resE at h
 split at h
 ·rename_i x
  obtain ⟨v, h1, h2⟩ := gy hT hm hs h
  exact ⟨v, by simp [h1], h2⟩
 ·cases h
  exact ⟨.tuple #[], by simp, ⟨[], rfl, trivial⟩⟩
 ·rename_i x y
  split at h
  ·rename_i a' b' hx hy
   split at h
   ·rename_i p q hp hq
    cases h
    obtain ⟨v, h1, h2⟩ := gy hT hm hs hx
    obtain ⟨u, h3, h4⟩ := gy hT hm hs hy
    exact ⟨.tuple #[v, u], by simp [Sem.run_bind, h1, h3], ⟨[v, u], rfl, lg hp h2, lg hq h4, trivial⟩⟩
   ·cases h
  ·cases h
 ·rename_i x y z
  split at h
  ·rename_i a' b' c' hx hy hz
   split at h
   ·rename_i p q s hp hq hs'
    cases h
    obtain ⟨v, h1, h2⟩ := gy hT hm hs hx
    obtain ⟨u, h3, h4⟩ := gy hT hm hs hy
    obtain ⟨z, h5, h6⟩ := gy hT hm hs hz
    exact ⟨.tuple #[v, u, z], by simp [Sem.run_bind, h1, h3, h5], ⟨[v, u, z], rfl, lg hp h2, lg hq h4, lg hs' h6, trivial⟩⟩
   ·cases h
  ·cases h
 ·cases h
theorem Ru {T : Tab} {m : Mem} {ty : Nat} {l : List A} {r : A} (h : ld T m ty l = some r) : ∀ j ∈ r.ids, j ∈ l.flatMap A.ids := by
 unfold ld at h
 split at h
 ·split at h
  ·split at h
   ·cases h; intro j hj; simp [A.ids] at hj
   ·split at h
    ·rename_i ys hys
     cases h
     intro j hj
     obtain ⟨x, hx1, hx2⟩ := List.mem_flatMap.1 (mF hys j hj)
     exact List.mem_flatMap.2 ⟨x, List.mem_of_mem_take hx1, hx2⟩
    ·cases h
  ·cases h
 ·intro j hj
  exact List.mem_flatMap.2 ⟨r, List.mem_of_mem_head? h, hj⟩
 ·cases h
theorem kK {T : Tab} {st : St} (hi : ∀ t, ∀ j ∈ (st.s t).ids, (st.m j).isSome = true) (hw : ∀ id o, st.m id = some o → ∀ j ∈ o.ids, (st.m j).isSome = true) {x : ResultVar} {r : A} (h : aD T st x = some r) : ∀ j ∈ r.ids, (st.m j).isSome = true := by
 cases x with
 | tmp t => cases h; exact hi t
 | cell p ty =>
   simp only [aD] at h
   split at h
   ·split at h
    ·rename_i ty' cells hj
     intro j hj'
     obtain ⟨x, hx1, hx2⟩ := List.mem_flatMap.1 (Ru h j hj')
     exact hw _ _ hj j (List.mem_flatMap.2 ⟨x, List.mem_of_mem_drop hx1, hx2⟩)
    ·cases h
   ·cases h
theorem Oa {T : Tab} {st : St} (hi : ∀ t, ∀ j ∈ (st.s t).ids, (st.m j).isSome = true) (hw : ∀ id o, st.m id = some o → ∀ j ∈ o.ids, (st.m j).isSome = true) {l : List ResultVar} {r : A} (h : resE T st l = some r) : ∀ j ∈ r.ids, (st.m j).isSome = true := by
 unfold resE at h
 split at h
 ·exact kK hi hw h
 ·cases h; intro j hj; simp [A.ids] at hj
 ·split at h
  ·rename_i a b hx hy
   split at h
   ·rename_i p q hp hq
    cases h
    intro j hj
    simp [A.ids] at hj
    rcases hj with hj | hj
    ·exact kK hi hw hx j (iH hp j hj)
    ·exact kK hi hw hy j (iH hq j hj)
   ·cases h
  ·cases h
 ·split at h
  ·rename_i a b c hx hy hz
   split at h
   ·rename_i p q s hp hq hs
    cases h
    intro j hj
    simp [A.ids] at hj
    rcases hj with hj | hj | hj
    ·exact kK hi hw hx j (iH hp j hj)
    ·exact kK hi hw hy j (iH hq j hj)
    ·exact kK hi hw hz j (iH hs j hj)
   ·cases h
  ·cases h
 ·cases h
theorem j6 {args : List A} (h : ∀ a ∈ args, ∀ l, a ≠ .defs l) : dfs (entry args DID) = [] := by
 unfold entry
 rw [List.getD_eq_getElem?_getD]
 cases hx : args[DID]? with
 | none => rfl
 | some a =>
   have := h a (List.mem_of_getElem? hx)
   cases a <;> first | rfl | exact absurd rfl (this _)
theorem lZ {B : Nat → Value} {w : World} {I : Nat → Nat → Prop} : ∀ {args : List A} {vals : List Value}, RVl B w I args vals → vals.length = args.length
 | [], [], _ => rfl
 | _ :: _, _ :: _, h => by simp [lZ h.2]
theorem MS {P : Go.Program} {T : Tab} (hT : T.Ok P) {f : FuncId} {fn : Func} {c : Code} {l : List ResultVar} {args : List A} {M : Mem} {D : List Nat} {r : A} {M' : Mem} (hf : P.funcs[f]? = some fn) (hb : fn.body = some c) (hl : fn.results.toList = l) (hle : args.length ≤ fn.ntmps) (hnd : fn.ntmps ≤ DID) (hids : ∀ a ∈ args, ∀ j ∈ a.ids, (M j).isSome = true) (hdf : ∀ a ∈ args, ∀ l, a ≠ .defs l)
 (hen : ∀ args w, (callFunc f args).run P w = .ok (.enter f args) w) (hr : ∀ j ∈ r.ids, (M' j).isSome = true) (hsub : ∀ j, (M j).isSome = true → (M' j).isSome = true) (hwm : WFm M → WFm M')
 (hW : ∀ R : Ref, R.keep = (fun j => (M j).isSome = true ∧ j ∉ D) → W P R fn.ntmps [] ⟨entry args, M⟩ c (fun e st => (e = .normal ∨ e = .ret) ∧ dfs (st.s DID) = [] ∧ ∃ τ r0, resE T st l = some r0 ∧ LeT τ R.keep ⟨upd (fun _ => .top) 0 r0, st.m⟩ ⟨upd (fun _ => .top) 0 r, M'⟩)) : gU P f args M D r M' := by
 refine ⟨hen, hr, hsub, hwm, fun w0 I0 B I w vals hm hv => ?_⟩
 have hlen := lZ hv
 refine calls_of_wp hf hb ?_
 have hdd : dfs (entry args DID) = [] := j6 hdf
 have h0 : SR ⟨w0, I0, w, I, B, fun j => (M j).isSome = true ∧ j ∉ D⟩ fn.ntmps [] ⟨entry args, M⟩ { tmps := vals.toArray ++ Array.replicate (fn.ntmps - vals.toArray.size) undef, defers := [] } w := by
  refine ⟨⟨B, I, hm, Ext.refl _ _, fun _ _ => rfl, j4 hv⟩, fun t j hj => ?_, by simp [hlen]; omega, hnd, by rw [show dfs ((⟨entry args, M⟩ : St).s DID) = [] from hdd]; rfl, fun j hj => hj.1⟩
  simp only [entry, List.getD_eq_getElem?_getD] at hj
  cases hx : args[t]? with
  | none => rw [hx] at hj; simp [A.ids] at hj
  | some a => rw [hx] at hj; exact hids a (List.mem_of_getElem? hx) j hj
 refine wp_mono (hW _ rfl _ w h0) ?_
 rintro e a' w' ⟨st', ⟨he, hdn, τ, r0, hres, hle2⟩, ⟨⟨B', I', hm', hx', hkp', hs'⟩, hids', -, -, hds, hkept⟩⟩
 rw [hdn] at hds
 obtain ⟨v, h1, h2⟩ := zB hT hm' hs' hl hres
 -- the result as a frame of its own
 have hr1 : SR ⟨w0, I0, w, I, B, fun j => (M j).isSome = true ∧ j ∉ D⟩ 1 [] ⟨upd (fun _ => .top) 0 r0, st'.m⟩ { tmps := #[v], defers := [] } w' := by
  have other : ∀ {t : Nat}, t ≠ 0 → (⟨upd (fun _ => A.top) 0 r0, st'.m⟩ : St).s t = A.top := fun {t} e => by
   show upd (fun _ => A.top) 0 r0 t = A.top
   exact upd_ne (fun _ => A.top) r0 e
  refine ⟨⟨B', I', hm', hx', hkp', fun t => ?_⟩, fun t j hj => ?_, rfl, by decide, by show [] = dfs (upd (fun _ => A.top) 0 r0 DID) ++ []; rw [upd_ne _ _ (by decide)]; rfl, hkept⟩
  ·by_cases e : t = 0
   ·subst e; exact h2
   ·rw [other e]; trivial
  ·by_cases e : t = 0
   ·subst e; exact Oa hids' hm'.live hres j hj
   ·rw [other e] at hj
    simp [A.ids] at hj
 have hr2' := hr1.leT hle2
 obtain ⟨⟨B2, I2, hm3, hx3, hkp3, hs3⟩, -⟩ := hr2'
 have h5 : RV B2 w' I2 r v := hs3 0
 have hpost : a'.defers = [] ∧ ∃ v, (results fn a'.tmps).run P w' = .ok v w' ∧ ∃ v' B' I', Ending.returned v = .returned v' ∧ MR w0 I0 B' I' M' w' ∧ Ext w w' I I' ∧ (∀ j, (M j).isSome = true → j ∉ D → B' j = B j) ∧ RV B' w' I' r v' :=
  ⟨hds, v, h1, v, B2, I2, rfl, hm3, hx3, fun j hj hd => hkp3 j ⟨hj, hd⟩, h5⟩
 rcases he with rfl | rfl
 ·exact hpost
 ·exact hpost
theorem JJ {P : Go.Program} {T : Tab} (hT : T.Ok P) {f : FuncId} {fn : Func} {c : Code} {l : List ResultVar} {args : List A} {r : A} (hf : P.funcs[f]? = some fn) (hb : fn.body = some c) (hl : fn.results.toList = l) (hd : ∀ a ∈ args, a.ids = []) (hdf : ∀ a ∈ args, ∀ l, a ≠ .defs l) (hle : args.length ≤ fn.ntmps) (hnd : fn.ntmps ≤ DID)
 (hW : ∀ R : Ref, R.keep = (fun _ => False) → W P R fn.ntmps [] ⟨entry args, Mem.nil⟩ c (fun e st => (e = .normal ∨ e = .ret) ∧ dfs (st.s DID) = [] ∧ bE T st l = some r)) (m : Mem) : rz P f args m r := by
 refine rz.Pw ?_
 intro w0 I0 B I w vals hm hv
 have hlen := lZ hv
 refine calls_of_wp hf hb ?_
 have h0 : SR ⟨w, I, w, I, B, fun _ => False⟩ fn.ntmps [] ⟨entry args, Mem.nil⟩ { tmps := vals.toArray ++ Array.replicate (fn.ntmps - vals.toArray.size) undef, defers := [] } w := by
  refine ⟨⟨B, I, ⟨Below.refl _ _, hm.pO, fun _ _ h => h, fun _ _ h => .inl h, hm.there, fun _ _ h => absurd h (bO _), fun _ _ h => absurd h (bO _), fun _ _ _ _ h => absurd h (bO _), fun _ _ h => absurd h (bO _)⟩, Ext.refl _ _, fun _ _ => rfl, j4 hv⟩, fun t j hj => ?_, by simp [hlen]; omega, hnd, by rw [show dfs ((⟨entry args, Mem.nil⟩ : St).s DID) = [] from j6 (fun a ha l e => by subst e; exact hdf _ ha l rfl)]; rfl, fun j hj => hj.elim⟩
  simp only [entry, List.getD_eq_getElem?_getD] at hj
  cases hx : args[t]? with
  | none => rw [hx] at hj; simp [A.ids] at hj
  | some a => rw [hx] at hj; simp [hd a (List.mem_of_getElem? hx)] at hj
 refine wp_mono (hW _ rfl _ w h0) ?_
 rintro e a' w' ⟨st', ⟨he, hdn, hres⟩, ⟨⟨B', I', hm', hx', -, hs'⟩, -, -, -, hds, -⟩⟩
 rw [hdn] at hds
 obtain ⟨v, h1, h2, h3⟩ := uw hT hm' hs' hl hres
 have hpost : a'.defers = [] ∧ ∃ v, (results fn a'.tmps).run P w' = .ok v w' ∧ ∃ v' I', Ending.returned v = .returned v' ∧ Below w.heap.size w w' ∧ (∀ b o, I b o → I' b o) ∧ (∀ b o, I' b o → I b o ∨ (w.heap.size ≤ b ∧ b < w'.heap.size)) ∧ RV B w' I' r v' :=
  ⟨hds, v, h1, v, I', rfl, hm'.below, hm'.base, fun b o h => (hm'.old b o h).imp id fun k => ⟨k, hm'.there b o h⟩, h2.mono (Ext.refl _ _) fun j hj => by rw [h3] at hj; simp at hj⟩
 rcases he with rfl | rfl
 ·exact hpost
 ·exact hpost
theorem gu {α β : Type} [BEq α] [LawfulBEq α] {t : α} {x : β} : ∀ {l : List (α × β)}, l.lookup t = some x → (t, x) ∈ l
 | [], h => by simp at h
 | (u, y) :: l, h => by
   rw [List.lookup_cons] at h
   by_cases e : t == u
   ·rw [e] at h
    cases h
    rw [eq_of_beq e]
    simp
   ·simp only [Bool.not_eq_true] at e
    rw [e] at h
    exact List.mem_cons_of_mem _ (gu h)
structure Lists where
 ty : List (Nat × Nat × Bool)
 zero : List (Nat × List Value)
 elem : List (Nat × Nat × Nat)
 off : List ((Nat × Nat) × Nat × Nat × Bool)
 bool : List Nat
 fields : List (Nat × List (Nat × Nat))
 bytes : List (Nat × Nat)
 nilk : List (Nat × Nat)
 int : List (Nat × IntKind)
 map : List (Nat × Nat × Nat)
 str : List Nat
 one : List (Nat × Value)
 seq : List (Nat × List (Nat × Nat))
 eff : List Nat
def Lists.tab (L : Lists) : Tab where
 ty t := L.ty.lookup t
 zero t := L.zero.lookup t
 elem t := L.elem.lookup t
 off t f := L.off.lookup (t, f)
 bool t := L.bool.contains t
 fields t := L.fields.lookup t
 bytes t := L.bytes.lookup t
 nilk t := L.nilk.lookup t
 int t := L.int.lookup t
 map t := L.map.lookup t
 str t := L.str.contains t
 one t := L.one.lookup t
 seq t := L.seq.lookup t
 eff f := L.eff.contains f
def Qp (P : Go.Program) (e : Nat × Nat × Bool) : Bool :=
 decide (0 < e.2.1) && (match P.info? e.1 with | some i => i.size == e.2.1 | none => false) && (match P.underlying e.1 with | some d => TypeDesc.many d == e.2.2 | none => false) && (e.2.2 || e.2.1 == 1)
def I4 (P : Go.Program) (e : Nat × Nat × Nat) : Bool :=
 decide (0 < e.2.2) && (match P.underlying e.1 with | some (.slice u) => u == e.2.1 | _ => false) && (match P.info? e.2.1 with | some i => i.size == e.2.2 | none => false)
def K9 (P : Go.Program) (L : Lists) (e : (Nat × Nat) × Nat × Nat × Bool) : Bool :=
 match P.underlying e.1.1 with
 | some (.struct fs) => match fs[e.1.2]? with
   | some fd => fd.offset == e.2.1 && L.ty.lookup fd.type == some (e.2.2.1, e.2.2.2)
   | none => false
 | _ => false
def I8 (P : Go.Program) (t : Nat) : Bool := match P.underlying t with | some .bool => true | _ => false
def Lh (P : Go.Program) (t : Nat) : Bool := match P.underlying t with | some .string => true | _ => false
def Cm (P : Go.Program) (e : Nat × List (Nat × Nat)) : Bool := match P.underlying e.1 with
 | some (.struct fs) => (fs.toList.map fun f => (P.info? f.type).map fun i => (f.offset, i.size)) == e.2.map some
 | _ => false
def DZ (P : Go.Program) (e : Nat × Nat) : Bool := match P.info? e.1 with | some i => i.bytes == e.2 | none => false
def MX (P : Go.Program) (e : Nat × Nat) : Bool := match P.underlying e.1 with | some d => Dz d == some e.2 | none => false
def Mw (P : Go.Program) (e : Nat × IntKind) : Bool := match P.underlying e.1 with | some (.int k) => decide (k = e.2) | _ => false
def Mk (P : Go.Program) (e : Nat × Nat × Nat) : Bool := match P.underlying e.1 with | some (.map k v) => k == e.2.1 && v == e.2.2 | _ => false
def Hy (P : Go.Program) : List (Nat × List Value) → Prop
 | [] => True
 | (t, vs) :: l => (((P.info? t).bind (·.zero)).map (·.cells) = some vs.toArray ∧ vs.all (·.oneCell') = true) ∧ Hy P l
def NR (P : Go.Program) : List (Nat × Value) → Prop
 | [] => True
 | (t, v) :: l => ((P.info? t).bind (·.zero) = some v ∧ v.oneCell' = true) ∧ NR P l
def NT (P : Go.Program) (e : Nat × List (Nat × Nat)) : Bool :=
 !P.stoodInHeld e.1 && !P.eqGuardType P.depth e.1 && (match P.underlying e.1 with | some (.struct fs) => (fs.toList.map (fun f => (f.name == "_", f.type, f.offset))) == (e.2.map fun p => (false, p.1, p.2)) | _ => false) &&
  e.2.all fun p => match P.underlying p.1 with | some d => Qy d | none => false
theorem Lists.ok {P : Go.Program} {L : Lists} (h1 : L.ty.all (Qp P) = true) (h2 : Hy P L.zero) (h3 : L.elem.all (I4 P) = true) (h4 : L.off.all (K9 P L) = true) (h5 : L.bool.all (I8 P) = true) (h6 : L.fields.all (Cm P) = true) (h7 : L.bytes.all (DZ P) = true) (h8 : L.nilk.all (MX P) = true) (h9 : L.int.all (Mw P) = true) (h10 : L.map.all (Mk P) = true) (h11 : L.str.all (Lh P) = true) (h12 : NR P L.one) (h13 : L.seq.all (NT P) = true) : L.tab.Ok P := by
 refine ⟨fun t n g h => ?_, fun t vs h => ?_, fun t e n h => ?_, fun t f o n g h => ?_, fun t h => ?_, fun t l h => ?_, fun t b h => ?_, fun t k h => ?_, fun t k h => ?_, fun t k e h => ?_, fun t h => ?_, fun t v h => ?_, fun t l h => ?_⟩
 ·have := List.all_eq_true.1 h1 _ (gu h)
  simp only [Qp, Bool.and_eq_true, decide_eq_true_eq] at this
  obtain ⟨⟨⟨k1, k2⟩, k3⟩, k4⟩ := this
  split at k2
  ·rename_i i hi
   split at k3
   ·rename_i d hd
    exact ⟨k1, ⟨i, hi, eq_of_beq k2⟩, d, hd, eq_of_beq k3, fun e => by subst e; simpa using k4⟩
   ·cases k3
  ·cases k2
 ·have hm := gu h
  have : ∀ {l : List (Nat × List Value)}, Hy P l → (t, vs) ∈ l → ((P.info? t).bind (·.zero)).map (·.cells) = some vs.toArray ∧ vs.all (·.oneCell') = true := by
   intro l
   induction l with
   | nil => intro _ h; simp at h
   | cons p l ih =>
     intro h hm
     rcases List.mem_cons.1 hm with e | hm
     ·subst e; exact h.1
     ·exact ih h.2 hm
  obtain ⟨k1, k2⟩ := this h2 hm
  cases hi : P.info? t with
  | none => rw [hi] at k1; cases k1
  | some i =>
    rw [hi] at k1
    simp only [Option.bind_some] at k1
    cases hz : i.zero with
    | none => rw [hz] at k1; cases k1
    | some z =>
      rw [hz] at k1
      exact ⟨i, z, rfl, hz, by simpa using k1, fun v hv => List.all_eq_true.1 k2 v hv⟩
 ·have := List.all_eq_true.1 h3 _ (gu h)
  simp only [I4, Bool.and_eq_true, decide_eq_true_eq] at this
  obtain ⟨⟨k1, k2⟩, k3⟩ := this
  split at k2
  ·rename_i u hu
   split at k3
   ·rename_i i hi
    exact ⟨by rw [hu, eq_of_beq k2], k1, i, hi, eq_of_beq k3⟩
   ·cases k3
  ·cases k2
 ·have := List.all_eq_true.1 h4 _ (gu h)
  simp only [K9] at this
  split at this
  ·rename_i fs hfs
   split at this
   ·rename_i fd hfd
    simp only [Bool.and_eq_true] at this
    exact ⟨fs, fd, hfs, hfd, eq_of_beq this.1, eq_of_beq this.2⟩
   ·cases this
  ·cases this
 ·have hm : t ∈ L.bool := by simpa [Lists.tab] using h
  have := List.all_eq_true.1 h5 t hm
  unfold I8 at this
  split at this
  ·assumption
  ·cases this
 ·have := List.all_eq_true.1 h6 _ (gu h)
  simp only [Cm] at this
  split at this
  ·rename_i fs hfs
   exact ⟨fs, hfs, eq_of_beq this⟩
  ·cases this
 ·have := List.all_eq_true.1 h7 _ (gu h)
  simp only [DZ] at this
  split at this
  ·rename_i i hi; exact ⟨i, hi, eq_of_beq this⟩
  ·cases this
 ·have := List.all_eq_true.1 h8 _ (gu h)
  simp only [MX] at this
  split at this
  ·rename_i d hd; exact ⟨d, hd, eq_of_beq this⟩
  ·cases this
 ·have := List.all_eq_true.1 h9 _ (gu h)
  simp only [Mw] at this
  split at this
  ·rename_i d hd; rw [hd, of_decide_eq_true this]
  ·cases this
 ·have := List.all_eq_true.1 h10 _ (gu h)
  simp only [Mk] at this
  split at this
  ·rename_i d e' hd
   rw [Bool.and_eq_true] at this
   rw [hd, eq_of_beq this.1, eq_of_beq this.2]
  ·cases this
 ·have hm : t ∈ L.str := by simpa [Lists.tab] using h
  have := List.all_eq_true.1 h11 t hm
  unfold Lh at this
  split at this
  ·assumption
  ·cases this
 ·have hm := gu h
  have : ∀ {l : List (Nat × Value)}, NR P l → (t, v) ∈ l → (P.info? t).bind (·.zero) = some v ∧ v.oneCell' = true := by
   intro l
   induction l with
   | nil => intro _ h; simp at h
   | cons p l ih =>
     intro h hm
     rcases List.mem_cons.1 hm with e | hm
     ·subst e; exact h.1
     ·exact ih h.2 hm
  obtain ⟨k1, k2⟩ := this h12 hm
  cases hi : P.info? t with
  | none => rw [hi] at k1; cases k1
  | some i => rw [hi] at k1; exact ⟨i, rfl, k1, k2⟩
 ·have := List.all_eq_true.1 h13 _ (gu h)
  simp only [NT, Bool.and_eq_true, Bool.not_eq_true'] at this
  obtain ⟨⟨⟨k1, k2⟩, k3⟩, k4⟩ := this
  refine ⟨k1, k2, ?_, fun p hp => ?_⟩
  ·split at k3
   ·rename_i fs hfs
    exact ⟨fs, hfs, eq_of_beq k3⟩
   ·cases k3
  ·have := List.all_eq_true.1 k4 p hp
   split at this
   ·rename_i d hd
    exact ⟨d, hd, this⟩
   ·cases this
def lists : Lists where
 ty := [(2, 1, false), (3, 1, false), (4, 1, false), (5, 1, false), (9, 1, false), (12, 1, false), (13, 2, true), (17, 1, false), (18, 1, true), (20, 1, false), (21, 1, false), (22, 1, false), (23, 1, false), (24, 2, true), (25, 2, true), (26, 1, false), (27, 1, false), (29, 4, true), (31, 1, false), (35, 2, true), (37, 1, false), (40, 1, false), (42, 4, true), (44, 4, true), (48, 1, false), (51, 1, false), (53, 5, true), (55, 1, false), (64, 1, false), (65, 1, false), (68, 1, false), (69, 1, false), (70, 1, false), (72, 2, true), (74, 3, true), (85, 1, false), (92, 1, false), (95, 1, false), (102, 1, false), (104, 6, true), (116, 1, false), (118, 7, true), (119, 1, false), (123, 1, false), (125, 1, false), (132, 1, false), (133, 1, false), (147, 1, false), (155, 1, false), (157, 1, false)]
 zero := [(2, [.int .i64 0]), (3, [.int .i64 0]), (4, [.bool false]), (5, [.int .u8 0]), (9, [.string ⟨#[]⟩]), (12, [.int .u64 0]), (13, [.string ⟨#[]⟩, .int .u64 0]), (17, [.pointer none]), (18, [.pointer none]), (20, [.nilIface]), (21, [.int .i32 0]), (22, [.slice none 0 0]), (23, [.slice none 0 0]), (24, [.slice none 0 0, .slice none 0 0]), (25, [.slice none 0 0, .slice none 0 0]), (26, [.slice none 0 0]), (27, [.slice none 0 0]), (29, [.int .i64 0, .int .i64 0, .string ⟨#[]⟩, .slice none 0 0]), (31, [.int .i64 0]), (35, [.string ⟨#[]⟩, .string ⟨#[]⟩]), (37, [.nilFunc]), (40, [.slice none 0 0]), (42, [.string ⟨#[]⟩, .string ⟨#[]⟩, .slice none 0 0, .slice none 0 0]), (44, [.string ⟨#[]⟩, .string ⟨#[]⟩, .slice none 0 0, .slice none 0 0]), (48, [.pointer none]), (51, [.pointer none]), (53, [.slice none 0 0, .slice none 0 0, .string ⟨#[]⟩, .string ⟨#[]⟩, .slice none 0 0]), (55, [.slice none 0 0]), (64, [.nilFunc]), (65, [.nilFunc]), (68, [.pointer none]), (69, [.pointer none]), (70, [.slice none 0 0]), (72, [.pointer none, .slice none 0 0]), (74, [.pointer none, .slice none 0 0, .int .i64 0]), (85, [.nilFunc]), (92, [.map none]), (95, [.nilFunc]), (102, [.nilFunc]), (104, [.int .i64 0, .int .i64 0, .bool false, .int .i64 0, .int .i64 0, .string ⟨#[]⟩]), (116, [.nilFunc]), (118, [.int .i64 0, .int .i64 0, .string ⟨#[]⟩, .string ⟨#[]⟩, .slice none 0 0, .slice none 0 0, .slice none 0 0]), (119, [.nilFunc]), (123, [.nilFunc]), (125, [.nilFunc]), (132, [.pointer none]), (133, [.slice none 0 0]), (147, [.int .u64 0]), (155, [.int .u32 0]), (157, [.int .u64 0])]
 elem := [(22, 42, 4), (23, 118, 7), (26, 35, 2), (27, 29, 4), (40, 44, 4), (55, 9, 1), (70, 5, 1), (133, 26, 1)]
 off := [((13, 0), 0, 1, false), ((13, 1), 1, 1, false), ((18, 0), 0, 1, false), ((24, 0), 0, 1, false), ((24, 1), 1, 1, false), ((25, 0), 0, 1, false), ((25, 1), 1, 1, false), ((29, 0), 0, 1, false), ((29, 1), 1, 1, false), ((29, 2), 2, 1, false), ((29, 3), 3, 1, false), ((35, 0), 0, 1, false), ((35, 1), 1, 1, false), ((42, 0), 0, 1, false), ((42, 1), 1, 1, false), ((42, 2), 2, 1, false), ((42, 3), 3, 1, false), ((44, 0), 0, 1, false), ((44, 1), 1, 1, false), ((44, 2), 2, 1, false), ((44, 3), 3, 1, false), ((53, 0), 0, 2, true), ((53, 1), 2, 1, false), ((53, 2), 3, 1, false), ((53, 3), 4, 1, false), ((72, 0), 0, 1, false), ((72, 1), 1, 1, false), ((74, 0), 0, 2, true), ((74, 1), 2, 1, false), ((104, 0), 0, 1, false), ((104, 1), 1, 1, false), ((104, 2), 2, 1, false), ((104, 3), 3, 1, false), ((104, 4), 4, 1, false), ((104, 5), 5, 1, false), ((118, 0), 0, 1, false), ((118, 1), 1, 1, false), ((118, 2), 2, 1, false), ((118, 3), 3, 1, false), ((118, 4), 4, 1, false), ((118, 5), 5, 1, false), ((118, 6), 6, 1, false)]
 bool := [4]
 fields := [(13, [(0, 1), (1, 1)]), (18, [(0, 1)]), (24, [(0, 1), (1, 1)]), (25, [(0, 1), (1, 1)]), (29, [(0, 1), (1, 1), (2, 1), (3, 1)]), (35, [(0, 1), (1, 1)]), (42, [(0, 1), (1, 1), (2, 1), (3, 1)]), (44, [(0, 1), (1, 1), (2, 1), (3, 1)]), (53, [(0, 2), (2, 1), (3, 1), (4, 1)]), (72, [(0, 1), (1, 1)]), (74, [(0, 2), (2, 1)]), (104, [(0, 1), (1, 1), (2, 1), (3, 1), (4, 1), (5, 1)]), (118, [(0, 1), (1, 1), (2, 1), (3, 1), (4, 1), (5, 1), (6, 1)])]
 bytes := [(2, 8), (3, 8), (4, 1), (5, 1), (9, 16), (12, 8), (13, 24), (17, 8), (18, 8), (20, 16), (21, 4), (22, 24), (23, 24), (24, 48), (25, 48), (26, 24), (27, 24), (29, 56), (31, 8), (35, 32), (37, 8), (40, 24), (42, 80), (44, 80), (48, 8), (51, 8), (53, 104), (55, 24), (64, 8), (65, 8), (68, 8), (69, 8), (70, 24), (72, 32), (74, 40), (85, 8), (92, 8), (95, 8), (102, 8), (104, 56), (116, 8), (118, 120), (119, 8), (123, 8), (125, 8), (132, 8), (133, 24), (147, 8), (155, 4), (157, 8)]
 nilk := [(17, 0), (20, 4), (22, 1), (23, 1), (26, 1), (27, 1), (37, 3), (40, 1), (48, 0), (51, 0), (55, 1), (64, 3), (65, 3), (68, 0), (69, 0), (70, 1), (85, 3), (92, 2), (95, 3), (102, 3), (116, 3), (119, 3), (123, 3), (125, 3), (132, 0), (133, 1)]
 int := [(2, .i64), (3, .i64), (5, .u8), (12, .u64), (21, .i32), (31, .i64), (147, .u64), (155, .u32), (157, .u64)]
 map := [(92, 9, 3)]
 str := [9]
 one := [(2, .int .i64 0), (3, .int .i64 0), (4, .bool false), (5, .int .u8 0), (9, .string ⟨#[]⟩), (12, .int .u64 0), (17, .pointer none), (20, .nilIface), (21, .int .i32 0), (22, .slice none 0 0), (23, .slice none 0 0), (26, .slice none 0 0), (27, .slice none 0 0), (31, .int .i64 0), (37, .nilFunc), (40, .slice none 0 0), (48, .pointer none), (51, .pointer none), (55, .slice none 0 0), (64, .nilFunc), (65, .nilFunc), (68, .pointer none), (69, .pointer none), (70, .slice none 0 0), (85, .nilFunc), (92, .map none), (95, .nilFunc), (102, .nilFunc), (116, .nilFunc), (119, .nilFunc), (123, .nilFunc), (125, .nilFunc), (132, .pointer none), (133, .slice none 0 0), (147, .int .u64 0), (155, .int .u32 0), (157, .int .u64 0)]
 seq := [(35, [(9, 0), (9, 1)]), (104, [(3, 0), (3, 1), (4, 2), (2, 3), (3, 4), (9, 5)])]
 eff := [57, 66, 31, 68, 97, 114, 70, 69, 32]
def tab : Tab := lists.tab
theorem ah : tab.Ok Tryz.prog :=
 Lists.ok (by kernel_rfl) (⟨⟨by kernel_rfl, rfl⟩, ⟨⟨by kernel_rfl, rfl⟩, ⟨⟨by kernel_rfl, rfl⟩, ⟨⟨by kernel_rfl, rfl⟩, ⟨⟨by kernel_rfl, rfl⟩, ⟨⟨by kernel_rfl, rfl⟩, ⟨⟨by kernel_rfl, rfl⟩, ⟨⟨by kernel_rfl, rfl⟩, ⟨⟨by kernel_rfl, rfl⟩, ⟨⟨by kernel_rfl, rfl⟩, ⟨⟨by kernel_rfl, rfl⟩, ⟨⟨by kernel_rfl, rfl⟩, ⟨⟨by kernel_rfl, rfl⟩, ⟨⟨by kernel_rfl, rfl⟩, ⟨⟨by kernel_rfl, rfl⟩, ⟨⟨by kernel_rfl, rfl⟩, ⟨⟨by kernel_rfl, rfl⟩, ⟨⟨by kernel_rfl, rfl⟩, ⟨⟨by kernel_rfl, rfl⟩, ⟨⟨by kernel_rfl, rfl⟩, ⟨⟨by kernel_rfl, rfl⟩, ⟨⟨by kernel_rfl, rfl⟩, ⟨⟨by kernel_rfl, rfl⟩, ⟨⟨by kernel_rfl, rfl⟩, ⟨⟨by kernel_rfl, rfl⟩, ⟨⟨by kernel_rfl, rfl⟩, ⟨⟨by kernel_rfl, rfl⟩, ⟨⟨by kernel_rfl, rfl⟩, ⟨⟨by kernel_rfl, rfl⟩, ⟨⟨by kernel_rfl, rfl⟩, ⟨⟨by kernel_rfl, rfl⟩, ⟨⟨by kernel_rfl, rfl⟩, ⟨⟨by kernel_rfl, rfl⟩, ⟨⟨by kernel_rfl, rfl⟩, ⟨⟨by kernel_rfl, rfl⟩, ⟨⟨by kernel_rfl, rfl⟩, ⟨⟨by kernel_rfl, rfl⟩, ⟨⟨by kernel_rfl, rfl⟩, ⟨⟨by kernel_rfl, rfl⟩, ⟨⟨by kernel_rfl, rfl⟩, ⟨⟨by kernel_rfl, rfl⟩, ⟨⟨by kernel_rfl, rfl⟩, ⟨⟨by kernel_rfl, rfl⟩, ⟨⟨by kernel_rfl, rfl⟩, ⟨⟨by kernel_rfl, rfl⟩, ⟨⟨by kernel_rfl, rfl⟩, ⟨⟨by kernel_rfl, rfl⟩, ⟨⟨by kernel_rfl, rfl⟩, ⟨⟨by kernel_rfl, rfl⟩, ⟨⟨by kernel_rfl, rfl⟩, trivial⟩⟩⟩⟩⟩⟩⟩⟩⟩⟩⟩⟩⟩⟩⟩⟩⟩⟩⟩⟩⟩⟩⟩⟩⟩⟩⟩⟩⟩⟩⟩⟩⟩⟩⟩⟩⟩⟩⟩⟩⟩⟩⟩⟩⟩⟩⟩⟩⟩⟩) (by kernel_rfl) (by kernel_rfl) (by kernel_rfl) (by kernel_rfl) (by kernel_rfl) (by kernel_rfl) (by kernel_rfl) (by kernel_rfl) (by kernel_rfl) (⟨⟨by kernel_rfl, rfl⟩, ⟨⟨by kernel_rfl, rfl⟩, ⟨⟨by kernel_rfl, rfl⟩, ⟨⟨by kernel_rfl, rfl⟩, ⟨⟨by kernel_rfl, rfl⟩, ⟨⟨by kernel_rfl, rfl⟩, ⟨⟨by kernel_rfl, rfl⟩, ⟨⟨by kernel_rfl, rfl⟩, ⟨⟨by kernel_rfl, rfl⟩, ⟨⟨by kernel_rfl, rfl⟩, ⟨⟨by kernel_rfl, rfl⟩, ⟨⟨by kernel_rfl, rfl⟩, ⟨⟨by kernel_rfl, rfl⟩, ⟨⟨by kernel_rfl, rfl⟩, ⟨⟨by kernel_rfl, rfl⟩, ⟨⟨by kernel_rfl, rfl⟩, ⟨⟨by kernel_rfl, rfl⟩, ⟨⟨by kernel_rfl, rfl⟩, ⟨⟨by kernel_rfl, rfl⟩, ⟨⟨by kernel_rfl, rfl⟩, ⟨⟨by kernel_rfl, rfl⟩, ⟨⟨by kernel_rfl, rfl⟩, ⟨⟨by kernel_rfl, rfl⟩, ⟨⟨by kernel_rfl, rfl⟩, ⟨⟨by kernel_rfl, rfl⟩, ⟨⟨by kernel_rfl, rfl⟩, ⟨⟨by kernel_rfl, rfl⟩, ⟨⟨by kernel_rfl, rfl⟩, ⟨⟨by kernel_rfl, rfl⟩, ⟨⟨by kernel_rfl, rfl⟩, ⟨⟨by kernel_rfl, rfl⟩, ⟨⟨by kernel_rfl, rfl⟩, ⟨⟨by kernel_rfl, rfl⟩, ⟨⟨by kernel_rfl, rfl⟩, ⟨⟨by kernel_rfl, rfl⟩, ⟨⟨by kernel_rfl, rfl⟩, ⟨⟨by kernel_rfl, rfl⟩, trivial⟩⟩⟩⟩⟩⟩⟩⟩⟩⟩⟩⟩⟩⟩⟩⟩⟩⟩⟩⟩⟩⟩⟩⟩⟩⟩⟩⟩⟩⟩⟩⟩⟩⟩⟩⟩⟩) (by kernel_rfl)
set_option maxRecDepth 10000 in
theorem tabs : tab.ty 2 = some (1, false) ∧ tab.ty 3 = some (1, false) ∧ tab.ty 4 = some (1, false) ∧ tab.ty 5 = some (1, false) ∧ tab.ty 9 = some (1, false) ∧ tab.ty 12 = some (1, false) ∧ tab.ty 13 = some (2, true) ∧ tab.ty 17 = some (1, false) ∧ tab.ty 18 = some (1, true) ∧ tab.ty 20 = some (1, false) ∧ tab.ty 21 = some (1, false) ∧ tab.ty 22 = some (1, false) ∧ tab.ty 23 = some (1, false) ∧ tab.ty 24 = some (2, true) ∧ tab.ty 25 = some (2, true) ∧ tab.ty 26 = some (1, false) ∧ tab.ty 27 = some (1, false) ∧ tab.ty 29 = some (4, true) ∧ tab.ty 31 = some (1, false) ∧ tab.ty 35 = some (2, true) ∧ tab.ty 37 = some (1, false) ∧ tab.ty 40 = some (1, false) ∧ tab.ty 42 = some (4, true) ∧ tab.ty 44 = some (4, true) ∧ tab.ty 48 = some (1, false) ∧ tab.ty 51 = some (1, false) ∧ tab.ty 53 = some (5, true) ∧ tab.ty 55 = some (1, false) ∧ tab.ty 64 = some (1, false) ∧ tab.ty 65 = some (1, false) ∧ tab.ty 68 = some (1, false) ∧ tab.ty 69 = some (1, false) ∧ tab.ty 70 = some (1, false) ∧ tab.ty 72 = some (2, true) ∧ tab.ty 74 = some (3, true) ∧ tab.ty 85 = some (1, false) ∧ tab.ty 92 = some (1, false) ∧ tab.ty 95 = some (1, false) ∧ tab.ty 102 = some (1, false) ∧ tab.ty 104 = some (6, true) ∧ tab.ty 116 = some (1, false) ∧ tab.ty 118 = some (7, true) ∧ tab.ty 119 = some (1, false) ∧ tab.ty 123 = some (1, false) ∧ tab.ty 125 = some (1, false) ∧ tab.ty 132 = some (1, false) ∧ tab.ty 133 = some (1, false) ∧ tab.ty 147 = some (1, false) ∧ tab.ty 155 = some (1, false) ∧ tab.ty 157 = some (1, false) ∧ tab.elem 22 = some (42, 4) ∧ tab.elem 23 = some (118, 7) ∧ tab.elem 26 = some (35, 2) ∧ tab.elem 27 = some (29, 4) ∧ tab.elem 40 = some (44, 4) ∧ tab.elem 55 = some (9, 1) ∧ tab.elem 70 = some (5, 1) ∧ tab.elem 133 = some (26, 1) ∧ tab.off 13 0 = some (0, 1, false) ∧ tab.off 13 1 = some (1, 1, false) ∧ tab.off 18 0 = some (0, 1, false) ∧ tab.off 24 0 = some (0, 1, false) ∧ tab.off 24 1 = some (1, 1, false) ∧ tab.off 25 0 = some (0, 1, false) ∧ tab.off 25 1 = some (1, 1, false) ∧ tab.off 29 0 = some (0, 1, false) ∧ tab.off 29 1 = some (1, 1, false) ∧ tab.off 29 2 = some (2, 1, false) ∧ tab.off 29 3 = some (3, 1, false) ∧ tab.off 35 0 = some (0, 1, false) ∧ tab.off 35 1 = some (1, 1, false) ∧ tab.off 42 0 = some (0, 1, false) ∧ tab.off 42 1 = some (1, 1, false) ∧ tab.off 42 2 = some (2, 1, false) ∧ tab.off 42 3 = some (3, 1, false) ∧ tab.off 44 0 = some (0, 1, false) ∧ tab.off 44 1 = some (1, 1, false) ∧ tab.off 44 2 = some (2, 1, false) ∧ tab.off 44 3 = some (3, 1, false) ∧ tab.off 53 0 = some (0, 2, true) ∧ tab.off 53 1 = some (2, 1, false) ∧ tab.off 53 2 = some (3, 1, false) ∧ tab.off 53 3 = some (4, 1, false) ∧ tab.off 72 0 = some (0, 1, false) ∧ tab.off 72 1 = some (1, 1, false) ∧ tab.off 74 0 = some (0, 2, true) ∧ tab.off 74 1 = some (2, 1, false) ∧ tab.off 104 0 = some (0, 1, false) ∧ tab.off 104 1 = some (1, 1, false) ∧ tab.off 104 2 = some (2, 1, false) ∧ tab.off 104 3 = some (3, 1, false) ∧ tab.off 104 4 = some (4, 1, false) ∧ tab.off 104 5 = some (5, 1, false) ∧ tab.off 118 0 = some (0, 1, false) ∧ tab.off 118 1 = some (1, 1, false) ∧ tab.off 118 2 = some (2, 1, false) ∧ tab.off 118 3 = some (3, 1, false) ∧ tab.off 118 4 = some (4, 1, false) ∧ tab.off 118 5 = some (5, 1, false) ∧ tab.off 118 6 = some (6, 1, false) ∧ tab.bytes 5 = some 1 ∧ tab.bytes 9 = some 16 ∧ tab.bytes 26 = some 24 ∧ tab.bytes 29 = some 56 ∧ tab.bytes 35 = some 32 ∧ tab.bytes 42 = some 80 ∧ tab.bytes 44 = some 80 ∧ tab.bytes 118 = some 120 ∧ tab.fields 13 = some [(0, 1), (1, 1)] ∧ tab.fields 18 = some [(0, 1)] ∧ tab.fields 24 = some [(0, 1), (1, 1)] ∧ tab.fields 25 = some [(0, 1), (1, 1)] ∧ tab.fields 29 = some [(0, 1), (1, 1), (2, 1), (3, 1)] ∧ tab.fields 35 = some [(0, 1), (1, 1)] ∧ tab.fields 42 = some [(0, 1), (1, 1), (2, 1), (3, 1)] ∧ tab.fields 44 = some [(0, 1), (1, 1), (2, 1), (3, 1)] ∧ tab.fields 53 = some [(0, 2), (2, 1), (3, 1), (4, 1)] ∧ tab.fields 72 = some [(0, 1), (1, 1)] ∧ tab.fields 74 = some [(0, 2), (2, 1)] ∧ tab.fields 104 = some [(0, 1), (1, 1), (2, 1), (3, 1), (4, 1), (5, 1)] ∧ tab.fields 118 = some [(0, 1), (1, 1), (2, 1), (3, 1), (4, 1), (5, 1), (6, 1)] ∧ tab.zero 2 = some [.int .i64 0] ∧ tab.zero 3 = some [.int .i64 0] ∧ tab.zero 4 = some [.bool false] ∧ tab.zero 5 = some [.int .u8 0] ∧ tab.zero 9 = some [.string ⟨#[]⟩] ∧ tab.zero 12 = some [.int .u64 0] ∧ tab.zero 13 = some [.string ⟨#[]⟩, .int .u64 0] ∧ tab.zero 17 = some [.pointer none] ∧ tab.zero 18 = some [.pointer none] ∧ tab.zero 20 = some [.nilIface] ∧ tab.zero 21 = some [.int .i32 0] ∧ tab.zero 22 = some [.slice none 0 0] ∧ tab.zero 23 = some [.slice none 0 0] ∧ tab.zero 24 = some [.slice none 0 0, .slice none 0 0] ∧ tab.zero 25 = some [.slice none 0 0, .slice none 0 0] ∧ tab.zero 26 = some [.slice none 0 0] ∧ tab.zero 27 = some [.slice none 0 0] ∧ tab.zero 29 = some [.int .i64 0, .int .i64 0, .string ⟨#[]⟩, .slice none 0 0] ∧ tab.zero 31 = some [.int .i64 0] ∧ tab.zero 35 = some [.string ⟨#[]⟩, .string ⟨#[]⟩] ∧ tab.zero 37 = some [.nilFunc] ∧ tab.zero 40 = some [.slice none 0 0] ∧ tab.zero 42 = some [.string ⟨#[]⟩, .string ⟨#[]⟩, .slice none 0 0, .slice none 0 0] ∧ tab.zero 44 = some [.string ⟨#[]⟩, .string ⟨#[]⟩, .slice none 0 0, .slice none 0 0] ∧ tab.zero 48 = some [.pointer none] ∧ tab.zero 51 = some [.pointer none] ∧ tab.zero 53 = some [.slice none 0 0, .slice none 0 0, .string ⟨#[]⟩, .string ⟨#[]⟩, .slice none 0 0] ∧ tab.zero 55 = some [.slice none 0 0] ∧ tab.zero 64 = some [.nilFunc] ∧ tab.zero 65 = some [.nilFunc] ∧ tab.zero 68 = some [.pointer none] ∧ tab.zero 69 = some [.pointer none] ∧ tab.zero 70 = some [.slice none 0 0] ∧ tab.zero 72 = some [.pointer none, .slice none 0 0] ∧ tab.zero 74 = some [.pointer none, .slice none 0 0, .int .i64 0] ∧ tab.zero 85 = some [.nilFunc] ∧ tab.zero 92 = some [.map none] ∧ tab.zero 95 = some [.nilFunc] ∧ tab.zero 102 = some [.nilFunc] ∧ tab.zero 104 = some [.int .i64 0, .int .i64 0, .bool false, .int .i64 0, .int .i64 0, .string ⟨#[]⟩] ∧ tab.zero 116 = some [.nilFunc] ∧ tab.zero 118 = some [.int .i64 0, .int .i64 0, .string ⟨#[]⟩, .string ⟨#[]⟩, .slice none 0 0, .slice none 0 0, .slice none 0 0] ∧ tab.zero 119 = some [.nilFunc] ∧ tab.zero 123 = some [.nilFunc] ∧ tab.zero 125 = some [.nilFunc] ∧ tab.zero 132 = some [.pointer none] ∧ tab.zero 133 = some [.slice none 0 0] ∧ tab.zero 147 = some [.int .u64 0] ∧ tab.zero 155 = some [.int .u32 0] ∧ tab.zero 157 = some [.int .u64 0] ∧ tab.bool 4 = true ∧ tab.nilk 17 = some 0 ∧ tab.nilk 20 = some 4 ∧ tab.nilk 22 = some 1 ∧ tab.nilk 23 = some 1 ∧ tab.nilk 26 = some 1 ∧ tab.nilk 27 = some 1 ∧ tab.nilk 37 = some 3 ∧ tab.nilk 40 = some 1 ∧ tab.nilk 48 = some 0 ∧ tab.nilk 51 = some 0 ∧ tab.nilk 55 = some 1 ∧ tab.nilk 64 = some 3 ∧ tab.nilk 65 = some 3 ∧ tab.nilk 68 = some 0 ∧ tab.nilk 69 = some 0 ∧ tab.nilk 70 = some 1 ∧ tab.nilk 85 = some 3 ∧ tab.nilk 92 = some 2 ∧ tab.nilk 95 = some 3 ∧ tab.nilk 102 = some 3 ∧ tab.nilk 116 = some 3 ∧ tab.nilk 119 = some 3 ∧ tab.nilk 123 = some 3 ∧ tab.nilk 125 = some 3 ∧ tab.nilk 132 = some 0 ∧ tab.nilk 133 = some 1 ∧ tab.int 2 = some .i64 ∧ tab.int 3 = some .i64 ∧ tab.int 5 = some .u8 ∧ tab.int 12 = some .u64 ∧ tab.int 21 = some .i32 ∧ tab.int 31 = some .i64 ∧ tab.int 147 = some .u64 ∧ tab.int 155 = some .u32 ∧ tab.int 157 = some .u64 ∧ tab.map 92 = some (9, 3) ∧ tab.str 9 = true ∧ tab.one 2 = some (.int .i64 0) ∧ tab.one 3 = some (.int .i64 0) ∧ tab.one 4 = some (.bool false) ∧ tab.one 5 = some (.int .u8 0) ∧ tab.one 9 = some (.string ⟨#[]⟩) ∧ tab.one 12 = some (.int .u64 0) ∧ tab.one 17 = some (.pointer none) ∧ tab.one 20 = some (.nilIface) ∧ tab.one 21 = some (.int .i32 0) ∧ tab.one 22 = some (.slice none 0 0) ∧ tab.one 23 = some (.slice none 0 0) ∧ tab.one 26 = some (.slice none 0 0) ∧ tab.one 27 = some (.slice none 0 0) ∧ tab.one 31 = some (.int .i64 0) ∧ tab.one 37 = some (.nilFunc) ∧ tab.one 40 = some (.slice none 0 0) ∧ tab.one 48 = some (.pointer none) ∧ tab.one 51 = some (.pointer none) ∧ tab.one 55 = some (.slice none 0 0) ∧ tab.one 64 = some (.nilFunc) ∧ tab.one 65 = some (.nilFunc) ∧ tab.one 68 = some (.pointer none) ∧ tab.one 69 = some (.pointer none) ∧ tab.one 70 = some (.slice none 0 0) ∧ tab.one 85 = some (.nilFunc) ∧ tab.one 92 = some (.map none) ∧ tab.one 95 = some (.nilFunc) ∧ tab.one 102 = some (.nilFunc) ∧ tab.one 116 = some (.nilFunc) ∧ tab.one 119 = some (.nilFunc) ∧ tab.one 123 = some (.nilFunc) ∧ tab.one 125 = some (.nilFunc) ∧ tab.one 132 = some (.pointer none) ∧ tab.one 133 = some (.slice none 0 0) ∧ tab.one 147 = some (.int .u64 0) ∧ tab.one 155 = some (.int .u32 0) ∧ tab.one 157 = some (.int .u64 0) ∧ tab.one 13 = none ∧ tab.one 18 = none ∧ tab.one 24 = none ∧ tab.one 25 = none ∧ tab.one 29 = none ∧ tab.one 35 = none ∧ tab.one 42 = none ∧ tab.one 44 = none ∧ tab.one 53 = none ∧ tab.one 72 = none ∧ tab.one 74 = none ∧ tab.one 104 = none ∧ tab.one 118 = none ∧ tab.seq 35 = some [(9, 0), (9, 1)] ∧ tab.seq 104 = some [(3, 0), (3, 1), (4, 2), (2, 3), (3, 4), (9, 5)] ∧ tab.eff 0 = false ∧ tab.eff 1 = false ∧ tab.eff 2 = false ∧ tab.eff 3 = false ∧ tab.eff 4 = false ∧ tab.eff 5 = false ∧ tab.eff 6 = false ∧ tab.eff 7 = false ∧ tab.eff 8 = false ∧ tab.eff 9 = false ∧ tab.eff 10 = false ∧ tab.eff 11 = false ∧ tab.eff 12 = false ∧ tab.eff 13 = false ∧ tab.eff 14 = false ∧ tab.eff 15 = false ∧ tab.eff 16 = false ∧ tab.eff 17 = false ∧ tab.eff 18 = false ∧ tab.eff 19 = false ∧ tab.eff 20 = false ∧ tab.eff 21 = false ∧ tab.eff 22 = false ∧ tab.eff 23 = false ∧ tab.eff 24 = false ∧ tab.eff 25 = false ∧ tab.eff 26 = false ∧ tab.eff 27 = false ∧ tab.eff 28 = false ∧ tab.eff 29 = false ∧ tab.eff 30 = false ∧ tab.eff 31 = true ∧ tab.eff 32 = true ∧ tab.eff 33 = false ∧ tab.eff 34 = false ∧ tab.eff 35 = false ∧ tab.eff 36 = false ∧ tab.eff 37 = false ∧ tab.eff 38 = false ∧ tab.eff 39 = false ∧ tab.eff 40 = false ∧ tab.eff 41 = false ∧ tab.eff 42 = false ∧ tab.eff 43 = false ∧ tab.eff 44 = false ∧ tab.eff 45 = false ∧ tab.eff 46 = false ∧ tab.eff 47 = false ∧ tab.eff 48 = false ∧ tab.eff 49 = false ∧ tab.eff 50 = false ∧ tab.eff 51 = false ∧ tab.eff 52 = false ∧ tab.eff 53 = false ∧ tab.eff 54 = false ∧ tab.eff 55 = false ∧ tab.eff 56 = false ∧ tab.eff 57 = true ∧ tab.eff 58 = false ∧ tab.eff 59 = false ∧ tab.eff 60 = false ∧ tab.eff 61 = false ∧ tab.eff 62 = false ∧ tab.eff 63 = false ∧ tab.eff 64 = false ∧ tab.eff 65 = false ∧ tab.eff 66 = true ∧ tab.eff 67 = false ∧ tab.eff 68 = true ∧ tab.eff 69 = true ∧ tab.eff 70 = true ∧ tab.eff 71 = false ∧ tab.eff 72 = false ∧ tab.eff 73 = false ∧ tab.eff 74 = false ∧ tab.eff 75 = false ∧ tab.eff 76 = false ∧ tab.eff 77 = false ∧ tab.eff 78 = false ∧ tab.eff 79 = false ∧ tab.eff 80 = false ∧ tab.eff 81 = false ∧ tab.eff 82 = false ∧ tab.eff 83 = false ∧ tab.eff 84 = false ∧ tab.eff 85 = false ∧ tab.eff 86 = false ∧ tab.eff 87 = false ∧ tab.eff 88 = false ∧ tab.eff 89 = false ∧ tab.eff 90 = false ∧ tab.eff 91 = false ∧ tab.eff 92 = false ∧ tab.eff 93 = false ∧ tab.eff 94 = false ∧ tab.eff 95 = false ∧ tab.eff 96 = false ∧ tab.eff 97 = true ∧ tab.eff 98 = false ∧ tab.eff 99 = false ∧ tab.eff 100 = false ∧ tab.eff 101 = false ∧ tab.eff 102 = false ∧ tab.eff 103 = false ∧ tab.eff 104 = false ∧ tab.eff 105 = false ∧ tab.eff 106 = false ∧ tab.eff 107 = false ∧ tab.eff 108 = false ∧ tab.eff 109 = false ∧ tab.eff 110 = false ∧ tab.eff 111 = false ∧ tab.eff 112 = false ∧ tab.eff 113 = false ∧ tab.eff 114 = true ∧ tab.eff 115 = false ∧ tab.eff 116 = false ∧ tab.eff 117 = false ∧ tab.eff 118 = false ∧ tab.eff 119 = false ∧ tab.eff 120 = false ∧ tab.eff 121 = false ∧ tab.eff 122 = false ∧ tab.eff 123 = false ∧ tab.eff 124 = false ∧ tab.eff 125 = false ∧ tab.eff 126 = false ∧ tab.eff 127 = false ∧ tab.eff 128 = false ∧ tab.eff 129 = false ∧ tab.eff 130 = false ∧ tab.eff 131 = false ∧ tab.eff 132 = false ∧ tab.eff 133 = false ∧ tab.eff 134 = false ∧ tab.eff 135 = false ∧ tab.eff 136 = false ∧ tab.eff 137 = false ∧ tab.eff 138 = false ∧ tab.eff 139 = false ∧ tab.eff 140 = false ∧ tab.eff 141 = false ∧ tab.eff 142 = false ∧ tab.eff 143 = false ∧ tab.eff 144 = false ∧ tab.eff 145 = false ∧ tab.eff 146 = false ∧ tab.eff 147 = false ∧ tab.eff 148 = false ∧ tab.eff 149 = false ∧ tab.eff 150 = false ∧ tab.eff 151 = false ∧ tab.eff 152 = false ∧ tab.eff 153 = false ∧ tab.eff 154 = false ∧ tab.eff 155 = false ∧ tab.eff 156 = false ∧ tab.eff 157 = false ∧ tab.eff 158 = false ∧ tab.eff 159 = false ∧ tab.eff 160 = false ∧ tab.eff 161 = false ∧ tab.lit = false :=
 ⟨rfl, rfl, rfl, rfl, rfl, rfl, rfl, rfl, rfl, rfl, rfl, rfl, rfl, rfl, rfl, rfl, rfl, rfl, rfl, rfl, rfl, rfl, rfl, rfl, rfl, rfl, rfl, rfl, rfl, rfl, rfl, rfl, rfl, rfl, rfl, rfl, rfl, rfl, rfl, rfl, rfl, rfl, rfl, rfl, rfl, rfl, rfl, rfl, rfl, rfl, rfl, rfl, rfl, rfl, rfl, rfl, rfl, rfl, rfl, rfl, rfl, rfl, rfl, rfl, rfl, rfl, rfl, rfl, rfl, rfl, rfl, rfl, rfl, rfl, rfl, rfl, rfl, rfl, rfl, rfl, rfl, rfl, rfl, rfl, rfl, rfl, rfl, rfl, rfl, rfl, rfl, rfl, rfl, rfl, rfl, rfl, rfl, rfl, rfl, rfl, rfl, rfl, rfl, rfl, rfl, rfl, rfl, rfl, rfl, rfl, rfl, rfl, rfl, rfl, rfl, rfl, rfl, rfl, rfl, rfl, rfl, rfl, rfl, rfl, rfl, rfl, rfl, rfl, rfl, rfl, rfl, rfl, rfl, rfl, rfl, rfl, rfl, rfl, rfl, rfl, rfl, rfl, rfl, rfl, rfl, rfl, rfl, rfl, rfl, rfl, rfl, rfl, rfl, rfl, rfl, rfl, rfl, rfl, rfl, rfl, rfl, rfl, rfl, rfl, rfl, rfl, rfl, rfl, rfl, rfl, rfl, rfl, rfl, rfl, rfl, rfl, rfl, rfl, rfl, rfl, rfl, rfl, rfl, rfl, rfl, rfl, rfl, rfl, rfl, rfl, rfl, rfl, rfl, rfl, rfl, rfl, rfl, rfl, rfl, rfl, rfl, rfl, rfl, rfl, rfl, rfl, rfl, rfl, rfl, rfl, rfl, rfl, rfl, rfl, rfl, rfl, rfl, rfl, rfl, rfl, rfl, rfl, rfl, rfl, rfl, rfl, rfl, rfl, rfl, rfl, rfl, rfl, rfl, rfl, rfl, rfl, rfl, rfl, rfl, rfl, rfl, rfl, rfl, rfl, rfl, rfl, rfl, rfl, rfl, rfl, rfl, rfl, rfl, rfl, rfl, rfl, rfl, rfl, rfl, rfl, rfl, rfl, rfl, rfl, rfl, rfl, rfl, rfl, rfl, rfl, rfl, rfl, rfl, rfl, rfl, rfl, rfl, rfl, rfl, rfl, rfl, rfl, rfl, rfl, rfl, rfl, rfl, rfl, rfl, rfl, rfl, rfl, rfl, rfl, rfl, rfl, rfl, rfl, rfl, rfl, rfl, rfl, rfl, rfl, rfl, rfl, rfl, rfl, rfl, rfl, rfl, rfl, rfl, rfl, rfl, rfl, rfl, rfl, rfl, rfl, rfl, rfl, rfl, rfl, rfl, rfl, rfl, rfl, rfl, rfl, rfl, rfl, rfl, rfl, rfl, rfl, rfl, rfl, rfl, rfl, rfl, rfl, rfl, rfl, rfl, rfl, rfl, rfl, rfl, rfl, rfl, rfl, rfl, rfl, rfl, rfl, rfl, rfl, rfl, rfl, rfl, rfl, rfl, rfl, rfl, rfl, rfl, rfl, rfl, rfl, rfl, rfl, rfl, rfl, rfl, rfl, rfl, rfl, rfl, rfl, rfl, rfl, rfl, rfl, rfl, rfl, rfl, rfl, rfl, rfl, rfl, rfl, rfl, rfl, rfl, rfl, rfl, rfl, rfl, rfl, rfl, rfl, rfl, rfl, rfl, rfl, rfl, rfl, rfl, rfl, rfl, rfl, rfl, rfl, rfl, rfl, rfl, rfl, rfl, rfl, rfl, rfl, rfl, rfl⟩
theorem aF : Tryz.prog.follows .mixedOrders = true := by kernel_rfl
end V
end Go.Proofs.YthhpcjoaogmhbaaGreatDoor
end
