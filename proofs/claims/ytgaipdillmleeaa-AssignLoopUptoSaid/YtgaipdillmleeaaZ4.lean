/- Joined by my own program, in build order: Vi, Top2, Vj, Vq, Vmap, Vnm, AP, Clone, Frz, Veff, Vnk, Vnil, Frzb, Rwb, OwnE, Ask, Ask2, RA. -/
import Derived.Test.YtgaipdillmleeaaZ3
import Derived.Shelf.Abstract
import Derived.Test.YtgaipdillmleeaaRows
import Derived.ProofKit
import Derived.OpenShut
import Derived.HandedShaped
import Derived.Deep.DeepHandedRow
import Derived.LaidLaws
import Derived.Test.YtgaipdillmleeaaZ1
import Derived.Maps.AppendAt
set_option linter.unusedVariables false
set_option linter.unusedSimpArgs false
section
/- Straight code, carried out on plain data. -/
namespace Go.Proofs.Ytgaipdillmleeaa
namespace V
open Go.RowKit

def stepQ (T : Tab) (base : Nat) (ops : Array Oper) (o : Oper) (st : St) : Option St :=
  match wantA ops o st.s with
  | some true => (match kind T o.op with
    | .store => (match o.op with
      | .store ty x v => (match adrId (ev st.s x), o.dst with
        | some j, none => (match st.m j with
          | some b => (match stO T ty (ev st.s x) (ev st.s v) b with | some b' => some ⟨st.s, upd st.m j (some b')⟩ | none => none)
          | none => none)
        | _, _ => none)
      | _ => none)
    | .barrier => none
    | _ => (match o.dst with
      | some d => (match qv T st.s st.m (base + d) o.op with
        | some (r, none) => some ⟨upd st.s d r, st.m⟩
        | some (r, some x) => (match st.m (base + d) with | none => some ⟨upd st.s d r, upd st.m (base + d) (some x)⟩ | some _ => none)
        | none => none)
      | none => none))
  | some false => (match o.dst with | some d => some ⟨upd st.s d .undef, st.m⟩ | none => some st)
  | none => none
def exec (T : Tab) (base : Nat) (ops : Array Oper) : List Oper → St → Option St
  | [], st => some st
  | o :: l, st => match stepQ T base ops o st with | some st1 => exec T base ops l st1 | none => none
section
variable {P : Go.Program} {T : Tab} {kp : Nat → Prop} {base : Nat} {ops : Array Oper}
theorem stepQ_hs {o : Oper} {st st' : St} (h : stepQ T base ops o st = some st') : HS P T kp base ops o st st' := by
  unfold stepQ at h
  split at h
  · rename_i hw
    split at h
    · split at h
      · rename_i ty x v hop
        split at h
        · rename_i j hx hd
          split at h
          · rename_i b hj
            split at h
            · rename_i b' hn
              cases h
              exact .store ⟨hw, hop, hd, hx, hj, hn⟩
            · cases h
          · cases h
        · cases h
      · cases h
    · cases h
    · split at h
      · rename_i d hd
        have hid : idOf base o = base + d := by simp [idOf, hd]
        split at h
        · rename_i r hq
          cases h
          have := HS.val (P := P) (T := T) (kp := kp) (HV.val (base := base) hw (by rw [hid]; exact hq) (fun h => by cases h) (fun h => by cases h))
          rw [hd] at this
          exact this
        · rename_i r x hq
          split at h
          · rename_i hm
            cases h
            have := HS.val (P := P) (T := T) (kp := kp) (HV.val (base := base) hw (by rw [hid]; exact hq) (fun _ => by rw [hid]; exact hm) (fun _ => by rw [hd]; rfl))
            rw [hd, hid] at this
            exact this
          · cases h
        · cases h
      · cases h
  · rename_i hw
    have := HS.val (P := P) (T := T) (base := base) (kp := kp) (HV.skip hw)
    split at h
    · rename_i d hd
      cases h
      rw [hd] at this
      exact this
    · rename_i hd
      cases h
      rw [hd] at this
      exact this
  · cases h
theorem exec_run : ∀ {l : List Oper} {st st' : St}, exec T base ops l st = some st' → RunL P T kp base ops l st st'
  | [], st, st', h => by simp [exec] at h; subst h; exact .nil _
  | o :: l, st, st', h => by
    simp only [exec] at h
    split at h
    · rename_i st1 h1
      exact .cons (stepQ_hs h1) (exec_run h)
    · cases h
theorem RunL.append {l1 l2 : List Oper} {st st1 st2 : St} (h : RunL P T kp base ops l1 st st1) (k : RunL P T kp base ops l2 st1 st2) : RunL P T kp base ops (l1 ++ l2) st st2 := by
  induction h with
  | nil => exact k
  | cons h _ ih => exact .cons h (ih k)
/-- Some operations, a call, the rest. -/
theorem run_split {l : List Oper} {st st1 st2 : St} (i : Nat) (h : exec T base ops (l.take i) st = some st1) (k : RunL P T kp base ops (l.drop i) st1 st2) : RunL P T kp base ops l st st2 := by
  have := (exec_run (P := P) (kp := kp) h).append k
  rwa [List.take_append_drop] at this
/-- A run of some operations, and what follows. -/
def RunK (P : Go.Program) (T : Tab) (kp : Nat → Prop) (base : Nat) (ops : Array Oper) (l : List Oper) (st : St) (k : St → Prop) : Prop := ∃ st', RunL P T kp base ops l st st' ∧ k st'
theorem runk_exec {l : List Oper} {st st' : St} {k : St → Prop} (h : exec T base ops l st = some st') (hk : k st') : RunK P T kp base ops l st k := ⟨st', exec_run h, hk⟩
theorem runk_split {l : List Oper} {st st1 : St} {k : St → Prop} (i : Nat) (h : exec T base ops (l.take i) st = some st1) (hk : RunK P T kp base ops (l.drop i) st1 k) : RunK P T kp base ops l st k :=
  let ⟨st', h1, h2⟩ := hk
  ⟨st', run_split i h h1, h2⟩
theorem runk_step {o : Oper} {l : List Oper} {st st1 : St} {k : St → Prop} (h : HS P T kp base ops o st st1) (ht : RunK P T kp base ops l st1 k) : RunK P T kp base ops (o :: l) st k :=
  let ⟨st', h1, h2⟩ := ht
  ⟨st', .cons h h1, h2⟩
theorem runk_call {o : Oper} {l : List Oper} {st : St} {k : St → Prop} {r : A} {c : Call} {x : Operand} {f : FuncId} {ids : List Nat} {args : List A} {d : Nat} (h : wantA ops o st.s = some true) (hop : o.op = .call c) (hc : c.callee = .value x) (hx : ev st.s x = .fn f ids) (hd : o.dst = some d) (hb : ∀ j ∈ ids, ∃ ty cells, st.m j = some (.box ty cells))
    (ha : Cvs st.m (c.args.toList.map (ev st.s) ++ ids.map (A.ptr · 0)) args) (hk : COk P f args st.m r) (ht : RunK P T kp base ops l ⟨upd st.s d r, st.m⟩ k) : RunK P T kp base ops (o :: l) st k := by
  refine runk_step (st1 := ⟨upd st.s d r, st.m⟩) ?_ ht
  have := HS.val (P := P) (T := T) (base := base) (ops := ops) (o := o) (kp := kp) (HV.call h hop hc hx hb ha hk)
  rw [hd] at this
  exact this
/-- A call of a closure over cells that do not change. -/
theorem runk_callF {o : Oper} {l : List Oper} {st : St} {k : St → Prop} {r : A} {c : Call} {x : Operand} {f : FuncId} {caps : List (List C)} {args : List A} {d : Nat} (h : wantA ops o st.s = some true) (hop : o.op = .call c) (hc : c.callee = .value x) (hx : ev st.s x = .fnR f caps) (hd : o.dst = some d)
    (ha : Cvs st.m (c.args.toList.map (ev st.s) ++ caps.map A.rptr) args) (hk : COk P f args st.m r) (ht : RunK P T kp base ops l ⟨upd st.s d r, st.m⟩ k) : RunK P T kp base ops (o :: l) st k := by
  refine runk_step (st1 := ⟨upd st.s d r, st.m⟩) ?_ ht
  have := HS.val (P := P) (T := T) (base := base) (ops := ops) (o := o) (kp := kp) (HV.callF h hop hc hx ha hk)
  rw [hd] at this
  exact this
/-- A call to which boxes are lent. -/
theorem runk_callR {o : Oper} {l : List Oper} {st : St} {k : St → Prop} {r : A} {c : Call} {x : Operand} {f : FuncId} {ids : List Nat} {args : List A} {d : Nat} (h : wantA ops o st.s = some true) (hop : o.op = .call c) (hc : c.callee = .value x) (hx : ev st.s x = .fn f ids) (hd : o.dst = some d) (hb : ∀ j ∈ ids, ∃ ty cells, st.m j = some (.box ty cells))
    (ha : CvRs st.m (c.args.toList.map (ev st.s) ++ ids.map (A.ptr · 0)) args) (hi : args.all (fun a => a.ids.isEmpty) = true) (hf : flatA r = true) (hk : ∀ m, COk P f args m r) (ht : RunK P T kp base ops l ⟨upd st.s d r, st.m⟩ k) : RunK P T kp base ops (o :: l) st k := by
  refine runk_step (st1 := ⟨upd st.s d r, st.m⟩) ?_ ht
  have := HS.val (P := P) (T := T) (base := base) (ops := ops) (o := o) (kp := kp) (HV.callR h hop hc hx hb ha (fun a ha => by have := List.all_eq_true.1 hi a ha; simpa using this) hf hk)
  rw [hd] at this
  exact this
/-- A call that turns pieces of its caller's. -/
theorem runk_callE {o : Oper} {l : List Oper} {st : St} {k : St → Prop} {r : A} {c : Call} {x : Operand} {f : FuncId} {ids : List Nat} {args : List A} {D : List Nat} {M' : Mem} (h : wantA ops o st.s = some true) (hop : o.op = .call c) (hc : c.callee = .value x) (hbar : kind T o.op = .barrier) (hx : ev st.s x = .fn f ids) (hkp : ∀ j ∈ D, ¬ kp j) (hb : ∀ j ∈ ids, ∃ ty cells, st.m j = some (.box ty cells))
    (ha : Cvs st.m (c.args.toList.map (ev st.s) ++ ids.map (A.ptr · 0)) args) (hk : CallE P f args st.m D r M') (ht : RunK P T kp base ops l ⟨putS (killL D st.s) o.dst r, M'⟩ k) : RunK P T kp base ops (o :: l) st k :=
  runk_step (.eff (eff_call hkp hbar h hop hc hx hb ha hk)) ht
/-- .. with no piece that gets another value. -/
theorem runk_call0 {o : Oper} {l : List Oper} {st : St} {k : St → Prop} {r : A} {c : Call} {x : Operand} {f : FuncId} {ids : List Nat} {args : List A} {M' : Mem} {d : Nat} (h : wantA ops o st.s = some true) (hop : o.op = .call c) (hc : c.callee = .value x) (hbar : kind T o.op = .barrier) (hx : ev st.s x = .fn f ids) (hd : o.dst = some d) (hb : ∀ j ∈ ids, ∃ ty cells, st.m j = some (.box ty cells))
    (ha : Cvs st.m (c.args.toList.map (ev st.s) ++ ids.map (A.ptr · 0)) args) (hk : CallE P f args st.m [] r M') (ht : RunK P T kp base ops l ⟨upd st.s d r, M'⟩ k) : RunK P T kp base ops (o :: l) st k :=
  runk_callE (D := []) h hop hc hbar hx (fun j hj => by simp at hj) hb ha hk (by rw [hd]; exact ht)
theorem app_small {n b : Nat} (h : n * b ≤ 140737488355328) (h0 : 0 < b) : n ≤ maxLen := by
  have : n * 1 ≤ n * b := Nat.mul_le_mul_left _ h0
  unfold maxLen; omega
theorem runk_appendG (hT : T.Ok P) {o : Oper} {l : List Oper} {st : St} {k : St → Prop} {c : Call} {x y : Operand} {t d : Nat} (id : Nat) {e n b : Nat} (fz : Bool) {zs : List Value} {xs ys : List (List C)} (h : wantA ops o st.s = some true) (hop : o.op = .call c) (hc : c.callee = .builtin .append) (ha : c.args = #[x, y]) (ht : c.argTypes = #[t, t]) (hd : o.dst = some d)
    (hx : ev st.s x = .own id) (hm : st.m id = some (rowO fz e n xs)) (hy : asC st.m (ev st.s y) = some (.sl ys)) (h1 : T.elem t = some (e, n)) (h2 : T.bytes e = some b) (h3 : T.zero e = some zs) (h4 : zs.length = n) (hkp : ¬ kp id) (hl : ∀ z ∈ ys, z.length = n) (hb : (xs.length + ys.length) * b ≤ 140737488355328) (hb0 : 0 < b)
    (ht2 : RunK P T kp base ops l ⟨upd (killS id st.s) d (.own id), upd (killM id st.m) id (some (rowO fz e n (xs ++ ys)))⟩ k) : RunK P T kp base ops (o :: l) st k :=
  runk_step (.eff (eff_append hT hkp ⟨h, hop, hc, ha, ht, hd, hx, hm, hy, h1, h2, h3, h4, hl, hb, app_small hb hb0⟩)) ht2
/-- An append onto a row of the call's own that only grows. -/
theorem runk_append (hT : T.Ok P) {o : Oper} {l : List Oper} {st : St} {k : St → Prop} {c : Call} {x y : Operand} {t d : Nat} (id : Nat) {e n b : Nat} {zs : List Value} {xs ys : List (List C)} (h : wantA ops o st.s = some true) (hop : o.op = .call c) (hc : c.callee = .builtin .append) (ha : c.args = #[x, y]) (ht : c.argTypes = #[t, t]) (hd : o.dst = some d)
    (hx : ev st.s x = .own id) (hm : st.m id = some (.arr e n xs)) (hy : asC st.m (ev st.s y) = some (.sl ys)) (h1 : T.elem t = some (e, n)) (h2 : T.bytes e = some b) (h3 : T.zero e = some zs) (h4 : zs.length = n) (hkp : ¬ kp id) (hl : ∀ z ∈ ys, z.length = n) (hb : (xs.length + ys.length) * b ≤ 140737488355328) (hb0 : 0 < b)
    (ht2 : RunK P T kp base ops l ⟨upd (killS id st.s) d (.own id), upd (killM id st.m) id (some (.arr e n (xs ++ ys)))⟩ k) : RunK P T kp base ops (o :: l) st k :=
  runk_appendG hT id true h hop hc ha ht hd hx hm hy h1 h2 h3 h4 hkp hl hb hb0 ht2
/-- .. that may be written, too. -/
theorem runk_appendM (hT : T.Ok P) {o : Oper} {l : List Oper} {st : St} {k : St → Prop} {c : Call} {x y : Operand} {t d : Nat} (id : Nat) {e n b : Nat} {zs : List Value} {xs ys : List (List C)} (h : wantA ops o st.s = some true) (hop : o.op = .call c) (hc : c.callee = .builtin .append) (ha : c.args = #[x, y]) (ht : c.argTypes = #[t, t]) (hd : o.dst = some d)
    (hx : ev st.s x = .own id) (hm : st.m id = some (.mrow e n xs)) (hy : asC st.m (ev st.s y) = some (.sl ys)) (h1 : T.elem t = some (e, n)) (h2 : T.bytes e = some b) (h3 : T.zero e = some zs) (h4 : zs.length = n) (hkp : ¬ kp id) (hl : ∀ z ∈ ys, z.length = n) (hb : (xs.length + ys.length) * b ≤ 140737488355328) (hb0 : 0 < b)
    (ht2 : RunK P T kp base ops l ⟨upd (killS id st.s) d (.own id), upd (killM id st.m) id (some (.mrow e n (xs ++ ys)))⟩ k) : RunK P T kp base ops (o :: l) st k :=
  runk_appendG hT id false h hop hc ha ht hd hx hm hy h1 h2 h3 h4 hkp hl hb hb0 ht2
theorem W.regionK {R : Ref} {n : Nat} {ds : List Deferred} {st : St} {K : Exit → St → Prop} (hT : T.Ok P) (base : Nat) {id : Nat} (hd : dstOk n ops = true) (h : RunK P T R.keep base ops ops.toList st (K .normal)) : W P R n ds st (.region id ops false) K :=
  let ⟨_, h1, h2⟩ := h
  W.region hT base hd h1 h2
theorem W.regionDK {R : Ref} {n : Nat} {ds : List Deferred} {st : St} {K : Exit → St → Prop} (hT : T.Ok P) (base : Nat) {id : Nat} (hm : P.follows .mixedOrders = true) (hok : okRegion T ops = true) (hd : dstOk n ops = true) (h : RunK P T R.keep base ops ops.toList st (K .normal)) : W P R n ds st (.region id ops true) K :=
  let ⟨_, h1, h2⟩ := h
  W.regionD hT base hm hok hd h1 h2
/-- A nil slice that is about to grow gets a name. -/
theorem W.newRow {R : Ref} {n : Nat} {ds : List Deferred} {st : St} {c : Code} {K : Exit → St → Prop} (fz : Bool) (t id ty e : Nat) (ht : st.s t = .nil) (hid : st.m id = none) (h : W P R n ds ⟨upd st.s t (.own id), upd st.m id (some (rowO fz ty e []))⟩ c K) : W P R n ds st c K := by
  intro a w hr
  refine h a w ?_
  obtain ⟨⟨B, I, hm, hx0, hkp, hs⟩, h2, h3, hnn, h4, h5⟩ := hr
  have hne : ∀ j, (st.m j).isSome = true → j ≠ id := fun j hj e' => by subst e'; rw [hid] at hj; cases hj
  have hB : ∀ j, (st.m j).isSome = true → upd B id (.slice none 0 0) j = B j := fun j hj => upd_ne _ _ (hne j hj)
  have liv : ∀ j, (st.m j).isSome = true → (upd st.m id (some (rowO fz ty e [])) j).isSome = true := fun j hj => by rw [upd_ne _ _ (hne j hj)]; exact hj
  have other : ∀ {j : Nat} {z : O}, upd st.m id (some (rowO fz ty e [])) j = some z → (j = id ∧ z = rowO fz ty e []) ∨ (j ≠ id ∧ st.m j = some z) := fun {j z} hz => by
    unfold upd at hz
    split at hz
    · rename_i e'; exact .inl ⟨e', (Option.some.inj hz).symm⟩
    · rename_i e'; exact .inr ⟨e', hz⟩
  have nofoot : ∀ {k : Nat}, ¬ foot (upd B id (.slice none 0 0)) id (rowO fz ty e []) k := fun {k} hk => by cases fz <;> simp [rowO, foot, upd_same, Value.ownBlock] at hk
  have live : ∀ {j : Nat} {z : O}, st.m j = some z → (st.m j).isSome = true := fun {j z} hj => by simp [hj]
  refine ⟨⟨upd B id (.slice none 0 0), I, ⟨hm.below, hm.glob, hm.base, hm.old, hm.there, fun j z hz => ?_, fun j z hz k hk => ?_, fun j z j' z' hz hz' hne' k hk hk' => ?_, fun j z hz i hi => ?_⟩, hx0, fun j hj => (hB j (h5 j hj)).trans (hkp j hj), fun u => ?_⟩, fun u j hj => ?_, h3, hnn, ?_, fun j hj => liv j (h5 j hj)⟩
  · rcases other hz with ⟨rfl, rfl⟩ | ⟨hj, ho⟩
    · cases fz with
      | true => exact ⟨[], by rw [upd_same]; exact World.ownsRow_nil w 0 ty e, trivial, fun x hx => by simp at hx, fun b hb => by simp [upd_same, Value.ownBlock] at hb⟩
      | false => exact ⟨[], by rw [upd_same]; exact ⟨by simp, .inl ⟨rfl, rfl⟩⟩, trivial, fun x hx => by simp at hx, fun b hb => by simp [upd_same, Value.ownBlock] at hb⟩
    · exact RO.mono (Ext.refl _ _) (hB j (live ho)) (fun i hi => hB i (hm.live j z ho i hi)) (fun _ _ => rfl) (fun _ _ _ hp => hp) (hm.objs j z ho)
  · rcases other hz with ⟨rfl, rfl⟩ | ⟨hj, ho⟩
    · exact absurd hk nofoot
    · exact hm.low j z ho k ((foot_eq (hB j (live ho))).1 hk)
  · rcases other hz with ⟨rfl, rfl⟩ | ⟨hj, ho⟩
    · exact nofoot hk
    · rcases other hz' with ⟨rfl, rfl⟩ | ⟨hj', ho'⟩
      · exact nofoot hk'
      · exact hm.apart j z j' z' ho ho' hne' k ((foot_eq (hB j (live ho))).1 hk) ((foot_eq (hB j' (live ho'))).1 hk')
  · rcases other hz with ⟨rfl, rfl⟩ | ⟨hj, ho⟩
    · cases fz <;> simp [rowO, O.ids] at hi
    · exact liv i (hm.live j z ho i hi)
  · show RV _ _ _ (upd st.s t (A.own id) u) _
    by_cases hu : u = t
    · subst hu
      rw [upd_same]
      have := hs u
      rw [ht] at this
      exact ⟨this.trans (upd_same ..).symm, none, 0, 0, this⟩
    · rw [upd_ne _ _ hu]
      exact (hs u).mono (Ext.refl _ _) fun j hj => hB j (h2 u j hj)
  · replace hj : j ∈ (upd st.s t (A.own id) u).ids := hj
    show (upd st.m id (some (rowO fz ty e [])) j).isSome = true
    by_cases hu : u = t
    · subst hu
      rw [upd_same] at hj
      simp [A.ids] at hj
      subst hj
      simp [upd_same]
    · rw [upd_ne _ _ hu] at hj
      exact liv j (h2 u j hj)
  · show _ = dfs (upd st.s t (A.own id) DID) ++ ds
    by_cases hu : DID = t
    · have : dfs (st.s DID) = [] := by rw [hu, ht]; rfl
      rw [h4, this, hu, upd_same]; rfl
    · rw [upd_ne _ _ hu]; exact h4
theorem MR.newNil {w0 w : World} {I0 I : Nat → Nat → Prop} {B : Nat → Value} {m : Mem} (hm : MR w0 I0 B I m w) {id : Nat} (hid : m id = none) (fz : Bool) (ty e : Nat) : MR w0 I0 (upd B id (.slice none 0 0)) I (upd m id (some (rowO fz ty e []))) w := by
  have hne : ∀ j, (m j).isSome = true → j ≠ id := fun j hj e' => by subst e'; rw [hid] at hj; cases hj
  have hB : ∀ j, (m j).isSome = true → upd B id (.slice none 0 0) j = B j := fun j hj => upd_ne _ _ (hne j hj)
  have liv : ∀ j, (m j).isSome = true → (upd m id (some (rowO fz ty e [])) j).isSome = true := fun j hj => by rw [upd_ne _ _ (hne j hj)]; exact hj
  have other : ∀ {j : Nat} {z : O}, upd m id (some (rowO fz ty e [])) j = some z → (j = id ∧ z = rowO fz ty e []) ∨ (j ≠ id ∧ m j = some z) := fun {j z} hz => by
    unfold upd at hz
    split at hz
    · rename_i e'; exact .inl ⟨e', (Option.some.inj hz).symm⟩
    · rename_i e'; exact .inr ⟨e', hz⟩
  have nofoot : ∀ {k : Nat}, ¬ foot (upd B id (.slice none 0 0)) id (rowO fz ty e []) k := fun {k} hk => by cases fz <;> simp [rowO, foot, upd_same, Value.ownBlock] at hk
  have live : ∀ {j : Nat} {z : O}, m j = some z → (m j).isSome = true := fun {j z} hj => by simp [hj]
  refine ⟨hm.below, hm.glob, hm.base, hm.old, hm.there, fun j z hz => ?_, fun j z hz k hk => ?_, fun j z j' z' hz hz' hne' k hk hk' => ?_, fun j z hz i hi => ?_⟩
  · rcases other hz with ⟨rfl, rfl⟩ | ⟨hj, ho⟩
    · cases fz with
      | true => exact ⟨[], by rw [upd_same]; exact World.ownsRow_nil w 0 ty e, trivial, fun x hx => by simp at hx, fun b hb => by simp [upd_same, Value.ownBlock] at hb⟩
      | false => exact ⟨[], by rw [upd_same]; exact ⟨by simp, .inl ⟨rfl, rfl⟩⟩, trivial, fun x hx => by simp at hx, fun b hb => by simp [upd_same, Value.ownBlock] at hb⟩
    · exact RO.mono (Ext.refl _ _) (hB j (live ho)) (fun i hi => hB i (hm.live j z ho i hi)) (fun _ _ => rfl) (fun _ _ _ hp => hp) (hm.objs j z ho)
  · rcases other hz with ⟨rfl, rfl⟩ | ⟨hj, ho⟩
    · exact absurd hk nofoot
    · exact hm.low j z ho k ((foot_eq (hB j (live ho))).1 hk)
  · rcases other hz with ⟨rfl, rfl⟩ | ⟨hj, ho⟩
    · exact nofoot hk
    · rcases other hz' with ⟨rfl, rfl⟩ | ⟨hj', ho'⟩
      · exact nofoot hk'
      · exact hm.apart j z j' z' ho ho' hne' k ((foot_eq (hB j (live ho))).1 hk) ((foot_eq (hB j' (live ho'))).1 hk')
  · rcases other hz with ⟨rfl, rfl⟩ | ⟨hj, ho⟩
    · cases fz <;> simp [rowO, O.ids] at hi
    · exact liv i (hm.live j z ho i hi)
/-- A nil slice in a box that is about to grow gets a name. -/
theorem W.newRowBox {R : Ref} {n : Nat} {ds : List Deferred} {st : St} {c : Code} {K : Exit → St → Prop} (fz : Bool) (j k id ty e : Nat) {tyb : TypeId} {cells : List A} (hj : st.m j = some (.box tyb cells)) (hk : cells[k]? = some .nil) (hid : st.m id = none)
    (h : W P R n ds ⟨st.s, upd (upd st.m id (some (rowO fz ty e []))) j (some (.box tyb (cells.set k (.own id))))⟩ c K) : W P R n ds st c K := by
  intro a w hr
  refine h a w ?_
  obtain ⟨⟨B, I, hm, hx0, hkp, hs⟩, h2, h3, hnn, h4, h5⟩ := hr
  have hne : ∀ i, (st.m i).isSome = true → i ≠ id := fun i hi e' => by subst e'; rw [hid] at hi; cases hi
  have hB : ∀ i, (st.m i).isSome = true → upd B id (.slice none 0 0) i = B i := fun i hi => upd_ne _ _ (hne i hi)
  have hm1 := hm.newNil hid fz ty e
  have hj1 : upd st.m id (some (rowO fz ty e [])) j = some (.box tyb cells) := by rw [upd_ne _ _ (hne j (by simp [hj]))]; exact hj
  obtain ⟨b, vs, e1, e2, e3, e4⟩ := hm1.objs j _ hj1
  have liv : ∀ i, (st.m i).isSome = true → (upd (upd st.m id (some (rowO fz ty e []))) j (some (.box tyb (cells.set k (.own id)))) i).isSome = true := fun i hi => by
    unfold upd; split
    · rfl
    · split
      · rfl
      · exact hi
  have hm2 := hm1.turn (o' := .box tyb (cells.set k (.own id))) hj1 ⟨0, e1⟩ (fun q hq => by obtain ⟨off, hq⟩ := hq; rw [e1] at hq; cases hq; rfl) e4 rfl rfl rfl rfl (fun _ _ => rfl) (fun i hi => by
    obtain ⟨a', ha', hi'⟩ := List.mem_flatMap.1 hi
    rcases List.mem_or_eq_of_mem_set ha' with ha' | rfl
    · exact hm1.live j _ hj1 i (List.mem_flatMap.2 ⟨a', ha', hi'⟩)
    · simp [A.ids] at hi'; subst hi'; rw [upd_same]; rfl) (fun _ => by
    refine ⟨b, vs, e1, e2, ?_, e4⟩
    have hl := e3.length
    refine RVs.of (by rw [List.length_set]; exact hl) fun q a' v' ha' hv' => ?_
    rw [List.getElem?_set] at ha'
    split at ha'
    · rename_i hq
      subst hq
      split at ha'
      · cases ha'
        obtain ⟨v2, q1, q2, q3⟩ := e3.at k _ hk
        rw [hv'] at q1; cases q1
        have hv : v' = .slice none 0 0 := q2
        exact ⟨⟨hv.trans (upd_same ..).symm, none, 0, 0, hv⟩, q3⟩
      · cases ha'
    · obtain ⟨v2, q1, q2, q3⟩ := e3.at q _ ha'
      rw [hv'] at q1; cases q1
      exact ⟨q2, q3⟩)
  exact ⟨⟨_, I, hm2.1, hx0, fun i hi => (hB i (h5 i hi)).trans (hkp i hi), fun t => (hs t).mono (Ext.refl _ _) fun i hi => hB i (h2 t i hi)⟩, fun t i hi => liv i (h2 t i hi), h3, hnn, h4, fun i hi => liv i (h5 i hi)⟩
theorem W.newArr {R : Ref} {n : Nat} {ds : List Deferred} {st : St} {c : Code} {K : Exit → St → Prop} (t id ty e : Nat) (ht : st.s t = .nil) (hid : st.m id = none) (h : W P R n ds ⟨upd st.s t (.own id), upd st.m id (some (.arr ty e []))⟩ c K) : W P R n ds st c K := W.newRow true t id ty e ht hid h
theorem W.newM {R : Ref} {n : Nat} {ds : List Deferred} {st : St} {c : Code} {K : Exit → St → Prop} (t id ty e : Nat) (ht : st.s t = .nil) (hid : st.m id = none) (h : W P R n ds ⟨upd st.s t (.own id), upd st.m id (some (.mrow ty e []))⟩ c K) : W P R n ds st c K := W.newRow false t id ty e ht hid h
end
theorem ybeq_some (a b : Bool) : (some a == some b) = (a == b) := rfl
theorem beqT (b : Bool) : (b == true) = b := by cases b <;> rfl
theorem beqF (b : Bool) : (b == false) = !b := by cases b <;> rfl
theorem ybeq_none (b : Bool) : ((none : Option Bool) == some b) = false := rfl
theorem empty_toList : (⟨#[]⟩ : ByteArray).toList = [] := by
  unfold ByteArray.toList ByteArray.toList.loop
  rfl
theorem int_pred (j : Nat) : (((j + 1 : Nat) : Int) - 1) = (j : Int) := by omega
theorem upd_app {α : Type} (f : Nat → α) (t : Nat) (x : α) (u : Nat) : upd f t x u = if u = t then x else f u := rfl
theorem entry_zero (a : A) (l : List A) : entry (a :: l) 0 = a := rfl
theorem entry_succ (a : A) (l : List A) (n : Nat) : entry (a :: l) (n + 1) = entry l n := rfl
theorem entry_nil (n : Nat) : entry [] n = .undef := by simp [entry]
theorem cvs_nil {m : Mem} : Cvs m [] [] := trivial
theorem cvs_cons {m : Mem} {a a' : A} {l l' : List A} (h : Cv m a a') (k : Cvs m l l') : Cvs m (a :: l) (a' :: l') := ⟨h, k⟩
theorem cv_refl {m : Mem} {a : A} : Cv m a a := .inl rfl
theorem cvrs_nil {m : Mem} : CvRs m [] [] := trivial
theorem cvrs_cons {m : Mem} {a a' : A} {l l' : List A} (h : CvR m a a') (k : CvRs m l l') : CvRs m (a :: l) (a' :: l') := ⟨h, k⟩
theorem cvr_refl {m : Mem} {a : A} : CvR m a a := .inl (.inl rfl)
theorem cvr_cv {m : Mem} {a a' : A} (h : Cv m a a') : CvR m a a' := .inl h
theorem cvr_ptr {m : Mem} {j : Nat} {ty : TypeId} {cells : List A} {xs : List C} (hj : m j = some (.box ty cells)) (hx : asLs m cells = some xs) : CvR m (.ptr j 0) (.rptr xs) := .inr (.inl ⟨j, ty, cells, xs, rfl, hj, hx, rfl⟩)
theorem cvr_fn {m : Mem} {f : FuncId} {ids : List Nat} {caps : List (List C)} (h : capsOf m ids = some caps) : CvR m (.fn f ids) (.fnR f caps) := .inr (.inr (.inl ⟨f, ids, caps, rfl, h, rfl⟩))
theorem cvr_row {m : Mem} {j : Nat} {ty : TypeId} {e : Nat} {xs : List (List C)} (hj : m j = some (.mrow ty e xs)) : CvR m (.own j) (.c (.sl xs)) := .inr (.inr (.inr ⟨j, ty, e, xs, rfl, hj, rfl⟩))
theorem caps_one {m : Mem} {j : Nat} {ty : TypeId} {cells : List A} {xs : List C} (hj : m j = some (.box ty cells)) (hx : asCs m cells = some xs) : capsOf m [j] = some [xs] := by simp [capsOf, hj, hx]
theorem cv_nil {m : Mem} : Cv m .nil (.c (.sl [])) := .inr (.inr ⟨_, rfl, rfl⟩)
theorem cv_own {m : Mem} {id ty e : Nat} {xs : List (List C)} (h : m id = some (.arr ty e xs)) : Cv m (.own id) (.c (.sl xs)) := .inr (.inr ⟨_, by simp [asC, h], rfl⟩)
theorem mem_nil_app (j : Nat) : Mem.nil j = none := rfl
theorem top_app (t : Nat) : (fun _ : Nat => A.top) t = .top := rfl
/-- Less told of a state, slot by slot. -/
def SLe (s s' : Nat → A) : Prop := ∀ t, s' t = .top ∨ s' t = s t
def MLe (m m' : Mem) : Prop := ∀ j, m' j = none ∨ m' j = m j
theorem sle_top (s : Nat → A) : SLe s (fun _ => .top) := fun _ => .inl rfl
theorem sle_refl (s : Nat → A) : SLe s s := fun _ => .inr rfl
theorem sle_upd {s s' : Nat → A} {t : Nat} {x : A} (h : SLe s s') (hx : s t = x) : SLe s (upd s' t x) := fun u => by
  unfold upd; split
  · rename_i e; subst e; exact .inr hx.symm
  · exact h u
theorem mle_nil (m : Mem) : MLe m Mem.nil := fun _ => .inl rfl
theorem mle_refl (m : Mem) : MLe m m := fun _ => .inr rfl
theorem mle_upd {m m' : Mem} {j : Nat} {o : O} (h : MLe m m') (ho : m j = some o) : MLe m (upd m' j (some o)) := fun u => by
  unfold upd; split
  · rename_i e; subst e; exact .inr ho.symm
  · exact h u
/-- Names are known. -/
def SWf (m : Mem) (s : Nat → A) : Prop := ∀ t, ∀ j ∈ (s t).ids, (m j).isSome = true
def MWf (m m' : Mem) : Prop := ∀ id o, m' id = some o → ∀ j ∈ o.ids, (m j).isSome = true
theorem swf_top (m : Mem) : SWf m (fun _ => .top) := fun _ j hj => by simp [A.ids] at hj
theorem swf_upd {m : Mem} {s : Nat → A} {t : Nat} {x : A} (h : SWf m s) (hx : ∀ j ∈ x.ids, (m j).isSome = true) : SWf m (upd s t x) := fun u j hj => by
  unfold upd at hj; split at hj
  · exact hx j hj
  · exact h u j hj
theorem mwf_nil (m : Mem) : MWf m Mem.nil := fun _ _ h => absurd h (noneSome _)
theorem mwf_upd {m m' : Mem} {i : Nat} {o : O} (h : MWf m m') (ho : ∀ j ∈ o.ids, (m j).isSome = true) : MWf m (upd m' i (some o)) := fun id x hx j hj => by
  unfold upd at hx; split at hx
  · cases hx; exact ho j hj
  · exact h id x hx j hj
theorem le_mk {kp : Nat → Prop} {st st' : St} (h1 : SLe st.s st'.s) (h2 : MLe st.m st'.m) (h3 : SWf st'.m st'.s) (h4 : MWf st'.m st'.m) (h5 : ∀ j, kp j → (st'.m j).isSome = true) (h6 : dfs (st'.s DID) = dfs (st.s DID)) : Le kp st st' := ⟨h1, h2, ⟨h3, h4⟩, h5, h6⟩
theorem kept_not {kp : Nat → Prop} (h : kp = fun _ => False) {m : Mem} : ∀ j, kp j → (m j).isSome = true := fun j hj => by rw [h] at hj; exact hj.elim
theorem nokeep {kp : Nat → Prop} (h : kp = fun _ => False) {j : Nat} : ¬ kp j := by rw [h]; exact fun h => h
theorem wrap_nat {k : Nat} (h : k < 9223372036854775808) : IntKind.i64.wrap (k : Int) = k := by
  have h2 : (k : Int) % 18446744073709551616 = k := by omega
  have h3 : ¬ ((k : Int) ≥ 9223372036854775808) := by omega
  simp [IntKind.wrap, IntKind.bits, IntKind.signed, h2]
  omega
/-- A function's contract over plain data, out of its body. -/
theorem ok_pure {P : Go.Program} {T : Tab} (hT : T.Ok P) {f : FuncId} {fn : Func} {c : Code} {l : List ResultVar} {args : List A} {r : A} (hf : P.funcs[f]? = some fn) (hn : (fn.name == "runtime.NumGoroutine") = false) (hb : fn.body = some c) (hl : fn.results.toList = l) (hd : args.all (fun a => a.ids.isEmpty && !(match a with | .defs _ => true | _ => false)) = true) (hr : r.ids = []) (hle : decide (args.length ≤ fn.ntmps ∧ fn.ntmps ≤ DID) = true)
    (hW : ∀ R : Ref, R.keep = (fun _ => False) → W P R fn.ntmps [] ⟨entry args, Mem.nil⟩ c (fun e st => (e = .normal ∨ e = .ret) ∧ dfs (st.s DID) = [] ∧ resA T st l = some r)) (m : Mem) : COk P f args m r :=
  ⟨enters_of hf hn hb, hr, fun m' _ => call_pure hT hf hb hl (fun a ha => by have := List.all_eq_true.1 hd a ha; simp only [Bool.and_eq_true] at this; simpa using this.1) (fun a ha l e => by have := List.all_eq_true.1 hd a ha; subst e; simp at this) (of_decide_eq_true hle).1 (of_decide_eq_true hle).2 hW m'⟩
theorem wrap_succ {k : Nat} (h : k + 1 < 9223372036854775808) : IntKind.i64.wrap ((k : Int) + 1) = ((k + 1 : Nat) : Int) := by
  have := wrap_nat h
  simpa using this
theorem wrap_pred {k : Nat} (h : k < 9223372036854775808) : IntKind.i64.wrap ((k : Int) - 1) = (k : Int) - 1 := by
  cases k with
  | zero => rfl
  | succ j => rw [int_pred]; exact wrap_nat (by omega)
theorem wf_i64 {n : Int} (h1 : -9223372036854775808 ≤ n) (h2 : n ≤ 9223372036854775807) : (Lit.int .i64 n).wf = true := by
  simp [Lit.wf, IntKind.min, IntKind.max, IntKind.bits, IntKind.signed]
  omega
theorem at_map {α β : Type} {f : α → β} {l : List α} {k : Nat} {x : α} (h : l[k]? = some x) : (l.map f)[k]? = some (f x) := by simp [h]
/-- The small laws of lists, options, numbers that a region's reckoning uses. -/
theorem exs : (∀ (α : Type) (l : List α) (i : Nat), l.toArray[i]? = l[i]?) ∧ (∀ (α : Type) (a : α) (l : List α) (i : Nat), (a :: l)[i + 1]? = l[i]?) ∧ (∀ (α : Type) (a : α) (l : List α), (a :: l)[0]? = some a) ∧
    (∀ (α β : Type) (a : α) (f : α → Option β), (some a).bind f = f a) ∧ (∀ (α : Type) (l : List α), l.toArray.size = l.length) ∧ (∀ (α β : Type) (f : α → β) (a : α) (l : List α), (a :: l).map f = f a :: l.map f) ∧ (∀ (α β : Type) (f : α → β), ([] : List α).map f = []) ∧
    (∀ (α : Type) (l : List α), l.drop 0 = l) ∧ (∀ (α : Type) (a : α) (l : List α) (i : Nat), (a :: l).drop (i + 1) = l.drop i) ∧ (∀ (α : Type) (i : Nat), ([] : List α).drop i = []) ∧
    (∀ (α : Type) (a : α) (l : List α) (i : Nat), (a :: l).take (i + 1) = a :: l.take i) ∧ (∀ (α : Type) (l : List α), l.take 0 = []) ∧ (∀ (α : Type) (i : Nat), ([] : List α).take i = []) ∧ (∀ (α : Type) (a : α) (l : List α), (a :: l).head? = some a) ∧
    (∀ (α : Type) (a : α) (n : Nat), List.replicate (n + 1) a = a :: List.replicate n a) ∧ (∀ (α : Type) (a : α), List.replicate 0 a = []) ∧ (∀ (α : Type) (l : List α) (r : List (List α)), (l :: r).flatten = l ++ r.flatten) ∧ (∀ (α : Type), ([] : List (List α)).flatten = []) ∧
    (∀ (α : Type) (a : α) (l : List α), (a :: l).length = l.length + 1) ∧ (∀ (α : Type), ([] : List α).length = 0) ∧ (∀ (α β : Type) (f : α → β) (l : List α), (l.map f).length = l.length) ∧ (∀ (α : Type) (l : List α), [] ++ l = l) ∧ (∀ (α : Type) (a : α) (l r : List α), a :: l ++ r = a :: (l ++ r)) ∧ (∀ (α : Type) (l : List α), l ++ [] = l) ∧
    (∀ (α β : Type) (f : α → β) (a : α), (some a).map f = some (f a)) ∧ (∀ (α β : Type) (f : α → β), (none : Option α).map f = none) ∧ (∀ n : Nat, 0 * n = 0) ∧ (∀ n : Nat, 1 * n = n) ∧ (∀ n : Nat, n * 1 = n) ∧ (∀ n : Nat, 0 + n = n) ∧ (∀ n : Nat, n + 0 = n) ∧ (∀ n : Nat, (n : Int).toNat = n) ∧ (∀ n : Nat, (0 ≤ (n : Int)) = True) ∧
    (∀ p : Prop, (p ∨ True) = True) ∧ (∀ p : Prop, (True ∧ p) = p) ∧ (∀ p : Prop, (p ∧ True) = p) ∧ (∀ p : Prop, (p ∧ p) = p) ∧ (∀ (α : Type) (a b : α), (if True then a else b) = a) ∧ (∀ (α : Type) (a b : α), (if False then a else b) = b) ∧ ((!true) = false) ∧ ((!false) = true) :=
  ⟨fun _ _ _ => by simp, fun _ _ _ _ => rfl, fun _ _ _ => rfl, fun _ _ _ _ => rfl, fun _ _ => rfl, fun _ _ _ _ _ => rfl, fun _ _ _ => rfl, fun _ _ => rfl, fun _ _ _ _ => rfl, fun _ _ => by simp, fun _ _ _ _ => rfl, fun _ _ => by simp, fun _ _ => by simp, fun _ _ _ => rfl,
    fun _ _ _ => rfl, fun _ _ => rfl, fun _ _ _ => by simp, fun _ => rfl, fun _ _ _ => rfl, fun _ => rfl, fun _ _ _ _ => by simp, fun _ _ => rfl, fun _ _ _ _ => rfl, fun _ _ => by simp, fun _ _ _ _ => rfl, fun _ _ _ => rfl, fun _ => by simp, fun _ => by simp, fun _ => by simp, fun _ => by simp, fun _ => rfl, fun _ => rfl, fun _ => by simp,
    fun _ => by simp, fun _ => by simp, fun _ => by simp, fun _ => by simp, fun _ _ _ => rfl, fun _ _ _ => rfl, rfl, rfl⟩
theorem fillC_cons (place : Nat → Option (Nat × Nat)) (cells : List C) (i : Nat) (v : Option (List C)) (rest : List (Nat × Option (List C))) : fillC place cells ((i, v) :: rest) = match place i, v with
    | some (o, n), some xs => if xs.length = n ∧ o + n ≤ cells.length then fillC place (cells.take o ++ (xs ++ cells.drop (o + n))) rest else none
    | _, _ => none := rfl
theorem fillA_cons (place : Nat → Option (Nat × Nat)) (cells : List A1) (i : Nat) (v : Option (List A1)) (rest : List (Nat × Option (List A1))) : fillA place cells ((i, v) :: rest) = match place i, v with
    | some (o, n), some xs => if xs.length = n ∧ o + n ≤ cells.length then fillA place (cells.take o ++ (xs ++ cells.drop (o + n))) rest else none
    | _, _ => none := rfl
theorem stO_box (T : Tab) (ty : Nat) (a v : A) (ty0 : TypeId) (cells : List A) : stO T ty a v (.box ty0 cells) = match a, T.ty ty, cellsA v with
    | .ptr _ off, some (n, _), some l => if l.length = n ∧ off + l.length ≤ cells.length then some (.box ty0 (repl cells off l)) else none
    | _, _, _ => none := rfl
theorem stO_mrow (T : Tab) (ty : Nat) (a v : A) (ty0 : TypeId) (e : Nat) (xs : List (List C)) : stO T ty a v (.mrow ty0 e xs) = match a, T.ty ty, dataC v with
    | .eptr _ e' i f, some (n, _), some l => if e' = e ∧ l.length = n ∧ f + l.length ≤ e then (match xs[i]? with | some cs => some (.mrow ty0 e (xs.set i (replC cs f l))) | none => none) else none
    | _, _, _ => none := rfl
theorem stO_rows (T : Tab) (ty : Nat) (a v : A) (ty0 : TypeId) (xs : List A1) : stO T ty a v (.rows ty0 xs) = match a, T.ty ty, cellsA v with
    | .eptr _ e i f, some (n, _), some [b] => if e = 1 ∧ n = 1 ∧ f = 0 ∧ i < xs.length then (match b.down with | some y => some (.rows ty0 (xs.set i y)) | none => none) else none
    | _, _, _ => none := rfl
set_option linter.defProp false in
/-- What the walk unfolds, in one. -/
def exa :=
  And.intro (And.intro (And.intro @qv2.eq_17 @qv2.eq_18) (And.intro @A.kill.eq_9 (And.intro @A.kill.eq_10 (And.intro @partA.eq_1 (And.intro @fillA.eq_1 (And.intro @fillA_cons (And.intro @fillC_cons (And.intro @stO_box (And.intro @stO_mrow @stO_rows))))))))) (And.intro (And.intro (And.intro (And.intro (And.intro (And.intro (And.intro (And.intro @exec.eq_1 @exec.eq_2) (And.intro @stepQ.eq_1 @wantA.eq_1)) (And.intro (And.intro @yieldA.eq_1 @kind.eq_1) (And.intro @kind.eq_2 @kind.eq_3))) (And.intro (And.intro (And.intro @kind.eq_4 @kind.eq_5) (And.intro @kind.eq_6 @kind.eq_7)) (And.intro (And.intro @kind.eq_8 @kind.eq_9) (And.intro @kind.eq_10 @kind.eq_11)))) (And.intro (And.intro (And.intro (And.intro @kind.eq_12 @kind.eq_13) (And.intro @kind.eq_14 @kind.eq_15)) (And.intro (And.intro @kind.eq_16 @kind.eq_17) (And.intro @kind.eq_18 @kind.eq_19))) (And.intro (And.intro (And.intro @kind.eq_20 @kind.eq_21) (And.intro @kind.eq_22 @kind.eq_23)) (And.intro (And.intro @kind.eq_24 @kind.eq_25) (And.intro @qv.eq_1 (And.intro @qv1.eq_1 @qv1.eq_2)))))) (And.intro (And.intro (And.intro (And.intro (And.intro @qv1.eq_3 @qv1.eq_4) (And.intro @qv1.eq_5 @qv1.eq_6)) (And.intro (And.intro @qv1.eq_7 @qv1.eq_8) (And.intro @qv1.eq_9 @qv1.eq_10))) (And.intro (And.intro (And.intro @qv1.eq_11 @qv1.eq_12) (And.intro @qv1.eq_13 @qv1.eq_14)) (And.intro (And.intro @qv1.eq_15 @qv1.eq_16) (And.intro @qv1.eq_17 @qv1.eq_18)))) (And.intro (And.intro (And.intro (And.intro @qv1.eq_19 @qv2.eq_1) (And.intro @qv2.eq_2 @qv2.eq_3)) (And.intro (And.intro @qv2.eq_4 @qv2.eq_5) (And.intro @qv2.eq_6 @qv2.eq_7))) (And.intro (And.intro (And.intro @qv2.eq_8 @qv2.eq_9) (And.intro @qv2.eq_10 @qv2.eq_11)) (And.intro (And.intro @qv2.eq_12 @qv2.eq_13) (And.intro @qv2.eq_14 (And.intro @qv2.eq_15 @qv2.eq_16))))))) (And.intro (And.intro (And.intro (And.intro (And.intro (And.intro @stO.eq_1 @stO.eq_2) (And.intro @stO.eq_3 @stO.eq_4)) (And.intro (And.intro @stO.eq_5 @stO.eq_6) (And.intro @stO.eq_7 @adrId.eq_1))) (And.intro (And.intro (And.intro @adrId.eq_2 @adrId.eq_3) (And.intro @dataC.eq_1 @dataC.eq_2)) (And.intro (And.intro @dataC.eq_3 @dataC.eq_4) (And.intro @dataC.eq_5 @replC.eq_1)))) (And.intro (And.intro (And.intro (And.intro @eqNil.eq_1 @eqNil.eq_2) (And.intro @eqNil.eq_3 @eqNil.eq_4)) (And.intro (And.intro @eqNil.eq_5 @eqNil.eq_6) (And.intro @eqNil.eq_7 @eqNil.eq_8))) (And.intro (And.intro (And.intro @eqNil.eq_9 @eqNil.eq_10) (And.intro @eqNil.eq_11 @eqNil.eq_12)) (And.intro (And.intro @eqNil.eq_13 @binNil.eq_1) (And.intro @binNil.eq_2 (And.intro @binNil.eq_3 @shiftInt.eq_1)))))) (And.intro (And.intro (And.intro (And.intro (And.intro @shiftInt.eq_2 @shiftInt.eq_3) (And.intro @A.down.eq_1 @A.down.eq_2)) (And.intro (And.intro @A.down.eq_3 @A.down.eq_4) (And.intro @A.down.eq_5 @A.down.eq_6))) (And.intro (And.intro (And.intro @A.down.eq_7 @A.down.eq_8) (And.intro @A.down.eq_9 @A1.up.eq_1)) (And.intro (And.intro @A1.up.eq_2 @A1.up.eq_3) (And.intro @A1.up.eq_4 @A1.up.eq_5)))) (And.intro (And.intro (And.intro (And.intro @A1.up.eq_6 @A1.up.eq_7) (And.intro @A1.up.eq_8 @downs.eq_1)) (And.intro (And.intro @downs.eq_2 @toR.eq_1) (And.intro @toR.eq_2 @ev.eq_1))) (And.intro (And.intro (And.intro @ev.eq_2 @ev.eq_3) (And.intro @ev.eq_4 @putS.eq_1)) (And.intro (And.intro @putS.eq_2 @rowO.eq_1) (And.intro @ofConst.eq_1 (And.intro @ofConst.eq_2 @ofConst.eq_3)))))))) (And.intro (And.intro (And.intro (And.intro (And.intro (And.intro (And.intro @ofConst.eq_4 @ofConst.eq_5) (And.intro @ofConst.eq_6 @ofConst.eq_7)) (And.intro (And.intro @ofConst.eq_8 @ofConst.eq_9) (And.intro @cellsA.eq_1 @cellsA.eq_2))) (And.intro (And.intro (And.intro @cellsA.eq_3 @cellsA.eq_4) (And.intro @cellsA.eq_5 @cellsA.eq_6)) (And.intro (And.intro @cellsA.eq_7 @cellsA.eq_8) (And.intro @cellsA.eq_9 @cellsA.eq_10)))) (And.intro (And.intro (And.intro (And.intro @cellsA.eq_11 @cellsA.eq_12) (And.intro @cellsC.eq_1 @cellsC.eq_2)) (And.intro (And.intro @asC.eq_1 @asC.eq_2) (And.intro @asC.eq_3 @asC.eq_4))) (And.intro (And.intro (And.intro @asC.eq_5 @asCs.eq_1) (And.intro @asCs.eq_2 @ld.eq_1)) (And.intro (And.intro @ldR.eq_1 @ldR.eq_2) (And.intro @bin.eq_1 (And.intro @bin.eq_2 @bin.eq_3)))))) (And.intro (And.intro (And.intro (And.intro (And.intro @bin.eq_4 @bin.eq_5) (And.intro @bin.eq_6 @bin.eq_7)) (And.intro (And.intro @binInt.eq_1 @binInt.eq_2) (And.intro @binInt.eq_3 @binInt.eq_4))) (And.intro (And.intro (And.intro @binInt.eq_5 @binInt.eq_6) (And.intro @binInt.eq_7 @binInt.eq_8)) (And.intro (And.intro @binInt.eq_9 @binInt.eq_10) (And.intro @binInt.eq_11 @binInt.eq_12)))) (And.intro (And.intro (And.intro (And.intro @binInt.eq_13 @binInt.eq_14) (And.intro @binInt.eq_15 @binInt.eq_16)) (And.intro (And.intro @binStr.eq_1 @binStr.eq_2) (And.intro @binStr.eq_3 @binStr.eq_4))) (And.intro (And.intro (And.intro @binStr.eq_5 @binStr.eq_6) (And.intro @binStr.eq_7 @binStr.eq_8)) (And.intro (And.intro @binBool.eq_1 @binBool.eq_2) (And.intro @binBool.eq_3 (And.intro @sliceOf.eq_1 @bndOf.eq_1))))))) (And.intro (And.intro (And.intro (And.intro (And.intro (And.intro @bndOf.eq_2 @bndOf.eq_3) (And.intro @repl.eq_1 @fillC.eq_1)) (And.intro (And.intro @fillC.eq_2 @fillC.eq_3) (And.intro @zeroC.eq_1 @chunks.eq_1))) (And.intro (And.intro (And.intro @chunks.eq_2 @ptrIds.eq_1) (And.intro @ptrIds.eq_2 @ptrIds.eq_3)) (And.intro (And.intro @A.kill.eq_1 @A.kill.eq_2) (And.intro @A.kill.eq_3 @A.kill.eq_4)))) (And.intro (And.intro (And.intro (And.intro @A.kill.eq_5 @A.kill.eq_6) (And.intro @A.kill.eq_7 @A.kill.eq_8)) (And.intro (And.intro @A.kill.eq_9 @A.kill.eq_10) (And.intro @O.kill.eq_1 @O.kill.eq_2))) (And.intro (And.intro (And.intro @O.kill.eq_3 @O.kill.eq_4) (And.intro @maxStr.eq_1 @toKey.eq_1)) (And.intro (And.intro @toKey.eq_2 (And.intro @toKey.eq_3 @toKey.eq_4)) (And.intro (And.intro @keyTy.eq_1 (And.intro @keyC.eq_1 (And.intro @keyC.eq_2 (And.intro @keyC.eq_3 @keyCs.eq_1)))) (And.intro (And.intro @keyTy.eq_2 (And.intro @keyCs.eq_2 @keyCs.eq_3)) (And.intro @keyTy.eq_3 @keyTy.eq_4))))))) (And.intro (And.intro (And.intro (And.intro (And.intro @zero1.eq_1 @lookRes.eq_1) (And.intro @eqTs.eq_1 @eqTs.eq_2)) (And.intro (And.intro @eqTs.eq_3 @eqT.eq_1) (And.intro @eqT.eq_2 @eqT.eq_3))) (And.intro (And.intro (And.intro @eqT.eq_4 @eqRes.eq_1) (And.intro @eqRes.eq_2 @eqRes.eq_3)) (And.intro (And.intro @offs.eq_1 @offs.eq_2) (And.intro @upd_app (And.intro @mem_nil_app @entry_zero))))) (And.intro (And.intro (And.intro (And.intro @entry_succ @entry_nil) (And.intro @top_app @killS_app)) (And.intro (And.intro @killM_app @wf_i64) (And.intro @decide_true @decide_false))) (And.intro (And.intro (And.intro @ybeq_some @ybeq_none) (And.intro @beqT @beqF)) (And.intro (And.intro @empty_toList exs) (And.intro tabs (And.intro @isNilRow.eq_1 @isNilRow.eq_2)))))))))
end V
end Go.Proofs.Ytgaipdillmleeaa
end
section
/- A pure function, told over plain data, called from a statement's world. -/
set_option linter.unusedSimpArgs false
namespace Go.Proofs.Ytgaipdillmleeaa
open Go.ChangeShapes Go.WideShapes Go.ChangeAt Go.RowKit
open Go.ChangeMaps (open_string shut_string)
set_option linter.unusedVariables false
theorem own : ownKnob Try.prog.godebug = none := by kernel_rfl
theorem laidOut : laidOutB Try.prog = true := by kernel_rfl

namespace V
/-- A pure function called from outside. -/
theorem cok_top {f : FuncId} {args : List A} {r : A} {W : World} {vals : List Value} (h : COk Try.prog f args Mem.nil r) (hg : GlobOk W) (hv : ∀ B, RVl B W (fun b _ => b < W.heap.size) args vals) :
    Calls Try.prog f vals.toArray W fun e w' => ∃ v, e = .returned v ∧ Below W.heap.size W w' ∧ ∃ B I', RV B w' I' r v := by
  obtain ⟨-, -, h⟩ := h
  have hm : MR W (fun b _ => b < W.heap.size) (fun _ => undef) (fun b _ => b < W.heap.size) Mem.nil W :=
    ⟨Below.refl _ _, hg, fun _ _ h => h, fun _ _ h => .inl h, fun _ _ h => h, (fun _ _ h => by simp [Mem.nil] at h), (fun _ _ h => by simp [Mem.nil] at h), (fun _ _ _ _ h => by simp [Mem.nil] at h), (fun _ _ h => by simp [Mem.nil] at h)⟩
  refine (h Mem.nil (fun _ _ => rfl) W _ _ _ W vals hm (hv _)).mono ?_
  rintro e w' ⟨v, I', rfl, hb, -, -, hr⟩
  exact ⟨v, rfl, hb, _, _, hr⟩
theorem cok_true {f : FuncId} {args : List A} {W : World} {vals : List Value} (h : COk Try.prog f args Mem.nil (.c (.bool true))) (hg : GlobOk W) (hv : ∀ B, RVl B W (fun b _ => b < W.heap.size) args vals) :
    Calls Try.prog f vals.toArray W fun e w' => e = .returned (.bool true) ∧ Below W.heap.size W w' := by
  refine (cok_top h hg hv).mono ?_
  rintro e w' ⟨v, rfl, hb, B, I', hr⟩
  have hr : RC w' I' v (.bool true) := hr
  cases hr
  exact ⟨rfl, hb⟩
end V
end Go.Proofs.Ytgaipdillmleeaa
end
section
/- Classes, methods, statements, expressions as plain data. -/
namespace Go.Proofs.Ytgaipdillmleeaa
namespace V
open Go.RowKit

def cSlot (s : Slot) : List C := [.str s.type, .str s.name]
mutual
def cExpr : Expr → List C
  | ⟨k, n, nm, kids⟩ => [.int .i64 k, .int .i64 n, .str nm, .sl (cExprs kids)]
def cExprs : List Expr → List (List C)
  | [] => []
  | x :: l => cExpr x :: cExprs l
end
mutual
def cStmt : Stmt → List C
  | ⟨k, n, ty, nm, es, th, el⟩ => [.int .i64 k, .int .i64 n, .str ty, .str nm, .sl (cExprs es), .sl (cStmts th), .sl (cStmts el)]
def cStmts : List Stmt → List (List C)
  | [] => []
  | x :: l => cStmt x :: cStmts l
end
def cMethod (m : Method) : List C := [.str m.type, .str m.name, .sl (m.params.map cSlot), .sl (cStmts m.body)]
def cClass (c : Class) : List C := [.str c.name, .str c.super, .sl (c.fields.map cSlot), .sl (c.methods.map cMethod)]
def cProg (p : Program) : List C := [.sl (p.classes.map cClass), .sl (cStmts p.main)]
theorem cExprs_map (l : List Expr) : cExprs l = l.map cExpr := by induction l with | nil => rfl | cons x l ih => simp [cExprs, ih]
theorem cStmts_map (l : List Stmt) : cStmts l = l.map cStmt := by induction l with | nil => rfl | cons x l ih => simp [cStmts, ih]
end V
end Go.Proofs.Ytgaipdillmleeaa
end
section
/- Trees read as show/Base has them, and as plain data: from one to the other. -/
namespace Go.Proofs.Ytgaipdillmleeaa
namespace V
open Go.RowKit

theorem cellsAt_of {w : World} {b : Nat} : ∀ {cs : List Value} {o : Nat}, (∀ (j : Nat) v, cs[j]? = some v → w.cell? ⟨b, o + j, none⟩ = some v) → cellsAt w b o cs
  | [], _, _ => trivial
  | v :: cs, o, h => ⟨by simpa using h 0 v rfl, cellsAt_of fun j u hj => by have := h (j + 1) u (by simpa using hj); rwa [show o + (j + 1) = o + 1 + j by omega] at this⟩
theorem cellsAt_get {w : World} {b : Nat} : ∀ {cs : List Value} {o : Nat}, cellsAt w b o cs → ∀ (j : Nat) v, cs[j]? = some v → w.cell? ⟨b, o + j, none⟩ = some v
  | [], _, _, j, v, h => by simp at h
  | u :: cs, o, h, 0, v, hv => by simp at hv; subst hv; exact h.1
  | u :: cs, o, h, j + 1, v, hv => by
    have := cellsAt_get h.2 j v (by simpa using hv)
    rwa [show o + (j + 1) = o + 1 + j by omega]
section
variable {w : World} {I : Nat → Nat → Prop}
theorem rc_rsl {α : Type} {f : α → List C} {sz : Nat} {R : List Value → α → Prop} {J : Nat → Prop} {v : Value} {l : List α} (hI : ∀ b o, I b o → J b) (hz : 0 < sz) (hf : ∀ x ∈ l, (f x).length = sz) (hR : ∀ cs x, x ∈ l → RCs w I cs (f x) → R cs x) (h : RC w I v (.sl (l.map f))) : RSl sz R w J v l := by
  cases h with
  | @sl a n cap e _ g h1 h2 h3 h4 h5 h6 =>
    refine ⟨a, n, cap, rfl, by simpa using h1, h2, by unfold maxC; unfold maxLen at h3; omega, fun i x hx => ?_⟩
    have hx' := at_map (f := f) hx
    have hm := List.mem_of_getElem? hx
    have he : e = sz := by rw [← hf x hm, h4 _ (List.mem_of_getElem? hx')]
    subst he
    obtain ⟨b, off, rfl, hc⟩ := h5 _ _ hx'
    refine ⟨b, off, (List.range e).map (g i), rfl, hI b _ (hc 0 hz).1, cellsAt_of fun j u hj => ?_, hR _ _ hm (RCs.of (by simp [hf x hm]) fun j u c hj hcj => ?_)⟩
    · rw [List.getElem?_map] at hj
      by_cases hje : j < e
      · rw [List.getElem?_range hje] at hj; cases hj; exact (hc j hje).2
      · rw [List.getElem?_eq_none (by simp; omega)] at hj; cases hj
    · rw [List.getElem?_map] at hj
      by_cases hje : j < e
      · rw [List.getElem?_range hje] at hj; cases hj; exact h6 _ _ _ _ hx' hcj
      · rw [List.getElem?_eq_none (by simp; omega)] at hj; cases hj
theorem rsl_rc {α : Type} {f : α → List C} {sz : Nat} {R : List Value → α → Prop} {J : Nat → Prop} {v : Value} {l : List α} (hI : ∀ b o, J b → I b o) (hR : ∀ cs x, x ∈ l → R cs x → cs.length = sz ∧ RCs w I cs (f x)) (h : RSl sz R w J v l) : RC w I v (.sl (l.map f)) := by
  obtain ⟨a, n, cap, rfl, h1, h2, h3, h4⟩ := h
  have hch : ∀ (i : Nat) x, l[i]? = some x → ∃ cs : List Value, ∃ b off, a = some ⟨b, off, none⟩ ∧ J b ∧ cellsAt w b (off + i * sz) cs ∧ cs.length = sz ∧ RCs w I cs (f x) := fun i x hx => by
    obtain ⟨b, off, cs, e1, e2, e3, e4⟩ := h4 i x hx
    obtain ⟨e5, e6⟩ := hR cs x (List.mem_of_getElem? hx) e4
    exact ⟨cs, b, off, e1, e2, e3, e5, e6⟩
  obtain ⟨g, hg⟩ : ∃ g : Nat → List Value, ∀ (i : Nat) x, l[i]? = some x → ∃ b off, a = some ⟨b, off, none⟩ ∧ J b ∧ cellsAt w b (off + i * sz) (g i) ∧ (g i).length = sz ∧ RCs w I (g i) (f x) := by
    have : ∀ i, ∃ g : List Value, ∀ x, l[i]? = some x → ∃ b off, a = some ⟨b, off, none⟩ ∧ J b ∧ cellsAt w b (off + i * sz) g ∧ g.length = sz ∧ RCs w I g (f x) := fun i => by
      cases hx : l[i]? with
      | none => exact ⟨[], fun x h => by cases h⟩
      | some x =>
        obtain ⟨cs, b, off, q⟩ := hch i x hx
        exact ⟨cs, fun y hy => by cases hy; exact ⟨b, off, q⟩⟩
    exact Classical.skolem.1 this
  have el : ∀ (i : Nat) y, (l.map f)[i]? = some y → ∃ x, l[i]? = some x ∧ y = f x := fun i y hy => by
    rw [List.getElem?_map] at hy
    cases hx : l[i]? with
    | none => rw [hx] at hy; cases hy
    | some x => rw [hx] at hy; exact ⟨x, rfl, (Option.some.inj hy).symm⟩
  refine .sl (e := sz) (fun i j => (g i).getD j undef) (by simpa using h1) h2 (by unfold maxLen; unfold maxC at h3; omega) (fun y hy => ?_) (fun i y hy => ?_) (fun i j y c hy hc => ?_)
  · obtain ⟨i, hi⟩ := List.getElem?_of_mem hy
    obtain ⟨x, hx, rfl⟩ := el i y hi
    obtain ⟨b, off, -, -, -, q1, q2⟩ := hg i x hx
    rw [← q2.length, q1]
  · obtain ⟨x, hx, rfl⟩ := el i y hy
    obtain ⟨b, off, q1, q2, q3, q4, -⟩ := hg i x hx
    refine ⟨b, off, q1, fun j hj => ⟨hI b _ q2, ?_⟩⟩
    have hj' : j < (g i).length := by omega
    rw [cellsAt_get q3 j _ (List.getElem?_eq_getElem hj')]
    simp [hj']
  · obtain ⟨x, hx, rfl⟩ := el i y hy
    obtain ⟨b, off, -, -, -, -, q2⟩ := hg i x hx
    obtain ⟨u, h5, h6⟩ := q2.at j c hc
    simp [h5]; exact h6
variable (hI : ∀ b o, I b o → b < w.heap.size)
theorem rcs_slot {cs : List Value} {x : Slot} (h : RCs w I cs (cSlot x)) : RSlot cs x := by
  match cs, h with
  | [a, b], ⟨h1, h2, _⟩ => exact ⟨by rw [h1.toStr.1, h2.toStr.1], h1.toStr.2, h2.toStr.2⟩
theorem slot_rcs {cs : List Value} {x : Slot} (h : RSlot cs x) : cs.length = 2 ∧ RCs w I cs (cSlot x) := by
  obtain ⟨rfl, h1, h2⟩ := h
  exact ⟨rfl, .str h1, .str h2, trivial⟩
include hI in
theorem rc_slots {v : Value} {l : List Slot} (h : RC w I v (.sl (l.map cSlot))) : RSlots w (· < w.heap.size) v l := rc_rsl hI (by decide) (fun _ _ => rfl) (fun _ _ _ h => rcs_slot h) h
mutual
def dExpr : Expr → Nat
  | ⟨_, _, _, kids⟩ => dExprs kids + 1
def dExprs : List Expr → Nat
  | [] => 0
  | x :: l => max (dExpr x) (dExprs l)
end
theorem dExprs_mem {l : List Expr} {x : Expr} (h : x ∈ l) : dExpr x ≤ dExprs l := by
  induction l with
  | nil => simp at h
  | cons y l ih =>
    simp only [dExprs]
    rcases List.mem_cons.1 h with rfl | h
    · omega
    · have := ih h; omega
include hI in
theorem rcs_expr : ∀ (d : Nat) {cs : List Value} {x : Expr}, dExpr x ≤ d → RCs w I cs (cExpr x) → RExpr d w (· < w.heap.size) cs x
  | 0, cs, ⟨k, n, nm, kids⟩, hd, _ => by simp [dExpr] at hd
  | d + 1, cs, ⟨k, n, nm, kids⟩, hd, h => by
    simp only [cExpr] at h
    match cs, h with
    | [a, b, c, e], ⟨h1, h2, h3, h4, _⟩ =>
      simp only [dExpr] at hd
      rw [cExprs_map] at h4
      refine ⟨e, by rw [h1.toInt.1, h2.toInt.1, h3.toStr.1], h1.toInt.2, h2.toInt.2, h3.toStr.2, rc_rsl hI (by decide) (fun x _ => by cases x; rfl) (fun cs x hx hc => rcs_expr d (by have h' : dExpr x ≤ dExprs kids := dExprs_mem hx; omega) hc) h4⟩
theorem expr_rcs (hJ : ∀ b o, b < w.heap.size → I b o) : ∀ (d : Nat) {cs : List Value} {x : Expr}, RExpr d w (· < w.heap.size) cs x → cs.length = 4 ∧ RCs w I cs (cExpr x)
  | 0, _, _, h => h.elim
  | d + 1, cs, ⟨k, n, nm, kids⟩, ⟨kv, h1, h2, h3, h4, h5⟩ => by
    subst h1
    refine ⟨rfl, .int h2, .int h3, .str h4, ?_, trivial⟩
    rw [cExprs_map]
    exact rsl_rc hJ (fun _ _ _ h => expr_rcs hJ d h) h5
mutual
def dStmt : Stmt → Nat
  | ⟨_, _, _, _, es, th, el⟩ => max (dExprs es) (max (dStmts th) (dStmts el)) + 1
def dStmts : List Stmt → Nat
  | [] => 0
  | x :: l => max (dStmt x) (dStmts l)
end
theorem dStmts_mem {l : List Stmt} {x : Stmt} (h : x ∈ l) : dStmt x ≤ dStmts l := by
  induction l with
  | nil => simp at h
  | cons y l ih =>
    simp only [dStmts]
    rcases List.mem_cons.1 h with rfl | h
    · omega
    · have := ih h; omega
include hI in
theorem rcs_stmt : ∀ (d : Nat) {cs : List Value} {x : Stmt}, dStmt x ≤ d → RCs w I cs (cStmt x) → RStmt d w (· < w.heap.size) cs x
  | 0, cs, ⟨k, n, ty, nm, es, th, el⟩, hd, _ => by simp [dStmt] at hd
  | d + 1, cs, ⟨k, n, ty, nm, es, th, el⟩, hd, h => by
    simp only [cStmt] at h
    match cs, h with
    | [a, b, c, e, f, g, i], ⟨h1, h2, h3, h4, h5, h6, h7, _⟩ =>
      simp only [dStmt] at hd
      rw [cExprs_map] at h5
      rw [cStmts_map] at h6 h7
      refine ⟨f, g, i, by rw [h1.toInt.1, h2.toInt.1, h3.toStr.1, h4.toStr.1], h1.toInt.2, h2.toInt.2, h3.toStr.2, h4.toStr.2, rc_rsl hI (by decide) (fun x _ => by cases x; rfl) (fun cs x hx hc => rcs_expr hI d (by have h' : dExpr x ≤ dExprs es := dExprs_mem hx; omega) hc) h5,
        rc_rsl hI (by decide) (fun x _ => by cases x; rfl) (fun cs x hx hc => rcs_stmt d (by have h' : dStmt x ≤ dStmts th := dStmts_mem hx; omega) hc) h6, rc_rsl hI (by decide) (fun x _ => by cases x; rfl) (fun cs x hx hc => rcs_stmt d (by have h' : dStmt x ≤ dStmts el := dStmts_mem hx; omega) hc) h7⟩
theorem stmt_rcs (hJ : ∀ b o, b < w.heap.size → I b o) : ∀ (d : Nat) {cs : List Value} {x : Stmt}, RStmt d w (· < w.heap.size) cs x → cs.length = 7 ∧ RCs w I cs (cStmt x)
  | 0, _, _, h => h.elim
  | d + 1, cs, ⟨k, n, ty, nm, es, th, el⟩, ⟨ev, tv, fv, h1, h2, h3, h4, h5, h6, h7, h8⟩ => by
    subst h1
    refine ⟨rfl, .int h2, .int h3, .str h4, .str h5, ?_, ?_, ?_, trivial⟩
    · rw [cExprs_map]; exact rsl_rc hJ (fun _ _ _ h => expr_rcs hJ d h) h6
    · rw [cStmts_map]; exact rsl_rc hJ (fun _ _ _ h => stmt_rcs hJ d h) h7
    · rw [cStmts_map]; exact rsl_rc hJ (fun _ _ _ h => stmt_rcs hJ d h) h8
include hI in
theorem rc_stmts {v : Value} {l : List Stmt} {d : Nat} (hd : dStmts l ≤ d) (h : RC w I v (.sl (cStmts l))) : RStmts d w (· < w.heap.size) v l := by
  rw [cStmts_map] at h
  exact rc_rsl hI (by decide) (fun x _ => by cases x; rfl) (fun cs x hx hc => rcs_stmt hI d (by have h' : dStmt x ≤ dStmts l := dStmts_mem hx; omega) hc) h
def dMethod (x : Method) : Nat := dStmts x.body
include hI in
theorem rcs_method {cs : List Value} {x : Method} {d : Nat} (hd : dMethod x ≤ d) (h : RCs w I cs (cMethod x)) : RMethod d w (· < w.heap.size) cs x := by
  match cs, h with
  | [a, b, c, e], ⟨h1, h2, h3, h4, _⟩ => exact ⟨c, e, by rw [h1.toStr.1, h2.toStr.1], h1.toStr.2, h2.toStr.2, rc_slots hI h3, rc_stmts hI hd h4⟩
theorem method_rcs (hJ : ∀ b o, b < w.heap.size → I b o) {d : Nat} {cs : List Value} {x : Method} (h : RMethod d w (· < w.heap.size) cs x) : cs.length = 4 ∧ RCs w I cs (cMethod x) := by
  obtain ⟨pv, bv, rfl, h1, h2, h3, h4⟩ := h
  refine ⟨rfl, .str h1, .str h2, rsl_rc hJ (fun _ _ _ h => slot_rcs h) h3, ?_, trivial⟩
  rw [cStmts_map]; exact rsl_rc hJ (fun _ _ _ h => stmt_rcs hJ d h) h4
def maxL (l : List Nat) : Nat := l.foldr max 0
theorem maxL_mem {l : List Nat} {x : Nat} (h : x ∈ l) : x ≤ maxL l := by
  induction l with
  | nil => simp at h
  | cons y l ih =>
    simp only [maxL, List.foldr_cons] at ih ⊢
    rcases List.mem_cons.1 h with rfl | h
    · omega
    · have := ih h; omega
def dClass (x : Class) : Nat := maxL (x.methods.map dMethod)
include hI in
theorem rcs_class {cs : List Value} {x : Class} {d : Nat} (hd : dClass x ≤ d) (h : RCs w I cs (cClass x)) : RClass d w (· < w.heap.size) cs x := by
  match cs, h with
  | [a, b, c, e], ⟨h1, h2, h3, h4, _⟩ =>
    exact ⟨c, e, by rw [h1.toStr.1, h2.toStr.1], h1.toStr.2, h2.toStr.2, rc_slots hI h3, rc_rsl hI (by decide) (fun _ _ => rfl) (fun cs m hm hc => rcs_method hI (Nat.le_trans (maxL_mem (List.mem_map_of_mem hm)) hd) hc) h4⟩
theorem class_rcs (hJ : ∀ b o, b < w.heap.size → I b o) {d : Nat} {cs : List Value} {x : Class} (h : RClass d w (· < w.heap.size) cs x) : cs.length = 4 ∧ RCs w I cs (cClass x) := by
  obtain ⟨pv, bv, rfl, h1, h2, h3, h4⟩ := h
  exact ⟨rfl, .str h1, .str h2, rsl_rc hJ (fun _ _ _ h => slot_rcs h) h3, rsl_rc hJ (fun _ _ _ h => method_rcs hJ h) h4, trivial⟩
include hI in
theorem rc_classes {v : Value} {l : List Class} : ∃ d, RC w I v (.sl (l.map cClass)) → RClasses d w (· < w.heap.size) v l :=
  ⟨maxL (l.map dClass), fun h => rc_rsl hI (by decide) (fun _ _ => rfl) (fun _ _ hm hc => rcs_class hI (maxL_mem (List.mem_map_of_mem hm)) hc) h⟩
/-- A program as plain data reads as a program. -/
theorem rprog_of {v : Value} {p : Program} (hI : ∀ b o, I b o → b < w.heap.size) (h : ∃ us, v = .agg us.toArray ∧ RCs w I us (cProg p)) : ∃ d, RProgram d w (· < w.heap.size) v p := by
  obtain ⟨us, rfl, h⟩ := h
  match us, h with
  | [a, b], ⟨h1, h2, _⟩ =>
    refine ⟨max (maxL (p.classes.map dClass)) (dStmts p.main), a, b, rfl, ?_, rc_stmts hI (by omega) h2⟩
    exact rc_rsl hI (by decide) (fun _ _ => rfl) (fun _ _ hm hc => rcs_class hI (by have := maxL_mem (List.mem_map_of_mem (f := dClass) hm); omega) hc) h1
theorem prog_rcs (hJ : ∀ b o, b < w.heap.size → I b o) {d : Nat} {v : Value} {p : Program} (h : RProgram d w (· < w.heap.size) v p) : ∃ us, v = .agg us.toArray ∧ RCs w I us (cProg p) := by
  obtain ⟨cv, mv, rfl, h1, h2⟩ := h
  refine ⟨[cv, mv], rfl, rsl_rc hJ (fun _ _ _ h => class_rcs hJ h) h1, ?_, trivial⟩
  rw [cStmts_map]; exact rsl_rc hJ (fun _ _ _ h => stmt_rcs hJ d h) h2
end
end V
end Go.Proofs.Ytgaipdillmleeaa
end
section
/- Maps of the call's own: an entry stored, an entry struck out; a window that becomes a row of its own. -/
namespace Go.Proofs.Ytgaipdillmleeaa
namespace V
open Go.RowKit

/-- What may stand in a map's entry. -/
def valA : A → Option A1
  | .agg xs => some (.agg xs)
  | a => a.down
/-- The entries behind a store. -/
def putE (key y : A1) (ents : List (A1 × A1)) : Option (Nat × A1) → List (A1 × A1)
  | some (i, _) => ents.set i (key, y)
  | none => ents ++ [(key, y)]
def delE (ents : List (A1 × A1)) : Option (Nat × A1) → List (A1 × A1)
  | some (i, _) => ents.eraseIdx i
  | none => ents
structure HPut (T : Tab) (ops : Array Oper) (o : Oper) (st : St) (t : Nat) (x k v : Operand) (j kt e : Nat) (key y : A1) (ents : List (A1 × A1)) (r : Option (Nat × A1)) : Prop where
  want : wantA ops o st.s = some true
  op : o.op = .mapUpdate t x k v ∨ o.op = .insert t x k v
  dst : o.dst = none
  at_ : ev st.s x = .map j
  obj : st.m j = some (.map ents)
  map : T.map t = some (kt, e)
  keyed : toKey (ev st.s k) = some key
  kty : keyTy T kt key = true
  val : valA (ev st.s v) = some y
  find : findE key ents = some r
section
variable {P : Go.Program} {T : Tab} {w0 w : World} {I0 I : Nat → Nat → Prop} {B : Nat → Value} {m : Mem}
theorem valA_r1 {a : A} {y : A1} {v : Value} (h : valA a = some y) (hv : RV B w I a v) : R1 B w I y v ∧ ∀ j ∈ y.ids, j ∈ a.ids := by
  unfold valA at h
  split at h
  · cases h; exact ⟨hv, fun j hj => by simp [A1.ids] at hj⟩
  · exact ⟨down_rv h hv, down_ids h⟩
theorem REs.set : ∀ {l : List (A1 × A1)} {es : List MapEntry} (i : Nat) (p : A1 × A1) (e : MapEntry), REs B w I l es → R1 B w I p.1 e.key → R1 B w I p.2 e.val → REs B w I (l.set i p) (es.set i e)
  | [], [], _, _, _, _, _, _ => trivial
  | _ :: _, _ :: _, 0, _, _, h, h1, h2 => ⟨⟨h1, h2⟩, h.2⟩
  | _ :: _, _ :: _, i + 1, p, e, h, h1, h2 => ⟨h.1, REs.set i p e h.2 h1 h2⟩
theorem REs.erase : ∀ {l : List (A1 × A1)} {es : List MapEntry} (i : Nat), REs B w I l es → REs B w I (l.eraseIdx i) (es.eraseIdx i)
  | [], [], _, _ => trivial
  | _ :: _, _ :: _, 0, h => h.2
  | _ :: _, _ :: _, i + 1, h => ⟨h.1, REs.erase i h.2⟩
theorem REs.push : ∀ {l : List (A1 × A1)} {es : List MapEntry} (p : A1 × A1) (e : MapEntry), REs B w I l es → R1 B w I p.1 e.key → R1 B w I p.2 e.val → REs B w I (l ++ [p]) (es ++ [e])
  | [], [], _, _, _, h1, h2 => ⟨⟨h1, h2⟩, trivial⟩
  | _ :: _, _ :: _, p, e, h, h1, h2 => ⟨h.1, REs.push p e h.2 h1 h2⟩
/-- A map's block turns. -/
theorem MR.mapTurn (h : MR w0 I0 B I m w) {j r : Nat} {ents ents' : List (A1 × A1)} {es es' : Array MapEntry} {clock clock' : Nat} (hj : m j = some (.map ents)) (hB : B j = .map (some r)) (hh : w.heap[r]? = some (.map es clock)) (hno : ∀ p, ¬ I r p) (hes : REs B w I ents' es'.toList) (hl : ∀ i ∈ (O.map ents').ids, (m i).isSome = true) :
    MR w0 I0 B I (upd m j (some (.map ents'))) { w with heap := w.heap.setIfInBounds r (.map es' clock') } ∧ Ext w { w with heap := w.heap.setIfInBounds r (.map es' clock') } I I := by
  have hs := MapKept.heap_set (o' := .map es' clock') hh
  refine h.turn hj (b := r) hB (fun k hk => ?_) hno rfl rfl rfl (by simp) (fun k hk => hs.2 k hk) hl (fun hE => ⟨r, es', clock', hB, hs.1, hes.mono hE (fun _ _ => rfl), hno⟩)
  have hk : B j = .map (some k) := hk
  rw [hB] at hk; cases hk; rfl
end
variable {P : Go.Program} {T : Tab} (hT : T.Ok P) {kp : Nat → Prop} {ops : Array Oper}
theorem setEnts_ids {key y : A1} {ents : List (A1 × A1)} {r : Option (Nat × A1)} : ∀ i ∈ (O.map (putE key y ents r)).ids, i ∈ (O.map ents).ids ∨ i ∈ key.ids ∨ i ∈ y.ids := by
  intro i hi
  obtain ⟨p, hp, hq⟩ := List.mem_flatMap.1 hi
  have : p ∈ ents ∨ p = (key, y) := by
    unfold putE at hp
    split at hp
    · exact List.mem_or_eq_of_mem_set hp
    · simpa using hp
  rcases this with h | rfl
  · exact .inl (List.mem_flatMap.2 ⟨p, h, hq⟩)
  · exact .inr (by simpa using hq)
theorem delEnts_ids {ents : List (A1 × A1)} {r : Option (Nat × A1)} : ∀ i ∈ (O.map (delE ents r)).ids, i ∈ (O.map ents).ids := by
  intro i hi
  obtain ⟨p, hp, hq⟩ := List.mem_flatMap.1 hi
  refine List.mem_flatMap.2 ⟨p, ?_, hq⟩
  unfold delE at hp
  split at hp
  · exact List.mem_of_mem_eraseIdx hp
  · exact hp
include hT
theorem eff_put {o : Oper} {st : St} {t : Nat} {x k v : Operand} {j kt e : Nat} {key y : A1} {ents : List (A1 × A1)} {r : Option (Nat × A1)} (h : HPut T ops o st t x k v j kt e key y ents r) :
    Eff P T kp ops o st ⟨st.s, upd st.m j (some (.map (putE key y ents r)))⟩ := by
  have yl : ∀ {i : Nat}, WF st → i ∈ y.ids → (st.m i).isSome = true := fun {i} hw hi => by
    have : ∀ {a : A}, valA a = some y → i ∈ a.ids := fun {a} ha => by
      unfold valA at ha
      split at ha
      · cases ha; simp [A1.ids] at hi
      · exact down_ids ha i hi
    have hi' := this h.val
    cases hv : v with
    | tmp t => rw [hv] at hi'; exact hw.ids t i hi'
    | const c => rw [hv] at hi'; simp only [ev, ofConst_ids] at hi'; simp at hi'
    | func f => rw [hv] at hi'; simp [ev, A.ids] at hi'
    | global g => rw [hv] at hi'; simp [ev, A.ids] at hi'
  have kl : key.ids = [] := by
    have := h.keyed
    unfold toKey at this
    split at this <;> cases this <;> rfl
  have live : WF st → ∀ i ∈ (O.map (putE key y ents r)).ids, (st.m i).isSome = true := fun hw i hi => by
    rcases setEnts_ids i hi with q | q | q
    · exact hw.live j _ h.obj i q
    · rw [kl] at q; simp at q
    · exact yl hw q
  have liv : ∀ i, (st.m i).isSome = true → (upd st.m j (some (O.map (putE key y ents r))) i).isSome = true := fun i hi => by
    unfold upd; split
    · rfl
    · exact hi
  have wf : WF st → WF ⟨st.s, upd st.m j (some (.map (putE key y ents r)))⟩ := fun hw => ⟨fun t i hi => liv i (hw.ids t i hi), fun id z hz i hi => by
    have hz : upd st.m j (some (O.map (putE key y ents r))) id = some z := hz
    unfold upd at hz
    split at hz
    · cases hz; exact liv i (live hw i hi)
    · exact liv i (hw.live id z hz i hi)⟩
  refine ⟨by rcases h.op with e | e <;> rw [e] <;> rfl, wf, fun R n0 ds a w K Q hR hr hd hK => ?_⟩
  obtain ⟨B, I, hm, hx0, hkp0, hs⟩ := hr.ex
  rw [want_snd hs h.want, if_pos rfl]
  have hx := ev_rv hs x
  rw [h.at_] at hx
  obtain ⟨hkr, -⟩ := toKey_r1 h.keyed (ev_rv hs k)
  obtain ⟨hyr, -⟩ := valA_r1 h.val (ev_rv hs v)
  have hfine := keyTy_fine (P := P) hT h.kty hkr
  have hmap := hT.map _ _ _ h.map
  obtain ⟨q, es, clock, hB, hheap, hes, hno⟩ := hm.objs j _ h.obj
  have hxv : a.eval x = .map (some q) := hx.1.trans hB
  have fin : ∃ es' clock', (Instr.mapUpdate t (a.eval x) (a.eval k) (a.eval v)).run P w = .ok () { w with heap := w.heap.setIfInBounds q (.map es' clock') } ∧ REs B w I (putE key y ents r) es'.toList := by
    rw [hxv]
    rcases find_snd hT h.kty hkr hes h.find with ⟨e1, e2⟩ | ⟨i, v', e', k', e1, e2, e3, e4, e5, e6⟩
    · subst e1
      refine ⟨es.push ⟨a.eval k, a.eval v, clock⟩, clock + 1, ?_, by simpa [putE] using hes.push (key, y) ⟨a.eval k, a.eval v, clock⟩ hkr hyr⟩
      simp [Instr.mapUpdate, run_underlying hmap, MapKept.run_getObj_map hheap, hfine.check, e2, MapKept.run_setObj_map _ hheap, Result.andThen]
    · subst e1
      have hj : es[i]? = some e' := by simpa using e3
      refine ⟨es.modify i (fun z => { z with key := a.eval k, val := a.eval v }), clock, ?_, ?_⟩
      · simp [Instr.mapUpdate, run_underlying hmap, MapKept.run_getObj_map hheap, hfine.check, e2, hj, e5, hfine.stays, MapKept.run_setObj_map _ hheap, Result.andThen]
      · rw [Array.toList_modify, ChangeMaps.modify_eq_set _ _ _ _ e3]
        exact hes.set i (key, y) _ hkr hyr
  obtain ⟨es', clock', r1, r2⟩ := fin
  obtain ⟨hm', hE⟩ := hm.mapTurn (clock' := clock') h.obj hB hheap hno r2 (live hr.wf)
  have hrun : (execOp a.eval o).run P w = .ok .skip { w with heap := w.heap.setIfInBounds q (.map es' clock') } := by
    rcases h.op with e | e <;> simp only [execOp, e, Sem.run_bind, r1, Result.andThen_ok] <;> rfl
  unfold Oper.wp Oper.upon
  rw [hrun]
  have hput : a.put o.dst undef = a := by rw [h.dst]; rfl
  show K (a.put o.dst undef) _
  rw [hput]
  exact hK _ _ ⟨⟨B, I, hm', hx0.trans hE, hkp0, fun t => (hs t).mono hE (fun _ _ => rfl)⟩, (wf hr.wf).ids, hr.size, hr.nn, hr.defs, fun j' hj' => liv j' (hr.kept j' hj')⟩
omit hT in
/-- A window becomes the row itself: whoever else spoke of the row is no longer told. -/
theorem SR.rewin {R : Ref} {n : Nat} {ds : List Deferred} {st : St} {a : Act} {w : World} (t id : Nat) {ty e lo hi : Nat} {xs : List (List C)} (hr : SR R n ds st a w) (htn : t ≠ DID) (ht : st.s t = .win id e lo hi) (hj : st.m id = some (.mrow ty e xs)) (hh : hi ≤ xs.length) (hkp : ¬ R.keep id) :
    SR R n ds ⟨upd (killS id st.s) t (.own id), upd (killM id st.m) id (some (.mrow ty e ((xs.take hi).drop lo)))⟩ a w := by
  obtain ⟨B, I, hm, hx0, hkp0, hs⟩ := hr.ex
  have hx := hs t
  rw [ht] at hx
  obtain ⟨ad, n0, cap, hB, hlo, hhi, hv⟩ := hx
  obtain ⟨vs, hrow, hvs, hlx, hno⟩ := hm.objs id _ hj
  have hn0 : n0 = xs.length ∧ xs.length ≤ cap := by
    obtain ⟨ad', cp, e5, e6⟩ := hrow.shape
    rw [hB] at e5; cases e5; exact ⟨rfl, e6⟩
  obtain ⟨rfl, hnc⟩ := hn0
  have hvl := hvs.length
  have hfl := flat_len hlx
  have hlen : ((xs.take hi).drop lo).length = hi - lo := by simp; omega
  have hl1 : vs.length = xs.length * e := hrow.1
  have hle1 : hi * e ≤ xs.length * e := Nat.mul_le_mul_right e hh
  have hle2 : lo * e ≤ hi * e := Nat.mul_le_mul_right e hlo
  have hsub : (hi - lo) * e = hi * e - lo * e := Nat.sub_mul ..
  generalize hv' : a.tmps.getD t undef = v' at hv
  have hvl' : ((vs.take (hi * e)).drop (lo * e)).length = (hi - lo) * e := by simp; omega
  have hrow' : rowAt w ty e v' (hi - lo) ((vs.take (hi * e)).drop (lo * e)) := by
    refine ⟨hvl', ?_⟩
    rcases hrow.2 with ⟨e1, e2⟩ | ⟨g, off, c, cur, e1, hg, hnc', hm', hsz, htk⟩
    · rw [hB] at e1
      simp only [Value.slice.injEq] at e1
      obtain ⟨rfl, -, rfl⟩ := e1
      obtain rfl : hi = 0 := by omega
      obtain rfl : lo = 0 := by omega
      exact .inl ⟨by rw [hv]; rfl, rfl⟩
    · rw [hB] at e1
      cases e1
      by_cases hcl : cap = lo
      · subst hcl
        obtain rfl : hi = cap := by omega
        refine .inr ⟨g, off, 0, cur, by rw [hv]; simp, hg, by omega, by omega, by omega, ?_⟩
        rw [Nat.sub_self, Nat.zero_mul, List.take_zero]
        exact (List.eq_nil_of_length_eq_zero (by rw [hvl']; simp)).symm
      · have hcs : (cap - lo) * e = cap * e - lo * e := Nat.sub_mul ..
        have hle3 : lo * e ≤ cap * e := Nat.mul_le_mul_right e (by omega)
        refine .inr ⟨g, off + lo * e, cap - lo, cur, by rw [hv, if_neg hcl]; simp [Addr.add], hg, by omega, by omega, by omega, ?_⟩
        rw [← htk, List.take_take, Nat.min_eq_left (by omega), List.drop_take, List.drop_drop, ← hsub]
  have hob : v'.ownBlock = (B id).ownBlock ∨ v'.ownBlock = none := by
    rw [hv, hB]
    cases ad with
    | none => right; split <;> rfl
    | some z =>
      left
      split
      · rfl
      · obtain ⟨zb, zo, zs⟩ := z
        simp only [Value.ownBlock, Addr.add, Option.map_some]
        split <;> rfl
  have hflat : flat ((xs.take hi).drop lo) = ((flat xs).take (hi * e)).drop (lo * e) := by
    have ft : ∀ (k : Nat) (l : List (List C)), (∀ x ∈ l, x.length = e) → flat (l.take k) = (flat l).take (k * e) := by
      intro k
      induction k with
      | zero => intro l _; simp [flat]
      | succ k ih =>
        intro l hl
        cases l with
        | nil => simp [flat]
        | cons x l =>
          have hx := hl x (by simp)
          have := ih l (fun y hy => hl y (List.mem_cons_of_mem _ hy))
          have hk : (k + 1) * e = e + k * e := by rw [Nat.add_mul]; omega
          simp only [flat, List.take_succ_cons, List.flatten_cons] at this ⊢
          have h1 : x.length ≤ e + k * e := by omega
          have h2 : e + k * e - x.length = k * e := by omega
          rw [this, hk, List.take_append, List.take_of_length_le h1, h2]
    have fd : ∀ (k : Nat) (l : List (List C)), (∀ x ∈ l, x.length = e) → flat (l.drop k) = (flat l).drop (k * e) := by
      intro k
      induction k with
      | zero => intro l _; simp [flat]
      | succ k ih =>
        intro l hl
        cases l with
        | nil => simp [flat]
        | cons x l =>
          have hx := hl x (by simp)
          have := ih l (fun y hy => hl y (List.mem_cons_of_mem _ hy))
          have hk : (k + 1) * e = e + k * e := by rw [Nat.add_mul]; omega
          simp only [flat, List.drop_succ_cons, List.flatten_cons] at this ⊢
          have h1 : x.length ≤ e + k * e := by omega
          have h2 : e + k * e - x.length = k * e := by omega
          rw [this, hk, List.drop_append, List.drop_eq_nil_of_le h1, h2, List.nil_append]
    rw [fd _ _ (fun x hx => hlx x (List.mem_of_mem_take hx)), ft _ _ hlx]
  have hm' := hm.reval (id := id) (o' := .mrow ty e ((xs.take hi).drop lo)) (v' := v') (w' := w) (I' := I) hj rfl rfl rfl (Nat.le_refl _) (fun _ _ _ => rfl)
    (fun k hk => by
      have hk : (upd B id v' id).ownBlock = some k := hk
      rw [upd_same] at hk
      rcases hob with q | q
      · rw [q] at hk; exact ⟨(hm.low id _ hj k hk).2, .inl hk⟩
      · rw [q] at hk; cases hk)
    (Ext.refl _ _) (fun b p hp => .inl hp)
    ⟨_, by rw [upd_same, hlen]; exact hrow', by rw [hflat]; exact (hvs.take _).drop _, fun x hx => hlx x (List.mem_of_mem_take (List.mem_of_mem_drop hx)), fun b hb p hp => by
      rw [upd_same] at hb
      rcases hob with q | q
      · rw [q] at hb; exact hno b hb p hp
      · rw [q] at hb; cases hb⟩ (fun i hi => by simp [O.ids] at hi)
  have hwf := killW hr.wf hj (o' := .mrow ty e ((xs.take hi).drop lo)) (fun i hi => by simp [O.ids] at hi) t (.own id) (fun i hi => by simp [A.ids] at hi; subst hi; simp [hj])
  refine ⟨⟨_, I, hm', hx0, fun j hj' => ?_, fun t' => ?_⟩, hwf.ids, hr.size, hr.nn, ?_, fun j hj' => ?_⟩
  · rw [upd_ne _ _ (fun e => by subst e; exact hkp hj')]; exact hkp0 j hj'
  · by_cases htt : t' = t
    · subst htt
      show RV _ _ _ (upd _ t' _ t') _
      rw [upd_same, hv']
      obtain ⟨ad', cp', q, -⟩ := hrow'.shape
      exact ⟨(upd_same ..).symm, _, _, _, q⟩
    · show RV _ _ _ (upd _ t _ t') _
      rw [upd_ne _ _ htt]
      rcases (A.kill_ids (id := id) (a := st.s t')).2 with q | ⟨q, hnn⟩
      · rw [killS_app, q]; trivial
      · rw [killS_app, q]
        exact (hs t').mono (Ext.refl _ _) fun j hj => upd_ne _ _ (fun e => hnn (e ▸ hj))
  · show a.defers = dfs (upd (killS id st.s) t (.own id) DID) ++ ds
    rw [upd_ne _ _ (fun q => htn q.symm), killS_app, dfs_kill]; exact hr.defs
  · have := hr.kept j hj'
    show (upd (killM id st.m) id _ j).isSome = true
    unfold upd; split
    · rfl
    · simpa [killM_app] using this
omit hT in
theorem W.rewin {R : Ref} {n : Nat} {ds : List Deferred} {st : St} {c : Code} {K : Exit → St → Prop} (t id : Nat) {ty e lo hi : Nat} {xs : List (List C)} (htn : t ≠ DID) (ht : st.s t = .win id e lo hi) (hj : st.m id = some (.mrow ty e xs)) (hh : hi ≤ xs.length) (hkp : ¬ R.keep id)
    (h : W P R n ds ⟨upd (killS id st.s) t (.own id), upd (killM id st.m) id (some (.mrow ty e ((xs.take hi).drop lo)))⟩ c K) : W P R n ds st c K :=
  fun a w hr => h a w (hr.rewin t id htn ht hj hh hkp)
theorem runk_put {base : Nat} {o : Oper} {l : List Oper} {st : St} {k : St → Prop} {t : Nat} {x kx v : Operand} {j kt e : Nat} {key y : A1} {ents : List (A1 × A1)} {r : Option (Nat × A1)} (h : wantA ops o st.s = some true) (hop : o.op = .mapUpdate t x kx v ∨ o.op = .insert t x kx v) (hd : o.dst = none)
    (hx : ev st.s x = .map j) (hm : st.m j = some (.map ents)) (h1 : T.map t = some (kt, e)) (hk : toKey (ev st.s kx) = some key) (hkt : keyTy T kt key = true) (hv : valA (ev st.s v) = some y) (hf : findE key ents = some r)
    (ht2 : RunK P T kp base ops l ⟨st.s, upd st.m j (some (.map (putE key y ents r)))⟩ k) : RunK P T kp base ops (o :: l) st k :=
  runk_step (.eff (eff_put hT ⟨h, hop, hd, hx, hm, h1, hk, hkt, hv, hf⟩)) ht2
end V
end Go.Proofs.Ytgaipdillmleeaa
end
section
/- Maps from names to one, of the call's own: a name put, a name struck out; an empty map is one. -/
set_option linter.unusedVariables false
set_option linter.unusedSimpArgs false
namespace Go.Proofs.Ytgaipdillmleeaa
namespace V
open Go.RowKit
/-- A string's bytes. -/
def bs (s : ByteArray) : List UInt8 := s.data.toList
/-- A name put among rising ones. -/
def insN (s : List UInt8) : List (List UInt8) → List (List UInt8)
  | [] => [s]
  | t :: l => if s = t then t :: l else if s < t then s :: t :: l else t :: insN s l
def delN (s : List UInt8) (L : List (List UInt8)) : List (List UInt8) := L.filter fun t => t != s
theorem mem_insN {s x : List UInt8} : ∀ {L : List (List UInt8)}, x ∈ insN s L ↔ x = s ∨ x ∈ L
  | [] => by simp [insN]
  | t :: l => by
    have ih := mem_insN (s := s) (x := x) (L := l)
    unfold insN
    split
    · rename_i e; subst e; simp
    · split
      · simp
      · rw [List.mem_cons, ih, List.mem_cons]
        constructor
        · rintro (h | h | h)
          · exact .inr (.inl h)
          · exact .inl h
          · exact .inr (.inr h)
        · rintro (h | h | h)
          · exact .inr (.inl h)
          · exact .inl h
          · exact .inr (.inr h)
theorem mem_delN {s x : List UInt8} {L : List (List UInt8)} : x ∈ delN s L ↔ x ∈ L ∧ x ≠ s := by unfold delN; simp
theorem bs_inj {a b : ByteArray} (h : bs a = bs b) : a = b := WideShapes.bytes_inj h
theorem NM.empty {clock : Nat} : NM #[] clock (some []) := ⟨MapKept.stamped_empty _, fun e he => by simp at he, fun L hL s => by cases hL; simp⟩
theorem NM.forget {es : Array MapEntry} {clock : Nat} {o : Option (List (List UInt8))} (h : NM es clock o) : NM es clock none := ⟨h.stamped, h.each, fun L hL => by cases hL⟩
theorem NM.push {es : Array MapEntry} {clock : Nat} {L : List (List UInt8)} (h : NM es clock (some L)) {s : ByteArray} (hs : s.size ≤ maxStr) (hn : ∀ e ∈ es.toList, e.key ≠ .string s) : NM (es.push ⟨.string s, .int .i64 1, clock⟩) (clock + 1) (some (insN (bs s) L)) := by
  refine ⟨MapKept.stamped_push h.stamped hn, fun e he => ?_, fun L' hL t => ?_⟩
  · rw [Array.toList_push] at he
    rcases List.mem_append.1 he with he | he
    · exact h.each e he
    · obtain rfl := List.mem_singleton.1 he
      exact ⟨s, rfl, hs, rfl⟩
  · cases hL
    rw [mem_insN, Array.toList_push]
    constructor
    · rintro ⟨e, he, hk⟩
      rcases List.mem_append.1 he with he | he
      · exact .inr ((h.told L rfl t).1 ⟨e, he, hk⟩)
      · obtain rfl := List.mem_singleton.1 he
        cases hk; exact .inl rfl
    · rintro (e | ht)
      · have e := bs_inj (show bs t = bs s from e)
        exact ⟨⟨.string s, .int .i64 1, clock⟩, List.mem_append_right _ (by simp), by rw [e]⟩
      · obtain ⟨e, he, hk⟩ := (h.told L rfl t).2 ht
        exact ⟨e, List.mem_append_left _ he, hk⟩
theorem NM.again {es : Array MapEntry} {clock : Nat} {L : List (List UInt8)} (h : NM es clock (some L)) {s : ByteArray} {i : Nat} {e : MapEntry} (hi : es[i]? = some e) (hk : e.key = .string s) : NM (es.modify i fun z => { z with key := .string s, val := .int .i64 1 }) clock (some (insN (bs s) L)) := by
  have hst := MapKept.stamped_modify h.stamped i (fun z => { z with key := .string s, val := .int .i64 1 }) (fun _ _ => rfl) (fun x _ hx => by rw [hi] at hx; cases hx; exact hk.symm)
  have hi' : es.toList[i]? = some e := by simpa using hi
  have hv : e.val = .int .i64 1 := by obtain ⟨_, _, _, h3⟩ := h.each e (List.mem_of_getElem? hi'); exact h3
  have he : { e with key := Value.string s, val := Value.int .i64 1 } = e := by rw [← hk, ← hv]
  have hsame : (es.modify i fun z => { z with key := .string s, val := .int .i64 1 }).toList = es.toList := by
    rw [Array.toList_modify, ChangeMaps.modify_eq_set _ _ _ _ hi', he]
    refine List.ext_getElem? fun k => ?_
    rw [List.getElem?_set]
    split
    · rename_i e2; subst e2
      rw [if_pos (List.getElem?_eq_some_iff.1 hi').1, hi']
    · rfl
  refine ⟨hst, fun x hx => h.each x (by rw [hsame] at hx; exact hx), fun L' hL t => ?_⟩
  cases hL
  rw [hsame, h.told L rfl t, mem_insN]
  refine ⟨.inr, fun q => q.elim (fun q => ?_) id⟩
  obtain rfl := bs_inj (show bs t = bs s from q)
  exact (h.told L rfl t).1 ⟨e, List.mem_of_getElem? hi', hk⟩
theorem NM.absent {es : Array MapEntry} {clock : Nat} {L : List (List UInt8)} (h : NM es clock (some L)) {s : ByteArray} (hn : ∀ e ∈ es.toList, e.key ≠ .string s) : NM es clock (some (delN (bs s) L)) := by
  refine ⟨h.stamped, h.each, fun L' hL t => ?_⟩
  cases hL
  rw [mem_delN, h.told L rfl t]
  refine ⟨fun q => ⟨q, fun e => ?_⟩, fun q => q.1⟩
  obtain rfl := bs_inj (show bs t = bs s from e)
  obtain ⟨e, he, hk⟩ := (h.told L rfl t).2 q
  exact hn e he hk
theorem NM.strike {es : Array MapEntry} {clock : Nat} {L : List (List UInt8)} (h : NM es clock (some L)) {s : ByteArray} {i : Nat} {e : MapEntry} (hi : es[i]? = some e) (hk : e.key = .string s) : NM (es.eraseIdxIfInBounds i) clock (some (delN (bs s) L)) := by
  have hi' : es.toList[i]? = some e := by simpa using hi
  have hlt : i < es.size := (Array.getElem?_eq_some_iff.1 hi).1
  have hl : (es.eraseIdxIfInBounds i).toList = es.toList.eraseIdx i := by
    unfold Array.eraseIdxIfInBounds
    rw [dif_pos hlt, Array.toList_eraseIdx]
  have hnd := (MapKept.stamped_iff es clock).1 h.stamped |>.2.2
  have hmem : ∀ x, x ∈ es.toList.eraseIdx i ↔ x ∈ es.toList ∧ x.key ≠ .string s := fun x => by
    rw [List.mem_eraseIdx_iff_getElem?]
    constructor
    · rintro ⟨k, hki, hkx⟩
      refine ⟨List.mem_of_getElem? hkx, fun hxs => ?_⟩
      obtain ⟨l1, e1⟩ := List.getElem?_eq_some_iff.1 hkx
      obtain ⟨l2, e2⟩ := List.getElem?_eq_some_iff.1 hi'
      have hp := List.pairwise_iff_getElem.1 hnd
      rcases Nat.lt_or_gt_of_ne hki with q | q
      · have := hp k i l1 l2 q
        rw [e1, e2, hk, hxs] at this; exact this rfl
      · have := hp i k l2 l1 q
        rw [e1, e2, hk, hxs] at this; exact this rfl
    · rintro ⟨hx, hne⟩
      obtain ⟨k, hkx⟩ := List.getElem?_of_mem hx
      refine ⟨k, fun q => ?_, hkx⟩
      subst q
      rw [hi'] at hkx; cases hkx
      exact hne hk
  refine ⟨MapKept.stamped_erase h.stamped i, fun x hx => h.each x (by rw [hl] at hx; exact ((hmem x).1 hx).1), fun L' hL t => ?_⟩
  cases hL
  rw [hl, mem_delN, ← show bs t = t.data.toList from rfl]
  constructor
  · rintro ⟨x, hx, hxt⟩
    obtain ⟨h1, h2⟩ := (hmem x).1 hx
    refine ⟨(h.told L rfl t).1 ⟨x, h1, hxt⟩, fun q => h2 ?_⟩
    rw [hxt, bs_inj q]
  · rintro ⟨ht, hne⟩
    obtain ⟨x, hx, hxt⟩ := (h.told L rfl t).2 ht
    exact ⟨x, (hmem x).2 ⟨hx, fun q => hne (by rw [hxt] at q; cases q; rfl)⟩, hxt⟩
section
variable {P : Go.Program} {T : Tab} {w0 w : World} {I0 I : Nat → Nat → Prop} {B : Nat → Value} {m : Mem}
/-- Such a map's block turns. -/
theorem MR.nameTurn (h : MR w0 I0 B I m w) {j r : Nat} {x : O} {o' : Option (List (List UInt8))} {es es' : Array MapEntry} {clock clock' : Nat} (hj : m j = some x) (hf : foot B j x r) (hB : B j = .map (some r)) (hh : w.heap[r]? = some (.map es clock)) (hno : ∀ p, ¬ I r p) (hn : NM es' clock' o') :
    MR w0 I0 B I (upd m j (some (.names o'))) { w with heap := w.heap.setIfInBounds r (.map es' clock') } ∧ Ext w { w with heap := w.heap.setIfInBounds r (.map es' clock') } I I := by
  have hs := MapKept.heap_set (o' := .map es' clock') hh
  refine h.turn hj (b := r) hf (fun k hk => ?_) hno rfl rfl rfl (by simp) (fun k hk => hs.2 k hk) (fun i hi => by simp [O.ids] at hi) (fun hE => ⟨r, es', clock', hB, hs.1, hn, hno⟩)
  have hk : B j = .map (some k) := hk
  rw [hB] at hk; cases hk; rfl
/-- Two ways to speak of one piece. -/
theorem MR.tellN (h : MR w0 I0 B I m w) {j : Nat} {x y : O} (hj : m j = some x) (hy : y.ids = []) (hf : ∀ k, foot B j y k → foot B j x k) (hr : RO B w I j x → RO B w I j y) : MR w0 I0 B I (upd m j (some y)) w := by
  have other : ∀ {i : Nat} {z : O}, upd m j (some y) i = some z → (i = j ∧ z = y) ∨ (i ≠ j ∧ m i = some z) := fun {i z} hz => by
    unfold upd at hz
    split at hz
    · rename_i e; exact .inl ⟨e, (Option.some.inj hz).symm⟩
    · rename_i e; exact .inr ⟨e, hz⟩
  refine ⟨h.below, h.glob, h.base, h.old, h.there, fun i z hz => ?_, fun i z hz k hk => ?_, fun i z i' z' hz hz' hne k hk hk' => ?_, fun i z hz q hq => ?_⟩
  · rcases other hz with ⟨rfl, rfl⟩ | ⟨-, hz⟩
    · exact hr (h.objs _ x hj)
    · exact h.objs i z hz
  · rcases other hz with ⟨rfl, rfl⟩ | ⟨-, hz⟩
    · exact h.low _ x hj k (hf k hk)
    · exact h.low i z hz k hk
  · rcases other hz with ⟨e1, e2⟩ | ⟨-, hz1⟩
    · rcases other hz' with ⟨e3, e4⟩ | ⟨-, hz2⟩
      · exact hne (e1.trans e3.symm)
      · rw [e1, e2] at hk
        exact h.apart j x i' z' hj hz2 (fun q => hne (e1.trans q)) k (hf k hk) hk'
    · rcases other hz' with ⟨e3, e4⟩ | ⟨-, hz2⟩
      · rw [e3, e4] at hk'
        exact h.apart i z j x hz1 hj (fun q => hne (q.trans e3.symm)) k hk (hf k hk')
      · exact h.apart i z i' z' hz1 hz2 hne k hk hk'
  · rcases other hz with ⟨rfl, rfl⟩ | ⟨-, hz⟩
    · rw [hy] at hq; cases hq
    · have := h.live i z hz q hq
      unfold upd; split
      · rfl
      · exact this
theorem SR.tellN {R : Ref} {n : Nat} {ds : List Deferred} {st : St} {a : Act} {w : World} (hr : SR R n ds st a w) {j : Nat} {x y : O} (hj : st.m j = some x) (hy : y.ids = []) (hf : ∀ B k, foot B j y k → foot B j x k) (hro : ∀ B w I, RO B w I j x → RO B w I j y) : SR R n ds ⟨st.s, upd st.m j (some y)⟩ a w := by
  obtain ⟨B, I, hm, hx0, hkp0, hs⟩ := hr.ex
  have liv : ∀ i, (st.m i).isSome = true → (upd st.m j (some y) i).isSome = true := fun i hi => by
    unfold upd; split
    · rfl
    · exact hi
  exact ⟨⟨B, I, hm.tellN hj hy (hf B) (hro B w I), hx0, hkp0, hs⟩, fun t i hi => liv i (hr.wf.ids t i hi), hr.size, hr.nn, hr.defs, fun k hk => liv k (hr.kept k hk)⟩
/-- An empty map is one from names to one. -/
theorem W.mapNames {R : Ref} {n : Nat} {ds : List Deferred} {st : St} {c : Code} {K : Exit → St → Prop} (j : Nat) (hj : st.m j = some (.map [])) (h : W P R n ds ⟨st.s, upd st.m j (some (.names (some [])))⟩ c K) : W P R n ds st c K := fun a w hr =>
  h a w (hr.tellN hj rfl (fun B k hk => hk) fun B w I ⟨r, es, clock, h1, h2, h3, h4⟩ => by
    have he : es = #[] := by
      have : es.toList = [] := by
        cases hl : es.toList with
        | nil => rfl
        | cons e l => rw [hl] at h3; exact absurd h3 (fun q => q)
      exact Array.toList_eq_nil_iff.1 this
    subst he
    exact ⟨r, _, clock, h1, h2, NM.empty, h4⟩)
end
variable {P : Go.Program} {T : Tab} (hT : T.Ok P) {kp : Nat → Prop} {ops : Array Oper}
structure HNm (T : Tab) (ops : Array Oper) (o : Oper) (st : St) (t : Nat) (x k : Operand) (j kt e : Nat) (s : ByteArray) (L : List (List UInt8)) : Prop where
  want : wantA ops o st.s = some true
  dst : o.dst = none
  at_ : ev st.s x = .map j
  obj : st.m j = some (.names (some L))
  map : T.map t = some (kt, e)
  keyed : ev st.s k = .c (.str s)
  kty : keyTy T kt (.c (.str s)) = true
include hT
/-- What the key finds. -/
theorem nm_find {B : Nat → Value} {w : World} {I : Nat → Nat → Prop} {es : Array MapEntry} {clock kt : Nat} {L : List (List UInt8)} (hn : NM es clock (some L)) {s : ByteArray} (hk : keyTy T kt (.c (.str s)) = true) (hr : R1 B w I (.c (.str s)) (.string s)) :
    ((Instr.findKey kt (.string s) es.toList).run P w = .ok none w ∧ ∀ e ∈ es.toList, e.key ≠ .string s) ∨ ∃ q e, (Instr.findKey kt (.string s) es.toList).run P w = .ok (some (q, e.val)) w ∧ es[q]? = some e ∧ e.key = .string s := by
  have hes := entsN_res (B := B) (w := w) (I := I) hn.each
  rcases findN hn.each s with ⟨hf, hno⟩ | ⟨q, e, hf, hq', hk'⟩
  · rcases find_snd hT hk hr hes hf with ⟨-, e2⟩ | ⟨q', v', e', k', e1, -⟩
    · exact .inl ⟨e2, hno⟩
    · cases e1
  · rcases find_snd hT hk hr hes hf with ⟨e1, -⟩ | ⟨q', v', e', k', e1, e2, e3, e4, e5, e6⟩
    · cases e1
    · cases e1
      exact .inr ⟨_, e', e2, by simpa using e3, e5⟩
omit hT in
theorem nm_wf {st : St} {j : Nat} {o : Option (List (List UInt8))} (hw : WF st) : WF ⟨st.s, upd st.m j (some (.names o))⟩ := by
  have liv : ∀ i, (st.m i).isSome = true → (upd st.m j (some (O.names o)) i).isSome = true := fun i hi => by
    unfold upd; split
    · rfl
    · exact hi
  refine ⟨fun t i hi => liv i (hw.ids t i hi), fun id z hz i hi => ?_⟩
  have hz : upd st.m j (some (O.names o)) id = some z := hz
  unfold upd at hz
  split at hz
  · cases hz; simp [O.ids] at hi
  · exact liv i (hw.live id z hz i hi)
theorem eff_putN {o : Oper} {st : St} {t : Nat} {x k v : Operand} {j kt e : Nat} {s : ByteArray} {L : List (List UInt8)} (h : HNm T ops o st t x k j kt e s L) (hop : o.op = .mapUpdate t x k v) (hv : ev st.s v = .c (.int .i64 1)) :
    Eff P T kp ops o st ⟨st.s, upd st.m j (some (.names (some (insN (bs s) L))))⟩ := by
  refine ⟨by rw [hop]; rfl, nm_wf, fun R n0 ds a w K Q hR hr hd hK => ?_⟩
  obtain ⟨B, I, hm, hx0, hkp0, hs⟩ := hr.ex
  rw [want_snd hs h.want, if_pos rfl]
  have hx := ev_rv hs x
  rw [h.at_] at hx
  have hkr := ev_rv hs k
  rw [h.keyed] at hkr
  have hks : a.eval k = .string s ∧ s.size ≤ maxStr := by
    have hkr : RC w I (a.eval k) (.str s) := hkr
    generalize a.eval k = kv at hkr
    cases hkr with
    | str q => exact ⟨rfl, q⟩
  have hvr := ev_rv hs v
  rw [hv] at hvr
  have hvs : a.eval v = .int .i64 1 := by
    have hvr : RC w I (a.eval v) (.int .i64 1) := hvr
    generalize a.eval v = vv at hvr
    cases hvr; rfl
  have hk1 : R1 B w I (.c (.str s)) (.string s) := .str hks.2
  have hfine := keyTy_fine (P := P) hT h.kty hk1
  have hmap := hT.map _ _ _ h.map
  obtain ⟨q, es, clock, hB, hheap, hnm, hno⟩ := hm.objs j _ h.obj
  have hxv : a.eval x = .map (some q) := hx.1.trans hB
  have fin : ∃ es' clock', (Instr.mapUpdate t (a.eval x) (a.eval k) (a.eval v)).run P w = .ok () { w with heap := w.heap.setIfInBounds q (.map es' clock') } ∧ NM es' clock' (some (insN (bs s) L)) := by
    rw [hxv, hks.1, hvs]
    rcases nm_find hT hnm h.kty hk1 with ⟨e2, e3⟩ | ⟨i, e', e2, hj, e5⟩
    · refine ⟨_, clock + 1, ?_, hnm.push hks.2 e3⟩
      simp [Instr.mapUpdate, run_underlying hmap, MapKept.run_getObj_map hheap, hfine.check, e2, MapKept.run_setObj_map _ hheap, Result.andThen]
    · refine ⟨_, clock, ?_, hnm.again hj e5⟩
      simp [Instr.mapUpdate, run_underlying hmap, MapKept.run_getObj_map hheap, hfine.check, e2, hj, e5, hfine.stays, MapKept.run_setObj_map _ hheap, Result.andThen]
  obtain ⟨es', clock', r1, r2⟩ := fin
  obtain ⟨hm', hE⟩ := hm.nameTurn (clock' := clock') h.obj hB hB hheap hno r2
  have hrun : (execOp a.eval o).run P w = .ok .skip { w with heap := w.heap.setIfInBounds q (.map es' clock') } := by
    simp only [execOp, hop, Sem.run_bind, r1, Result.andThen_ok]; rfl
  unfold Oper.wp Oper.upon
  rw [hrun]
  have hput : a.put o.dst undef = a := by rw [h.dst]; rfl
  show K (a.put o.dst undef) _
  rw [hput]
  have liv : ∀ i, (st.m i).isSome = true → (upd st.m j (some (O.names (some (insN (bs s) L)))) i).isSome = true := fun i hi => by
    unfold upd; split
    · rfl
    · exact hi
  exact hK _ _ ⟨⟨B, I, hm', hx0.trans hE, hkp0, fun t => (hs t).mono hE (fun _ _ => rfl)⟩, (nm_wf hr.wf).ids, hr.size, hr.nn, hr.defs, fun j' hj' => liv j' (hr.kept j' hj')⟩
theorem eff_delN {o : Oper} {st : St} {c : Call} {t kt' : Nat} {x k : Operand} {j kt e : Nat} {s : ByteArray} {L : List (List UInt8)} (h : HNm T ops o st t x k j kt e s L) (hop : o.op = .call c) (hc : c.callee = .builtin .delete) (ha : c.args = #[x, k]) (ht : c.argTypes = #[t, kt']) :
    Eff P T kp ops o st ⟨st.s, upd st.m j (some (.names (some (delN (bs s) L))))⟩ := by
  refine ⟨by rw [hop]; simp [kind, hc], nm_wf, fun R n0 ds a w K Q hR hr hd hK => ?_⟩
  obtain ⟨B, I, hm, hx0, hkp0, hs⟩ := hr.ex
  rw [want_snd hs h.want, if_pos rfl]
  have hx := ev_rv hs x
  rw [h.at_] at hx
  have hkr := ev_rv hs k
  rw [h.keyed] at hkr
  have hks : a.eval k = .string s ∧ s.size ≤ maxStr := by
    have hkr : RC w I (a.eval k) (.str s) := hkr
    generalize a.eval k = kv at hkr
    cases hkr with
    | str q => exact ⟨rfl, q⟩
  have hk1 : R1 B w I (.c (.str s)) (.string s) := .str hks.2
  have hfine := keyTy_fine (P := P) hT h.kty hk1
  have hmap := hT.map _ _ _ h.map
  obtain ⟨q, es, clock, hB, hheap, hnm, hno⟩ := hm.objs j _ h.obj
  have hxv : a.eval x = .map (some q) := hx.1.trans hB
  have fin : ∃ es' clock', (Builtin.delete_ #[t, kt'] o.type #[a.eval x, a.eval k]).run P w = .ok (.tuple #[]) { w with heap := w.heap.setIfInBounds q (.map es' clock') } ∧ NM es' clock' (some (delN (bs s) L)) := by
    rw [hxv, hks.1]
    rcases nm_find hT hnm h.kty hk1 with ⟨e2, e3⟩ | ⟨i, e', e2, hj, e5⟩
    · refine ⟨es, clock, ?_, hnm.absent e3⟩
      simp [Builtin.delete_, run_underlying hmap, MapKept.run_getObj_map hheap, hfine.check, e2, MapKept.run_setObj_map _ hheap, Result.andThen]
    · refine ⟨es.eraseIdxIfInBounds i, clock, ?_, hnm.strike hj e5⟩
      simp [Builtin.delete_, run_underlying hmap, MapKept.run_getObj_map hheap, hfine.check, e2, MapKept.run_setObj_map _ hheap, Result.andThen]
  obtain ⟨es', clock', r1, r2⟩ := fin
  obtain ⟨hm', hE⟩ := hm.nameTurn (clock' := clock') h.obj hB hB hheap hno r2
  have hrun : (execOp a.eval o).run P w = .ok (.value (.tuple #[])) { w with heap := w.heap.setIfInBounds q (.map es' clock') } := by
    obtain ⟨cal, args, tys⟩ := c
    simp only at hc ha ht
    subst hc ha ht
    simp only [execOp, hop, resolve, invoke, builtin, Sem.run_bind, Sem.run_pure, Result.andThen_ok, List.map_toArray, List.map_cons, List.map_nil, r1]
  unfold Oper.wp Oper.upon
  rw [hrun]
  have hput : a.put o.dst (.tuple #[]) = a := by rw [h.dst]; rfl
  show K (a.put o.dst (.tuple #[])) _
  rw [hput]
  have liv : ∀ i, (st.m i).isSome = true → (upd st.m j (some (O.names (some (delN (bs s) L)))) i).isSome = true := fun i hi => by
    unfold upd; split
    · rfl
    · exact hi
  exact hK _ _ ⟨⟨B, I, hm', hx0.trans hE, hkp0, fun t => (hs t).mono hE (fun _ _ => rfl)⟩, (nm_wf hr.wf).ids, hr.size, hr.nn, hr.defs, fun j' hj' => liv j' (hr.kept j' hj')⟩
theorem runk_putN {base : Nat} {o : Oper} {l : List Oper} {st : St} {K : St → Prop} {t : Nat} {x kx v : Operand} {j kt e : Nat} {s : ByteArray} {L : List (List UInt8)} (h : wantA ops o st.s = some true) (hop : o.op = .mapUpdate t x kx v) (hd : o.dst = none)
    (hx : ev st.s x = .map j) (hm : st.m j = some (.names (some L))) (h1 : T.map t = some (kt, e)) (hk : ev st.s kx = .c (.str s)) (hkt : keyTy T kt (.c (.str s)) = true) (hv : ev st.s v = .c (.int .i64 1))
    (ht2 : RunK P T kp base ops l ⟨st.s, upd st.m j (some (.names (some (insN (bs s) L))))⟩ K) : RunK P T kp base ops (o :: l) st K :=
  runk_step (.eff (eff_putN hT ⟨h, hd, hx, hm, h1, hk, hkt⟩ hop hv)) ht2
theorem runk_delN {base : Nat} {o : Oper} {l : List Oper} {st : St} {K : St → Prop} {c : Call} {t kt' : Nat} {x kx : Operand} {j kt e : Nat} {s : ByteArray} {L : List (List UInt8)} (h : wantA ops o st.s = some true) (hop : o.op = .call c) (hc : c.callee = .builtin .delete) (ha : c.args = #[x, kx]) (ht : c.argTypes = #[t, kt']) (hd : o.dst = none)
    (hx : ev st.s x = .map j) (hm : st.m j = some (.names (some L))) (h1 : T.map t = some (kt, e)) (hk : ev st.s kx = .c (.str s)) (hkt : keyTy T kt (.c (.str s)) = true)
    (ht2 : RunK P T kp base ops l ⟨st.s, upd st.m j (some (.names (some (delN (bs s) L))))⟩ K) : RunK P T kp base ops (o :: l) st K :=
  runk_step (.eff (eff_delN hT ⟨h, hd, hx, hm, h1, hk, hkt⟩ hop hc ha ht)) ht2
end V
end Go.Proofs.Ytgaipdillmleeaa
end
section
/- Which variables have a value: in plain words. -/
set_option linter.unusedVariables false
namespace Go.Proofs.Ytgaipdillmleeaa
namespace AS
open V
abbrev Nm := List UInt8
def hasB (L : List Nm) (s : ByteArray) : Bool := L.contains (bs s)
mutual
/-- All variables of an expression have a value. -/
def askB (L : List Nm) : Expr → Bool
  | ⟨k, _, nm, kids⟩ => (!decide (k = 4) || hasB L nm) && askBs L kids
def askBs (L : List Nm) : List Expr → Bool
  | [] => true
  | x :: l => askB L x && askBs L l
end
def ownB (k : Int) : List Expr → Bool
  | x :: _ => decide (k = 2) && decide (x.kind = 4)
  | [] => false
/-- What a statement asks. -/
def asksB (k : Int) (es : List Expr) : List Expr := if ownB k es = true then (match es with | x :: l => x.kids ++ l | [] => []) else es
def headN : List Expr → Nm
  | x :: _ => bs x.name
  | [] => []
def meetO : Option (List Nm) → Option (List Nm) → Option (List Nm)
  | none, b => b
  | a, none => a
  | some A, some B => some (A.filter fun s => B.contains s)
mutual
/-- The program's: behind one statement. -/
def stepB (L : List Nm) : Stmt → Option (List Nm) × Bool
  | ⟨k, _, _, nm, es, th, el⟩ =>
    if askBs L (asksB k es) = false then (none, false)
    else if k = 1 then (some (if es.isEmpty = true then delN (bs nm) L else insN (bs nm) (delN (bs nm) L)), true)
    else if k = 2 then (some (if ownB k es = true then insN (headN es) L else L), true)
    else if k = 3 then (meetO (runB L th).1 (runB L el).1, (runB L th).2 && (runB L el).2)
    else if k = 4 then (some L, (runB L th).2)
    else if k = 6 then (none, true)
    else (some L, true)
/-- .. behind some. -/
def runB (L : List Nm) : List Stmt → Option (List Nm) × Bool
  | [] => (some L, true)
  | x :: l =>
    match stepB L x with
    | (_, false) => (none, false)
    | (none, true) => (match l with | [] => (none, true) | _ :: _ => (none, false))
    | (some L', true) => runB L' l
end
def putAll : List Nm → List Nm → List Nm
  | L, [] => L
  | L, s :: l => putAll (insN s L) l
/-- Behind statements: the names, whether it returns. -/
def sureB (have_ : List Nm) (body : List Stmt) : Option (Option (List Nm)) := match runB (putAll [] have_) body with
  | (o, true) => some o
  | (_, false) => none
end AS
end Go.Proofs.Ytgaipdillmleeaa
end
section
/- Pieces that a call made. -/
set_option linter.unusedVariables false
set_option linter.unusedSimpArgs false
namespace Go.Proofs.Ytgaipdillmleeaa
open Go.RowKit
namespace V
section
variable {w0 w w' : World} {I0 I I' : Nat → Nat → Prop} {B : Nat → Value} {M : Mem}
theorem foot_congr {B B' : Nat → Value} {j : Nat} {o : O} {k : Nat} (h : B' j = B j) : foot B' j o k = foot B j o k := by
  cases o <;> simp only [foot, h]
/-- A piece that a call has made. -/
theorem MR.fresh (h : MR w0 I0 B I M w) {id : Nat} (hid : M id = none) {v : Value} {o' : O} (hb : Below w.heap.size w w') (hf : ∀ k, foot (upd B id v) id o' k → w.heap.size ≤ k ∧ k < w'.heap.size) (hE : Ext w w' I I')
    (hI' : ∀ b p, I' b p → I b p ∨ foot (upd B id v) id o' b) (hob : RO (upd B id v) w' I' id o') (hl : o'.ids = []) : MR w0 I0 (upd B id v) I' (upd M id (some o')) w' := by
  have hne : ∀ j, (M j).isSome = true → j ≠ id := fun j hj e => by subst e; rw [hid] at hj; cases hj
  have hB : ∀ j, (M j).isSome = true → upd B id v j = B j := fun j hj => upd_ne _ _ (hne j hj)
  have liv : ∀ j, (M j).isSome = true → (upd M id (some o') j).isSome = true := fun j hj => by rw [upd_ne _ _ (hne j hj)]; exact hj
  have other : ∀ {j : Nat} {z : O}, upd M id (some o') j = some z → (j = id ∧ z = o') ∨ (j ≠ id ∧ M j = some z) := fun {j z} hz => by
    unfold upd at hz
    split at hz
    · rename_i e; exact .inl ⟨e, (Option.some.inj hz).symm⟩
    · rename_i e; exact .inr ⟨e, hz⟩
  have hs0 := h.below.size
  refine ⟨h.below.trans ⟨hb.os, hb.tape, hb.output, hb.size, fun b hlt => hb.block b (Nat.lt_of_lt_of_le hlt hs0)⟩, h.glob, fun b o h0 => hE.more _ _ (h.base b o h0), fun b o hi => ?_, fun b o hi => ?_, fun j z hz => ?_, fun j z hz k hk => ?_, fun j z j' z' hz hz' hjj k hk hk' => ?_, fun j z hz i hi => ?_⟩
  · rcases hI' b o hi with hi | hi
    · exact h.old b o hi
    · exact .inr (Nat.le_trans hs0 (hf b hi).1)
  · rcases hI' b o hi with hi | hi
    · exact Nat.lt_of_lt_of_le (h.there b o hi) hb.size
    · exact (hf b hi).2
  · rcases other hz with ⟨rfl, rfl⟩ | ⟨hj, hz⟩
    · exact hob
    · refine RO.mono hE (hB j (by simp [hz])) (fun i hi => hB i (h.live j z hz i hi)) (fun k hk => hb.block k (h.low j z hz k hk).2) (fun k hk p hp => ?_) (h.objs j z hz)
      rcases hI' k p hp with hp | hp
      · exact hp
      · exact absurd (hf k hp).1 (Nat.not_le.2 (h.low j z hz k hk).2)
  · rcases other hz with ⟨rfl, rfl⟩ | ⟨hj, hz⟩
    · exact ⟨Nat.le_trans hs0 (hf k hk).1, (hf k hk).2⟩
    · rw [foot_congr (hB j (by simp [hz]))] at hk
      exact ⟨(h.low j z hz k hk).1, Nat.lt_of_lt_of_le (h.low j z hz k hk).2 hb.size⟩
  · rcases other hz with ⟨e1, e2⟩ | ⟨hj, hy⟩
    · rcases other hz' with ⟨e3, e4⟩ | ⟨hj', hy'⟩
      · exact hjj (e1.trans e3.symm)
      · rw [foot_congr (hB j' (by simp [hy']))] at hk'
        rw [e1, e2] at hk
        exact absurd (hf k hk).1 (Nat.not_le.2 (h.low j' z' hy' k hk').2)
    · rw [foot_congr (hB j (by simp [hy]))] at hk
      rcases other hz' with ⟨e3, e4⟩ | ⟨hj', hy'⟩
      · rw [e3, e4] at hk'
        exact absurd (hf k hk').1 (Nat.not_le.2 (h.low j z hy k hk).2)
      · rw [foot_congr (hB j' (by simp [hy']))] at hk'
        exact h.apart j z j' z' hy hy' hjj k hk hk'
  · rcases other hz with ⟨rfl, rfl⟩ | ⟨hj, hz⟩
    · rw [hl] at hi; cases hi
    · exact liv i (h.live j z hz i hi)
end
end V
end Go.Proofs.Ytgaipdillmleeaa
end
section
/- A row of the call's own that is turned no more: its cells are data from here on. -/
set_option linter.unusedVariables false
set_option linter.unusedSimpArgs false
namespace Go.Proofs.Ytgaipdillmleeaa
namespace V
open Go.RowKit
section
variable {w0 w : World} {I0 I : Nat → Nat → Prop} {B : Nat → Value} {m : Mem}
/-- More cells that do not change. -/
theorem MR.moreI (h : MR w0 I0 B I m w) {N : Nat → Nat → Prop} (hN : ∀ b o, N b o → w0.heap.size ≤ b ∧ b < w.heap.size ∧ ∀ j z, m j = some z → ¬ foot B j z b) : MR w0 I0 B (fun b o => I b o ∨ N b o) m w :=
  ⟨h.below, h.glob, fun b o k => .inl (h.base b o k), fun b o k => k.elim (h.old b o) fun k => .inr (hN b o k).1, fun b o k => k.elim (h.there b o) fun k => (hN b o k).2.1,
    fun j z hz => RO.mono ⟨fun _ _ k => .inl k, fun _ _ _ => rfl⟩ rfl (fun _ _ => rfl) (fun _ _ => rfl) (fun k hk p hp => hp.elim id fun hp => absurd hk ((hN k p hp).2.2 j z hz)) (h.objs j z hz), h.low, h.apart, h.live⟩
theorem MR.freeze (h : MR w0 I0 B I m w) {id : Nat} {ty : TypeId} {e : Nat} {xs : List (List C)} (hid : m id = some (.mrow ty e xs)) :
    ∃ I', MR w0 I0 (upd B id (.slice none 0 0)) I' (upd (killM id m) id (some (.arr ty e []))) w ∧ Ext w w I I' ∧ RC w I' (B id) (.sl xs) := by
  have hob := h.objs id _ hid
  obtain ⟨vs, hrow, hvs, hlx, hnI⟩ := hob
  have hnew : RO (upd B id (.slice none 0 0)) w I id (.arr ty e []) := ⟨[], ⟨by simp, .inl ⟨upd_same .., rfl⟩⟩, trivial, (fun x hx => by cases hx), (fun b hb o => by rw [upd_same] at hb; cases hb)⟩
  have h1 := h.reval (v' := .slice none 0 0) (o' := .arr ty e []) (w' := w) (I' := I) hid rfl rfl rfl (Nat.le_refl _) (fun _ _ _ => rfl) (fun k hk => by
      have hk : (upd B id (.slice none 0 0) id).ownBlock = some k := hk
      rw [upd_same] at hk; cases hk) (Ext.refl _ _) (fun b p k => .inl k)
    hnew (fun i hi => by simp [O.ids] at hi)
  have h2 := h1.moreI (N := fun b o => (B id).ownBlock = some b) (fun b o hb => by
    have hf : foot B id (.mrow ty e xs) b := hb
    refine ⟨(h.low id _ hid b hf).1, (h.low id _ hid b hf).2, fun j z hz hk => ?_⟩
    unfold upd at hz
    split at hz
    · rename_i ej
      cases hz
      subst ej
      have hk : (upd B j (.slice none 0 0) j).ownBlock = some b := hk
      rw [upd_same] at hk; cases hk
    · rename_i ej
      rw [killM_app] at hz
      cases hmj : m j with
      | none => rw [hmj] at hz; cases hz
      | some z0 =>
        rw [hmj] at hz
        cases hz
        exact h.apart j z0 id _ hmj hid ej b ((foot_kill (upd_ne _ _ ej)).1 hk) hf)
  refine ⟨_, h2, ⟨fun _ _ k => .inl k, fun _ _ _ => rfl⟩, ?_⟩
  have hvs' : RCs w (fun b o => I b o ∨ (B id).ownBlock = some b) vs (flat xs) := hvs.mono ⟨fun _ _ k => .inl k, fun _ _ _ => rfl⟩
  obtain ⟨hl, ho⟩ := hrow
  rcases ho with ⟨ev, hn⟩ | ⟨g, off, cap, cur, ev, hcell, q1, q2, q3, q4⟩
  · obtain rfl : xs = [] := List.length_eq_zero_iff.1 hn
    rw [ev]
    exact RC.sl (e := 0) (fun _ _ => undef) rfl (Nat.le_refl _) (Nat.zero_le _) (fun x hx => by cases hx) (fun i x hx => by simp at hx) (fun i j x c hx _ => by simp at hx)
  · have hat : ∀ i j x, xs[i]? = some x → j < e → i * e + j < xs.length * e := fun i j x hx hj => by
      have hi := (List.getElem?_eq_some_iff.1 hx).1
      have : (i + 1) * e ≤ xs.length * e := Nat.mul_le_mul_right _ hi
      rw [Nat.add_mul] at this
      omega
    rw [ev] at hvs' ⊢
    refine RC.sl (e := e) (fun i j => vs.getD (i * e + j) undef) rfl q1 q2 hlx (fun i x hx => ⟨g, off, rfl, fun j hj => ⟨.inr rfl, ?_⟩⟩) (fun i j x c hx hc => ?_)
    · have hlt := hat i j x hx hj
      have hcur : cur[off + (i * e + j)]? = vs[i * e + j]? := by
        rw [← q4, List.getElem?_take, if_pos hlt, List.getElem?_drop, Array.getElem?_toList]
      rw [Nat.add_assoc]
      have hv : vs[i * e + j]? = some (vs.getD (i * e + j) undef) := by
        rw [List.getD_eq_getElem?_getD, List.getElem?_eq_getElem (by omega)]; rfl
      rw [← hv, ← hcur]
      simp [World.cell?, hcell]
    · have hj : j < e := by rw [← hlx x (List.mem_of_getElem? hx)]; exact (List.getElem?_eq_some_iff.1 hc).1
      have hfl := flat_at hlx i j x hx hj
      rw [hc] at hfl
      obtain ⟨u, hu, hr⟩ := hvs'.at _ _ hfl
      rw [List.getD_eq_getElem?_getD, hu]
      exact hr
end
section
variable {P : Go.Program}
/-- The rule: one slot holds it as data; whatever else pointed there is forgotten. -/
theorem W.freeze {R : Ref} {n : Nat} {ds : List Deferred} {st : St} {c : Code} {K : Exit → St → Prop} (t id : Nat) {ty : TypeId} {e : Nat} {xs : List (List C)} (ht : st.s t = .own id) (hid : st.m id = some (.mrow ty e xs)) (hkp : ¬ R.keep id)
    (h : W P R n ds ⟨upd (killS id st.s) t (.c (.sl xs)), upd (killM id st.m) id (some (.arr ty e []))⟩ c K) : W P R n ds st c K := by
  intro a w hr
  refine h a w ?_
  obtain ⟨⟨B, I, hm, hx0, hkp0, hs⟩, h2, h3, hnn, h4, h5⟩ := hr
  obtain ⟨I', hm', hE, hrc⟩ := hm.freeze hid
  have hBne : ∀ j, j ≠ id → upd B id (.slice none 0 0) j = B j := fun j hj => upd_ne _ _ hj
  have liv : ∀ i, (st.m i).isSome = true → (upd (killM id st.m) id (some (.arr ty e [])) i).isSome = true := fun i hi => by
    unfold upd; split
    · rfl
    · rw [killM_app]; simpa using hi
  have hown : RV B w I (.own id) (a.tmps.getD t undef) := ht ▸ hs t
  have hval : a.tmps.getD t undef = B id := hown.1
  refine ⟨⟨_, I', hm', hx0.trans hE, fun j hj => (hBne j (fun e => hkp (e ▸ hj))).trans (hkp0 j hj), fun u => ?_⟩, fun u j hj => ?_, h3, hnn, ?_, fun i hi => liv i (h5 i hi)⟩
  · show RV _ w I' (upd (killS id st.s) t (.c (.sl xs)) u) _
    by_cases hu : u = t
    · subst hu
      rw [upd_same, hval]
      exact hrc
    · rw [upd_ne _ _ hu, killS_app]
      rcases (A.kill_ids (id := id) (a := st.s u)).2 with k | ⟨k, hn⟩
      · rw [k]; trivial
      · rw [k]
        exact (hs u).mono hE fun i hi => hBne i (fun e => hn (e ▸ hi))
  · have hj : j ∈ (upd (killS id st.s) t (.c (.sl xs)) u).ids := hj
    by_cases hu : u = t
    · subst hu; rw [upd_same] at hj; simp [A.ids] at hj
    · rw [upd_ne _ _ hu, killS_app] at hj
      exact liv j (h2 u j ((A.kill_ids (id := id) (a := st.s u)).1 j hj).1)
  · show _ = dfs (upd (killS id st.s) t (.c (.sl xs)) DID) ++ ds
    by_cases e : DID = t
    · rw [← e, upd_same]
      rw [← e] at ht
      rw [ht] at h4
      exact h4
    · rw [upd_ne _ _ e, killS_app, dfs_kill]
      exact h4
end
end V
end Go.Proofs.Ytgaipdillmleeaa
end
section
/- Calls that turn pieces of their caller's: a contract out of a walk over a memory of which only some pieces are told. -/
set_option linter.unusedVariables false
set_option linter.unusedSimpArgs false
namespace Go.Proofs.Ytgaipdillmleeaa
namespace V
open Go.RowKit
theorem mle_both {m m' : Mem} {j : Nat} {o : O} (h : MLe m m') : MLe (upd m j (some o)) (upd m' j (some o)) := fun u => by
  unfold upd; split
  · exact .inr rfl
  · exact h u
theorem mle_refl' {m m' : Mem} (h : m = m') : MLe m m' := h ▸ mle_refl m
theorem mle_skip {m m' : Mem} {j : Nat} {x : Option O} (h : MLe m m') (hj : m' j = none) : MLe (upd m j x) m' := fun u => by
  unfold upd; split
  · rename_i e; subst e; exact .inl hj
  · exact h u
theorem upd_upd {α : Type} (f : Nat → α) (t : Nat) (x y : α) : upd (upd f t x) t y = upd f t y := by
  funext u; unfold upd; split <;> rfl
theorem upd_comm {α : Type} (f : Nat → α) {s t : Nat} (x y : α) (h : s ≠ t) : upd (upd f s x) t y = upd (upd f t y) s x := by
  funext u; unfold upd
  by_cases e1 : u = t
  · by_cases e2 : u = s
    · exact absurd (e2.symm.trans e1) h
    · simp [e1, Ne.symm h]
  · simp [e1]
theorem upd_id {α : Type} (f : Nat → α) {t : Nat} {x : α} (h : f t = x) : upd f t x = f := by
  funext u; unfold upd; split
  · rename_i e; subst e; exact h.symm
  · rfl
/-- The names of a caller's memory. -/
theorem base_ne {M : Mem} {b0 : Nat} (hM : ∀ d, M (b0 + d) = none) {p : Nat} {o : O} (h : M p = some o) (d : Nat) : (p = b0 + d) = False := by
  refine eq_false fun e => ?_
  subst e; rw [hM] at h; cases h
theorem base_ne' {M : Mem} {b0 : Nat} (hM : ∀ d, M (b0 + d) = none) {p : Nat} {o : O} (h : M p = some o) (d : Nat) : (b0 + d = p) = False := by
  refine eq_false fun e => ?_
  subst e; rw [hM] at h; cases h
theorem base_more {M : Mem} {b0 : Nat} (hM : ∀ d, M (b0 + d) = none) (k : Nat) : ∀ d, M (b0 + k + d) = none := fun d => by rw [Nat.add_assoc]; exact hM _
theorem base_upd {M : Mem} {b0 k : Nat} (hM : ∀ d, M (b0 + d) = none) {j : Nat} {o : Option O} (hj : j < b0 + k) : ∀ d, (upd M j o) (b0 + k + d) = none := fun d => by
  rw [upd_ne _ _ (by omega), Nat.add_assoc]; exact hM _
theorem mwf_some {M : Mem} {j : Nat} {o : O} (hw : WFm M) (ho : ∀ i ∈ o.ids, (upd M j (some o) i).isSome = true) : WFm (upd M j (some o)) := fun id z hz i hi => by
  unfold upd at hz
  split at hz
  · cases hz; exact ho i hi
  · have := hw id z hz i hi
    unfold upd; split
    · rfl
    · exact this
theorem live_upd {M : Mem} {j : Nat} {o : O} : ∀ i, (M i).isSome = true → (upd M j (some o) i).isSome = true := fun i hi => by
  unfold upd; split
  · rfl
  · exact hi
theorem ren1_id : A1.ren (fun j => j) = id := funext fun a => by cases a <;> rfl
theorem ren_id : A.ren (fun j => j) = id := funext fun a => by cases a <;> simp [A.ren, ren1_id]
theorem renO_id (o : O) : O.ren (fun j => j) o = o := by cases o <;> simp [O.ren, ren1_id, ren_id]
/-- A function with effects, out of its body. -/
theorem ok_eff {P : Go.Program} {T : Tab} (hT : T.Ok P) {f : FuncId} {fn : Func} {c : Code} {l : List ResultVar} {args : List A} {M : Mem} (D : List Nat) {r : A} {M' : Mem} (hf : P.funcs[f]? = some fn) (hn : (fn.name == "runtime.NumGoroutine") = false) (hb : fn.body = some c) (hl : fn.results.toList = l)
    (hle : decide (args.length ≤ fn.ntmps ∧ fn.ntmps ≤ DID) = true) (hdf : args.all (fun a => !(match a with | .defs _ => true | _ => false)) = true) (hids : ∀ a ∈ args, ∀ j ∈ a.ids, (M j).isSome = true) (hr : ∀ j ∈ r.ids, (M' j).isSome = true) (hsub : ∀ j, (M j).isSome = true → (M' j).isSome = true) (hwm : WFm M → WFm M')
    (hW : WFm M → ∀ R : Ref, R.keep = (fun j => (M j).isSome = true ∧ j ∉ D) → W P R fn.ntmps [] ⟨entry args, M⟩ c (fun e st => (e = .normal ∨ e = .ret) ∧ dfs (st.s DID) = [] ∧ resE T st l = some r ∧ MLe st.m M')) : CallE P f args M D r M' := by
  refine ⟨enters_of hf hn hb, hr, hsub, hwm, ?_⟩
  intro w0 I0 B I w vals hm hv
  have hWF : WFm M := hm.live
  refine (call_eff hT (D := D) hf hb hl (of_decide_eq_true hle).1 (of_decide_eq_true hle).2 hids (fun a ha l e => by have := List.all_eq_true.1 hdf a ha; subst e; simp at this) (enters_of hf hn hb) hr hsub hwm (fun R hR => ?_)).2.2.2.2 w0 I0 B I w vals hm hv
  refine W.mono (hW hWF R hR) fun e st ⟨h1, h2, h3, h4⟩ => ⟨h1, h2, fun j => j, r, h3, ?_⟩
  have hwf' : WFm M' := hwm hWF
  refine ⟨fun t => .inr ?_, fun j o ho => ?_, fun i j _ _ e => e, ⟨fun t j hj => ?_, hwf'⟩, fun j hj => ?_, ?_⟩
  · show (upd (fun _ => A.top) 0 r t).ren (fun j => j) = _
    rw [ren_id]; rfl
  · rw [renO_id]
    rcases h4 j with q | q
    · rw [show (⟨upd (fun _ => A.top) 0 r, M'⟩ : St).m j = M' j from rfl, q] at ho; cases ho
    · exact q.symm.trans ho
  · show (M' j).isSome = true
    have hj : j ∈ (upd (fun _ => A.top) 0 r t).ids := hj
    unfold upd at hj
    split at hj
    · exact hr j hj
    · simp [A.ids] at hj
  · rw [hR] at hj
    exact ⟨rfl, hsub j hj.1⟩
  · show dfs (upd (fun _ => A.top) 0 r DID) = dfs (upd (fun _ => A.top) 0 r DID)
    rfl
theorem mwf_base {M m : Mem} (hw : WFm M) (h : ∀ i, (M i).isSome = true → (m i).isSome = true) : MWf m M := fun id o ho j hj => h j (hw id o ho j hj)
/-- What no piece of the caller's speaks of. -/
theorem kill_free {M : Mem} {id : Nat} (hw : WFm M) (hM : M id = none) : killM id M = M := by
  funext j
  rw [killM_app]
  cases hj : M j with
  | none => rfl
  | some o =>
    rw [Option.map_some]
    congr 1
    have hno : id ∉ o.ids := fun h => by have := hw j o hj id h; rw [hM] at this; cases this
    cases o with
    | box ty cells =>
      simp only [O.kill, O.box.injEq, true_and]
      refine (List.map_congr_left fun a ha => ?_).trans (List.map_id _)
      rcases (A.kill_ids (id := id) (a := a)).2 with e | ⟨e, -⟩
      · have hn : id ∉ a.ids := fun h => hno (List.mem_flatMap.2 ⟨a, ha, h⟩)
        have : ∀ a : A, id ∉ a.ids → a.kill id = a := fun a hn => by
          cases a with
          | ptr j off => simp only [A.ids, List.mem_singleton] at hn; simp [A.kill, Ne.symm hn]
          | own j => simp only [A.ids, List.mem_singleton] at hn; simp [A.kill, Ne.symm hn]
          | fn f ids => simp only [A.ids] at hn; simp [A.kill, hn]
          | pinP v j off => simp only [A.ids, List.mem_singleton] at hn; simp [A.kill, Ne.symm hn]
          | eptr j e i f => simp only [A.ids, List.mem_singleton] at hn; simp [A.kill, Ne.symm hn]
          | win j e lo hi => simp only [A.ids, List.mem_singleton] at hn; simp [A.kill, Ne.symm hn]
          | map j => simp only [A.ids, List.mem_singleton] at hn; simp [A.kill, Ne.symm hn]
          | tupA xs => simp only [A.ids] at hn; simp only [A.kill]; rw [if_neg (by simpa using hn)]
          | aggA xs => simp only [A.ids] at hn; simp only [A.kill]; rw [if_neg (by simpa using hn)]
          | _ => rfl
        exact this a hn
      · exact e
    | rows ty xs =>
      simp only [O.kill, O.rows.injEq, true_and]
      refine (List.map_congr_left fun a ha => ?_).trans (List.map_id _)
      have hn : id ∉ a.ids := fun h => hno (List.mem_flatMap.2 ⟨a, ha, h⟩)
      unfold A1.kill
      rw [if_neg (by simpa using hn)]; rfl
    | map ents =>
      simp only [O.kill, O.map.injEq]
      refine (List.map_congr_left fun p hp => ?_).trans (List.map_id _)
      have hn : id ∉ p.1.ids ++ p.2.ids := fun h => hno (List.mem_flatMap.2 ⟨p, hp, h⟩)
      rw [List.mem_append, not_or] at hn
      unfold A1.kill
      rw [if_neg (by simpa using hn.1), if_neg (by simpa using hn.2)]; rfl
    | _ => rfl
theorem kill_own {M : Mem} {id : Nat} {x y : Option O} (hw : WFm M) (hM : M id = none) : upd (killM id (upd M id x)) id y = upd M id y := by
  funext j
  unfold upd
  split
  · rfl
  · rename_i e
    show ((if j = id then x else M j).map (O.kill id)) = M j
    rw [if_neg e]
    exact congrFun (kill_free hw hM) j
/-- A slot with a row that only grew is data. -/
theorem W.asData {P : Go.Program} {R : Ref} {n : Nat} {ds : List Deferred} {st : St} {c : Code} {K : Exit → St → Prop} (t : Nat) {x : C} (h : asC st.m (st.s t) = some x) (hc : W P R n ds ⟨upd st.s t (.c x), st.m⟩ c K) (htd : t ≠ DID) : W P R n ds st c K := by
  intro a w hr
  refine hc a w ?_
  obtain ⟨⟨B, I, hm, hx0, hkp0, hs⟩, h2, h3, hnn, h4, h5⟩ := hr
  refine ⟨⟨B, I, hm, hx0, hkp0, fun u => ?_⟩, fun u j hj => ?_, h3, hnn, ?_, h5⟩
  · show RV B w I (upd st.s t (.c x) u) _
    by_cases hu : u = t
    · subst hu; rw [upd_same]; exact asC_rc hm h (hs u)
    · rw [upd_ne _ _ hu]; exact hs u
  · replace hj : j ∈ (upd st.s t (.c x) u).ids := hj
    by_cases hu : u = t
    · subst hu; rw [upd_same] at hj; simp [A.ids] at hj
    · rw [upd_ne _ _ hu] at hj; exact h2 u j hj
  · show _ = dfs (upd st.s t (.c x) DID) ++ ds
    rw [upd_ne _ _ (fun e => htd e.symm)]; exact h4
end V
end Go.Proofs.Ytgaipdillmleeaa
end
section
/- Maps from names to one: maps.Clone, maps.DeleteFunc, slices.Sorted of maps.Keys. -/
set_option linter.unusedVariables false
set_option linter.unusedSimpArgs false
namespace Go.Proofs.Ytgaipdillmleeaa
namespace V
open Go.RowKit Go.Maps Go.WideElems
section
variable {P : Go.Program} {k e : TypeId} (hk : P.underlying k = some .string) (he : P.underlying e = some (.int .i64))
abbrev RN (P : Go.Program) (e : TypeId) : Value → Option (DataW Unit × List MemPlace) := plainElem P e
theorem nodup_len {α : Type} [BEq α] [LawfulBEq α] : ∀ {l L : List α}, l.Nodup → (∀ x ∈ l, x ∈ L) → l.length ≤ L.length
  | [], _, _, _ => Nat.zero_le _
  | x :: l, L, h, hs => by
    rw [List.nodup_cons] at h
    have hx := hs x (by simp)
    have ih := nodup_len (l := l) (L := L.erase x) h.2 fun y hy => by
      have hne : y ≠ x := fun e => h.1 (e ▸ hy)
      exact (List.mem_erase_of_ne hne).2 (hs y (List.mem_cons_of_mem _ hy))
    have h1 := List.length_erase_of_mem hx
    have h2 : 0 < L.length := List.length_pos_of_mem hx
    rw [List.length_cons]; omega
def keyB (x : MapEntry) : List UInt8 := match x.key with | .string s => bs s | _ => []
theorem NM.len {es : Array MapEntry} {clock : Nat} {L : List (List UInt8)} (h : NM es clock (some L)) : es.size ≤ L.length := by
  have hnd := (MapKept.stamped_iff es clock).1 h.stamped |>.2.2
  have h1 : (es.toList.map keyB).Nodup := by
    rw [List.Nodup, List.pairwise_map]
    refine List.Pairwise.imp_of_mem (fun {a b} ha hb hab => ?_) hnd
    obtain ⟨s, h1, -⟩ := h.each a ha
    obtain ⟨t, h2, -⟩ := h.each b hb
    intro hq
    unfold keyB at hq
    rw [h1, h2] at hq
    exact hab (by rw [h1, h2, bs_inj hq])
  have := nodup_len h1 (L := L) fun x hx => by
    obtain ⟨y, hy, rfl⟩ := List.mem_map.1 hx
    obtain ⟨s, h1, -⟩ := h.each y hy
    unfold keyB
    rw [h1]
    exact (h.told L rfl s).1 ⟨y, hy, h1⟩
  rwa [List.length_map, Array.length_toList] at this
include hk he
theorem rd_nm {x : MapEntry} {s : ByteArray} (h1 : x.key = .string s) (h2 : s.size ≤ maxStr) (h3 : x.val = .int .i64 1) : rd P k (RN P e) x = some (.string (bs s), .lit (.int .i64 1)) := by
  obtain ⟨key, val, born⟩ := x
  simp only at h1 h3
  subst h1 h3
  exact rd_mk (WideMaps.keyOf_string_mk hk (by unfold maxStr at h2; unfold maxLen; omega)) (plainElem_int he (by decide))
theorem NM.fit {es : Array MapEntry} {clock : Nat} {o : Option (List (List UInt8))} (h : NM es clock o) (hs : es.size ≤ maxLen) : Fit P k (RN P e) es clock :=
  ⟨hs, h.stamped, fun x hx => by obtain ⟨s, h1, h2, h3⟩ := h.each x hx; exact ⟨_, rd_nm hk he h1 h2 h3⟩⟩
omit hk he in
/-- The datum of such a map. -/
def dN (P : Go.Program) (k e : TypeId) (es : Array MapEntry) : List (Lit × DataW Unit) := (es.toList.map (rg P k (RN P e))).foldr DataW.insert []
theorem mem_dN {es : Array MapEntry} {clock : Nat} {o : Option (List (List UInt8))} (h : NM es clock o) {q : Lit × DataW Unit} : q ∈ dN P k e es ↔ ∃ x ∈ es.toList, ∃ s : ByteArray, x.key = .string s ∧ s.size ≤ maxStr ∧ q = (.string (bs s), .lit (.int .i64 1)) := by
  unfold dN
  rw [(WideShapes.sorted_perm _).mem_iff, List.mem_map]
  constructor
  · rintro ⟨x, hx, rfl⟩
    obtain ⟨s, h1, h2, h3⟩ := h.each x hx
    exact ⟨x, hx, s, h1, h2, rg_of (rd_nm hk he h1 h2 h3)⟩
  · rintro ⟨x, hx, s, h1, h2, rfl⟩
    obtain ⟨s', h1', -, h3⟩ := h.each x hx
    exact ⟨x, hx, rg_of (rd_nm hk he h1 h2 h3)⟩
theorem NM.owns {w : World} {r : Nat} {es : Array MapEntry} {clock : Nat} {o : Option (List (List UInt8))} (h : NM es clock o) (hs : es.size ≤ maxLen) (hh : w.heap[r]? = some (.map es clock)) : w.ownsMap P k (RN P e) r es.size (.map (dN P k e es)) :=
  ⟨es, clock, hh, h.fit hk he hs, Nat.le_refl _, rfl⟩
/-- What is left when some names have been struck out. -/
theorem NM.ofOwns {w' : World} {r n : Nat} {es : Array MapEntry} {clock : Nat} {L : List (List UInt8)} (h : NM es clock (some L)) {p : List UInt8 → Bool} (ho : w'.ownsMap P k (RN P e) r n (.map ((dN P k e es).filter fun q => !(match q.1 with | .string b => p b | _ => false)))) : ∃ es' clock', w'.heap[r]? = some (.map es' clock') ∧ NM es' clock' (some (L.filter fun b => !p b)) := by
  obtain ⟨es', clock', hh, F, -, hD⟩ := ho
  have hD : (dN P k e es).filter _ = (es'.toList.map (rg P k (RN P e))).foldr DataW.insert [] := DataW.map.inj hD
  have hm : ∀ q, q ∈ es'.toList.map (rg P k (RN P e)) ↔ ∃ x ∈ es.toList, ∃ s : ByteArray, x.key = .string s ∧ s.size ≤ maxStr ∧ q = (.string (bs s), .lit (.int .i64 1)) ∧ p (bs s) = false := fun q => by
    rw [← (WideShapes.sorted_perm _).mem_iff, ← hD, List.mem_filter, mem_dN hk he h]
    constructor
    · rintro ⟨⟨x, hx, s, h1, h2, rfl⟩, h3⟩
      exact ⟨x, hx, s, h1, h2, rfl, by simpa using h3⟩
    · rintro ⟨x, hx, s, h1, h2, rfl, h3⟩
      exact ⟨⟨x, hx, s, h1, h2, rfl⟩, by simp [h3]⟩
  have he' : ∀ x ∈ es'.toList, ∃ s : ByteArray, x.key = .string s ∧ s.size ≤ maxStr ∧ x.val = .int .i64 1 ∧ (∃ y ∈ es.toList, y.key = .string s) ∧ p (bs s) = false := fun x hx => by
    obtain ⟨y, hy⟩ := F.reads x hx
    obtain ⟨x0, hx0, s, h1, h2, h3, h4⟩ := (hm (rg P k (RN P e) x)).1 (List.mem_map_of_mem hx)
    rw [rg_of hy] at h3
    subst h3
    obtain ⟨u, hu1, hu2, -⟩ := Maps.keyOf_str hk (rd_key hy)
    obtain ⟨z, hz1, hz2⟩ := rd_val hy
    obtain ⟨a, ha1, ha2, -⟩ := plainElem_int_inv he hz1
    rw [ha2] at hz2
    have ha : a = 1 := by simpa using hz2.symm
    have hus : u = bs s := by simpa using hu2.symm
    have hkey : x.key = .string s := by
      rw [hu1, hus]
      show Value.string ⟨(bs s).toArray⟩ = _
      unfold bs
      rw [Array.toArray_toList]
    exact ⟨s, hkey, h2, by rw [ha1, ha], ⟨x0, hx0, h1⟩, h4⟩
  refine ⟨es', clock', hh, F.stamped, fun x hx => ?_, fun L' hL t => ?_⟩
  · obtain ⟨s, h1, h2, h3, -⟩ := he' x hx
    exact ⟨s, h1, h2, h3⟩
  · cases hL
    rw [List.mem_filter]
    constructor
    · rintro ⟨x, hx, hxt⟩
      obtain ⟨s, h1, h2, h3, ⟨y, hy, hys⟩, h4⟩ := he' x hx
      rw [h1] at hxt
      cases hxt
      exact ⟨(h.told L rfl _).1 ⟨y, hy, hys⟩, by show (!p (bs t)) = true; rw [h4]; rfl⟩
    · rintro ⟨ht, hp⟩
      obtain ⟨y, hy, hyt⟩ := (h.told L rfl t).2 ht
      obtain ⟨s', h1', h2', -⟩ := h.each y hy
      rw [hyt] at h1'
      cases h1'
      obtain ⟨x, hx, hxe⟩ := List.mem_map.1 ((hm (.string (bs t), .lit (.int .i64 1))).2 ⟨y, hy, t, hyt, h2', rfl, by have hp : (!p (bs t)) = true := hp; simpa using hp⟩)
      obtain ⟨s, h1, h2, h3, -⟩ := he' x hx
      refine ⟨x, hx, ?_⟩
      rw [rg_of (rd_nm hk he h1 h2 h3)] at hxe
      have : bs s = bs t := by simpa using (congrArg Prod.fst hxe)
      rw [h1, bs_inj this]
end
theorem strE : Try.prog.underlying 9 = some .string := Try.underlying9
theorem intE : Try.prog.underlying 3 = some (.int .i64) := Try.underlying3
/-- maps.Clone. -/
theorem cloneN_ok {M : Mem} {j q : Nat} {o : Option (List (List UInt8))} (hj : M j = some (.names o)) (hq : M q = none) : CallE Try.prog 27 [.map j] M [] (.map q) (upd M q (some (.names o))) := by
  refine ⟨enters_of Try.func27 (by kernel_rfl) rfl, fun i hi => ?_, fun i hi => live_upd i hi, fun hw => mwf_some hw (fun i hi => by simp [O.ids] at hi), ?_⟩
  · simp [A.ids] at hi; subst hi; rw [upd_same]; rfl
  intro w0 I0 B I w vals hm hv
  match vals, hv with
  | [v], ⟨h1, _⟩ =>
    obtain ⟨r, es, clock, hB, hh, hn, hno⟩ := hm.objs j _ hj
    obtain rfl : v = .map (some r) := h1.1.trans hB
    have hc := AnyW.maps_Clone Try.laysMClone r es clock w hh
    refine Calls.mono (P := Try.prog) (f := 27) hc ?_
    rintro e w' ⟨rfl, rfl⟩
    have hal := MapKept.heap_alloc w (.map es clock)
    have hb : Below w.heap.size w (w.alloc (.map es clock)) := (Below.refl _ w).alloc (Nat.le_refl _) _
    have hE : Ext w (w.alloc (.map es clock)) I I := ⟨fun _ _ k => k, fun b p k => hb.cell (p := ⟨b, p, none⟩) (hm.there b p k)⟩
    have hmr := hm.fresh (id := q) hq (v := .map (some w.heap.size)) (o' := .names o) hb (fun k hk => by
      have hk : upd B q (Value.map (some w.heap.size)) q = .map (some k) := hk
      rw [upd_same] at hk; cases hk
      exact ⟨Nat.le_refl _, by simp⟩) hE (fun b p hp => .inl hp) ⟨_, es, clock, upd_same .., hal.1, hn, fun p hp => by have := hm.there _ _ hp; omega⟩ rfl
    exact ⟨_, _, I, rfl, hmr, hE, fun i hi _ => upd_ne _ _ (fun e => by subst e; rw [hq] at hi; cases hi), (upd_same ..).symm, _, rfl⟩
/-- maps.DeleteFunc, with a closure that reads another one. -/
theorem delN_ok {M : Mem} {j q b g : Nat} {L Lb : List (List UInt8)} {ty : TypeId} (hj : M j = some (.names (some L))) (hL : L.length ≤ 1000000000000) (hq : M q = some (.box ty [.map b])) (hb : M b = some (.names (some Lb))) (hjb : j ≠ b) (eg : ∀ args w, (callFunc g args).run Try.prog w = .ok (.enter g args) w) {p : List UInt8 → Bool}
    (hg : ∀ (s : ByteArray) (a : Int) (W : World) (bx rb : Nat) (es : Array MapEntry) (clock : Nat), W.cell? ⟨bx, 0, none⟩ = some (.map (some rb)) → W.heap[rb]? = some (.map es clock) → NM es clock (some Lb) →
      Calls Try.prog g (#[.string s, .int .i64 a] ++ #[.pointer (some ⟨bx, 0, none⟩)]) W fun e w' => e = .returned (.bool (p (bs s))) ∧ w' = W) :
    CallE Try.prog 39 [.map j, .fn g [q]] M [] (.tup []) (upd M j (some (.names (some (L.filter fun s => !p s))))) := by
  refine ⟨enters_of Try.func39 (by kernel_rfl) rfl, fun i hi => by simp [A.ids] at hi, fun i hi => live_upd i hi, fun hw => mwf_some hw (fun i hi => by simp [O.ids] at hi), ?_⟩
  intro w0 I0 B I w vals hm hv
  match vals, hv with
  | [v, v2], ⟨h1, h2, _⟩ =>
    obtain ⟨r, es, clock, hB, hh, hn, hno⟩ := hm.objs j _ hj
    obtain rfl : v = .map (some r) := h1.1.trans hB
    obtain ⟨bx, vs, hBq, hhq, hvs, hnq⟩ := hm.objs q _ hq
    obtain ⟨rb, esb, clockb, hBb, hhb, hnb, hnob⟩ := hm.objs b _ hb
    have h2 : v2 = .func (.func g) #[] ([q].map B).toArray := h2
    have h2 : v2 = .func (.func g) #[] #[.pointer (some ⟨bx, 0, none⟩)] := by rw [h2]; simp [hBq]
    subst h2
    have hcell : w.cell? ⟨bx, 0, none⟩ = some (.map (some rb)) := by
      match vs, hvs with
      | [u], ⟨⟨hu, _⟩, _⟩ =>
        have hu : u = .map (some rb) := hu.1.trans hBb
        subst hu
        simp [World.cell?, hhq]
    have hrb : r ≠ rb := fun e => hm.apart j _ b _ hj hb hjb r (show B j = .map (some r) from hB) (show B b = .map (some r) from by rw [e]; exact hBb)
    have hrq : r ≠ bx := fun e => by subst e; rw [hh] at hhq; cases hhq
    have hsz : es.size ≤ maxLen := by have := hn.len; unfold maxLen; omega
    have hown := hn.owns strE intE hsz hh
    have hcon : Calls Try.prog 39 #[.map (some r), .func (.func g) #[] #[.pointer (some ⟨bx, 0, none⟩)]] w fun e w' => e = .returned (.tuple #[]) ∧ w'.ownsMap Try.prog 9 (RN Try.prog 3) r es.size (Lib.deleteFuncD (fun l _ => match l with | .string b => p b | _ => false) (.map (dN Try.prog 9 3 es))) ∧ w.grownBy w' (some r) :=
      AnyDf.maps_DeleteFunc Try.laysMDel (string_keyed strE) (RN Try.prog 3) (fun l _ => match l with | .string b => p b | _ => false) g #[.pointer (some ⟨bx, 0, none⟩)] r es.size _ w eg hown (fun W key val kl yd yp hgW hkl hvl => by
        obtain ⟨u, rfl, rfl, -⟩ := Maps.keyOf_str strE hkl
        obtain ⟨a, rfl, -, -⟩ := plainElem_int_inv intE hvl
        refine (hg ⟨u.toArray⟩ a W bx rb esb clockb (hgW.cell hcell (fun e => hrq (Option.some.inj e).symm)) ((hgW.block rb (Array.getElem?_eq_some_iff.1 hhb).1 (fun e => hrb (Option.some.inj e).symm)).trans hhb) hnb).mono ?_
        rintro e w' ⟨rfl, rfl⟩
        exact ⟨by simp [bs], World.grownBy.refl _ _⟩)
    refine hcon.mono ?_
    rintro e w' ⟨rfl, ho, hgr⟩
    obtain ⟨es', clock', hh', hn'⟩ := hn.ofOwns strE intE ho
    have hr' : r < w'.heap.size := (Array.getElem?_eq_some_iff.1 hh').1
    have hlt : r < w.heap.size := (Array.getElem?_eq_some_iff.1 hh).1
    -- first what is new beside, then the block itself
    obtain ⟨w1, hw1⟩ : ∃ w1 : World, w1 = { w' with heap := w'.heap.setIfInBounds r (.map es clock) } := ⟨_, rfl⟩
    have hs1 := MapKept.heap_set (w := w') (o' := .map es clock) hh'
    have hb1 : Below w.heap.size w w1 := by
      subst hw1
      refine ⟨hgr.os, hgr.tape, hgr.output, by simpa using hgr.size, fun k hk => ?_⟩
      by_cases e : k = r
      · subst e; exact hs1.1.trans hh.symm
      · exact (hs1.2 k e).trans (hgr.block k hk (fun q => e (Option.some.inj q)))
    have hm1 := hm.grow hb1 (fun _ _ h => h) (fun _ _ h => .inl h)
    have hE1 : Ext w w1 I I := ⟨fun _ _ k => k, fun b p k => hb1.cell (p := ⟨b, p, none⟩) (hm.there b p k)⟩
    have hh1 : w1.heap[r]? = some (.map es clock) := by subst hw1; exact hs1.1
    obtain ⟨hm2, hE2⟩ := hm1.nameTurn (es' := es') (clock' := clock') hj hB hB hh1 hno hn'
    have hw2 : { w1 with heap := w1.heap.setIfInBounds r (.map es' clock') } = w' := by
      subst hw1
      have : (w'.heap.setIfInBounds r (.map es clock)).setIfInBounds r (.map es' clock') = w'.heap := by
        refine Array.ext_getElem? fun k => ?_
        by_cases e : r = k
        · subst e
          rw [hh']; simp [hr']
        · simp [e]
      simp only [this]
    rw [hw2] at hm2 hE2
    exact ⟨_, B, I, rfl, hm2, hE1.trans hE2, fun _ _ _ => rfl, [], rfl, trivial⟩
/-- Whether a name is missing in another one. -/
theorem meet1_raw {Lb : List (List UInt8)} (s : ByteArray) (a : Int) (W : World) (bx rb : Nat) (es : Array MapEntry) (clock : Nat) (hc : W.cell? ⟨bx, 0, none⟩ = some (.map (some rb))) (hh : W.heap[rb]? = some (.map es clock)) (hn : NM es clock (some Lb)) :
    Calls Try.prog 40 (#[.string s, .int .i64 a] ++ #[.pointer (some ⟨bx, 0, none⟩)]) W fun e w' => e = .returned (.bool (!Lb.contains (bs s))) ∧ w' = W := by
  have hks : ∀ x ∈ es.toList, MapKept.IsKey .string x.key := fun x hx => by
    obtain ⟨t, h1, -⟩ := hn.each x hx
    rw [h1]; trivial
  have hl : (Instr.lookup 39 (.map (some rb)) (.string s) false).run Try.prog W = .ok (.int .i64 (if Lb.contains (bs s) = true then 1 else 0)) W := by
    have hck : ∀ e, (Instr.checkKey e 10000 9 (.string s)).run Try.prog W = .ok () W := fun e => MapKept.run_checkKey (d := .string) strE (by simp [MapKept.IsKey]) e 9999
    rcases MapKept.findNow_spec (d := .string) (k := .string s) trivial es.toList 0 hks with ⟨h1, h2⟩ | ⟨j, e, h1, h2, h3⟩
    · have hnl : bs s ∉ Lb := fun h => by
        obtain ⟨e, he, hk'⟩ := (hn.told Lb rfl s).2 h
        exact h2 e he hk'
      rw [if_neg (by simpa using hnl)]
      simp [Instr.lookup, run_underlying Try.underlying39, MapKept.run_getObj_map hh, MapKept.run_findKey strE h1, Result.andThen, hck, Try.zeroValue3]
    · have hl : bs s ∈ Lb := (hn.told Lb rfl s).1 ⟨e, List.mem_of_getElem? h2, h3⟩
      obtain ⟨t, -, -, hv⟩ := hn.each e (List.mem_of_getElem? h2)
      rw [if_pos (by simpa using hl)]
      simp [Instr.lookup, run_underlying Try.underlying39, MapKept.run_getObj_map hh, MapKept.run_findKey strE h1, Result.andThen, hck, hv]
  obtain ⟨nn, hnn⟩ : ∃ nn : Int, nn = (if Lb.contains (bs s) = true then 1 else 0) := ⟨_, rfl⟩
  rw [← hnn] at hl
  have hp : (!Lb.contains (bs s)) = (nn == 0) := by
    rw [hnn]; cases Lb.contains (bs s) <;> rfl
  rw [hp]
  clear hp hnn hks hn hh
  go_enter Try.func40, Try.ntmps40
  go_wp2_with fail
  go_ret
  exact ⟨rfl, rfl⟩
/-- A name's cells. -/
def cB (b : List UInt8) : List C := [.str ⟨b.toArray⟩]
/-- A row that a call has made, as data. -/
theorem row_data {w0 w w' : World} {I0 I : Nat → Nat → Prop} {B : Nat → Value} {M : Mem} (hm : MR w0 I0 B I M w) {ty : TypeId} {v : Value} {vs : List Value} {rows : List (List C)} (ho : w'.ownsRow w.heap.size ty 1 v rows.length vs) (hr : ∀ x ∈ rows, x.length = 1) (hvs : RCs w I vs (flat rows)) (hbl : Below w.heap.size w w') :
    ∃ I', (∀ b o, I b o → I' b o) ∧ (∀ b o, I' b o → I b o ∨ (w.heap.size ≤ b ∧ b < w'.heap.size)) ∧ RC w' I' v (.sl rows) := by
  obtain ⟨hl, ho⟩ := ho
  let I' : Nat → Nat → Prop := fun b o => I b o ∨ (v.ownBlock = some b ∧ o < rows.length * 1)
  have hE : Ext w w' I I' := ⟨fun _ _ k => .inl k, fun b o k => hbl.cell (p := ⟨b, o, none⟩) (hm.there b o k)⟩
  refine ⟨I', hE.more, fun b o k => ?_, ?_⟩
  · rcases k with k | ⟨k, -⟩
    · exact .inl k
    · rcases ho with ⟨rfl, -⟩ | ⟨g, cap, cur, rfl, hg, hcell, -⟩
      · cases k
      · obtain rfl : g = b := by simpa [Value.ownBlock] using k
        exact .inr ⟨hg, (Array.getElem?_eq_some_iff.1 hcell).1⟩
  · have hvs' := hvs.mono hE
    rcases ho with ⟨rfl, hn⟩ | ⟨g, cap, cur, rfl, hg, hcell, q1, q2, q3, q4⟩
    · obtain rfl : rows = [] := List.length_eq_zero_iff.1 hn
      exact RC.sl (e := 0) (fun _ _ => undef) rfl (Nat.le_refl _) (Nat.zero_le _) (fun x hx => by cases hx) (fun i x hx => by simp at hx) (fun i j x c hx _ => by simp at hx)
    · refine RC.sl (e := 1) (fun i j => vs.getD (i * 1 + j) undef) rfl q1 q2 hr (fun i x hx => ⟨g, 0, rfl, fun j hj => ?_⟩) (fun i j x c hx hc => ?_)
      · have hi := (List.getElem?_eq_some_iff.1 hx).1
        have hlt : i * 1 + j < rows.length * 1 := by omega
        refine ⟨.inr ⟨rfl, by omega⟩, ?_⟩
        have hcur : cur[i * 1 + j]? = vs[i * 1 + j]? := by
          rw [← q4, List.getElem?_take, if_pos hlt, Array.getElem?_toList]
        show w'.cell? ⟨g, 0 + i * 1 + j, none⟩ = some (vs.getD (i * 1 + j) undef)
        rw [Nat.zero_add]
        have hv : vs[i * 1 + j]? = some (vs.getD (i * 1 + j) undef) := by
          rw [List.getD_eq_getElem?_getD, List.getElem?_eq_getElem (by omega)]; rfl
        rw [← hv, ← hcur]
        simp [World.cell?, hcell]
      · have hi := (List.getElem?_eq_some_iff.1 hx).1
        have hj : j < 1 := by rw [← hr x (List.mem_of_getElem? hx)]; exact (List.getElem?_eq_some_iff.1 hc).1
        have hfl := flat_at hr i j x hx hj
        rw [hc] at hfl
        obtain ⟨u, h1, h2⟩ := hvs'.at _ _ hfl
        show RC w' I' (vs.getD (i * 1 + j) undef) c
        rw [List.getD_eq_getElem?_getD, h1]
        exact h2
theorem bs_mk (b : List UInt8) : bs ⟨b.toArray⟩ = b := by simp [bs]
theorem rcs_names {w : World} {I : Nat → Nat → Prop} : ∀ {L : List (List UInt8)}, (∀ b ∈ L, (⟨b.toArray⟩ : ByteArray).size ≤ maxStr) → RCs w I (L.map encStr) (flat (L.map cB))
  | [], _ => trivial
  | b :: L, h => ⟨.str (h b (by simp)), rcs_names fun b hb => h b (List.mem_cons_of_mem _ hb)⟩
/-- Rising names are what they come to when sorted. -/
theorem sorted_same {L ss : List (List UInt8)} (hL : L.Pairwise fun x y => x < y) (h : ss.Perm L) : ss.mergeSort (fun x y => decide (x ≤ y)) = L := by
  have tr : ∀ a b c : List UInt8, decide (a ≤ b) = true → decide (b ≤ c) = true → decide (a ≤ c) = true := fun a b c h1 h2 => by simp only [decide_eq_true_eq] at *; exact List.le_trans h1 h2
  have to : ∀ a b : List UInt8, (decide (a ≤ b) || decide (b ≤ a)) = true := fun a b => by simp only [Bool.or_eq_true, decide_eq_true_eq]; exact List.le_total a b
  refine List.Perm.eq_of_pairwise (le := fun a b => decide (a ≤ b) = true) (fun a b _ _ h1 h2 => ?_) (List.pairwise_mergeSort tr to ss) (hL.imp fun {a b} h => ?_) ((List.mergeSort_perm ss _).trans h)
  · simp only [decide_eq_true_eq] at h1 h2
    exact List.le_antisymm h1 h2
  · simp only [decide_eq_true_eq]
    exact List.le_of_lt h
theorem sortsA (m : Nat) : AnyZ.SortsIn Try.prog Try.laysSorted_ren Fence.wide m :=
  ⟨fun blk off cap ss W hH hblk hsz => callsIn_wide.2 (AnyM.slices_Sort_string Try.laysSort blk off cap ss W hH hblk hsz),
   fun p cap W => callsIn_wide.2 (AnyM.slices_Sort_string_none Try.laysSort p cap W)⟩
/-- slices.Sorted of the keys. -/
theorem sortedN_ok {M : Mem} {j q : Nat} {ty : TypeId} {L : List (List UInt8)} (hq : M q = some (.box ty [.map j])) (hj : M j = some (.names (some L))) (hL : L.Pairwise fun x y => x < y) (hl : L.length ≤ 1000000000000) : COk Try.prog 13 [.fn 21 [q]] M (.c (.sl (L.map cB))) := by
  refine ⟨enters_of Try.func13 (by kernel_rfl) rfl, rfl, fun m' hag => ?_⟩
  have r1 : Reach M [A.fn 21 [q]]  q := .arg (a := .fn 21 [q]) (by simp) (by simp [A.ids])
  have hq' : m' q = some (.box ty [.map j]) := (hag q r1).trans hq
  have hj' : m' j = some (.names (some L)) := (hag j (.obj r1 hq (by simp [O.ids, A.ids]))).trans hj
  intro w0 I0 B I w vals hm hv
  match vals, hv with
  | [v], ⟨h2, _⟩ =>
    obtain ⟨bx, vs, hBq, hhq, hvs, hnq⟩ := hm.objs q _ hq'
    obtain ⟨r, es, clock, hB, hh, hn, hno⟩ := hm.objs j _ hj'
    have h2 : v = .func (.func 21) #[] ([q].map B).toArray := h2
    have h2 : v = .func (.func 21) #[] #[.pointer (some ⟨bx, 0, none⟩)] := by rw [h2]; simp [hBq]
    subst h2
    have hcell : w.cell? ⟨bx, 0, none⟩ = some (.map (some r)) := by
      match vs, hvs with
      | [u], ⟨⟨hu, _⟩, _⟩ =>
        have hu : u = .map (some r) := hu.1.trans hB
        subst hu
        simp [World.cell?, hhq]
    have hbx : bx < w.heap.size := (Array.getElem?_eq_some_iff.1 hhq).1
    have hlen := hn.len
    have hsz : es.size ≤ maxLen := by unfold maxLen; omega
    have hown := hn.owns strE intE hsz hh
    have hperm : (dN Try.prog 9 3 es).Perm (es.toList.map (Go.WideElems.rg Try.prog 9 (RN Try.prog 3))) := WideShapes.sorted_perm _
    have hsd : Maps.size (DataW.map (dN Try.prog 9 3 es)) = es.size := by
      rw [Maps.size_eq, hperm.length_eq, List.length_map, Array.length_toList]
    have hmax : Maps.size (DataW.map (dN Try.prog 9 3 es)) ≤ maxLen := by rw [hsd]; exact hsz
    have hbytes : Maps.size (DataW.map (dN Try.prog 9 3 es)) * 16 ≤ 140737488355328 := by rw [hsd]; omega
    have hkeys : (strKeys (DataW.map (dN Try.prog 9 3 es))).Perm L := by
      have h1 : (strKeys (DataW.map (dN Try.prog 9 3 es))).Perm (es.toList.map keyB) := by
        show ((dN Try.prog 9 3 es).map fun p => strOf p.1).Perm _
        refine (hperm.map _).trans (List.Perm.of_eq ?_)
        rw [List.map_map]
        refine List.map_congr_left fun x hx => ?_
        obtain ⟨s, e1, e2, e3⟩ := hn.each x hx
        simp only [Function.comp, Go.WideElems.rg_of (rd_nm strE intE e1 e2 e3)]
        unfold keyB
        rw [e1]; rfl
      refine h1.trans ?_
      have hnd := (MapKept.stamped_iff es clock).1 hn.stamped |>.2.2
      have hnd1 : (es.toList.map keyB).Nodup := by
        rw [List.Nodup, List.pairwise_map]
        refine List.Pairwise.imp_of_mem (fun {a b} ha hb hab => ?_) hnd
        obtain ⟨s, h1, -⟩ := hn.each a ha
        obtain ⟨t, h2, -⟩ := hn.each b hb
        intro hq
        unfold keyB at hq
        rw [h1, h2] at hq
        exact hab (by rw [h1, h2, bs_inj hq])
      have hnd2 : L.Nodup := hL.imp fun {a b} h e => by subst e; exact List.lt_irrefl _ h
      refine (List.perm_ext_iff_of_nodup hnd1 hnd2).2 fun b => ?_
      rw [List.mem_map]
      constructor
      · rintro ⟨x, hx, rfl⟩
        obtain ⟨s, e1, -⟩ := hn.each x hx
        unfold keyB
        rw [e1]
        exact (hn.told L rfl s).1 ⟨x, hx, e1⟩
      · intro hb
        obtain ⟨x, hx, e1⟩ := (hn.told L rfl ⟨b.toArray⟩).2 (by simpa using hb)
        exact ⟨x, hx, by unfold keyB; rw [e1]; exact bs_mk b⟩
    have hstr : ∀ b ∈ L, (⟨b.toArray⟩ : ByteArray).size ≤ maxStr := fun b hb => by
      obtain ⟨x, hx, e1⟩ := (hn.told L rfl ⟨b.toArray⟩).2 (by simpa using hb)
      obtain ⟨s, h1, h2, -⟩ := hn.each x hx
      rw [e1] at h1
      cases h1
      exact h2
    have hseq : SeqGives Fence.wide 2 Try.prog 21 #[.pointer (some ⟨bx, 0, none⟩)] encStr (fun ss => ss.Perm (strKeys (DataW.map (dN Try.prog 9 3 es)))) (Maps.size (DataW.map (dN Try.prog 9 3 es))) w :=
      AnyZ.keys_gives (ρ := Try.laysKeys_ren) { Try.laysKeys with } Fence.wide _ trivial rfl (by omega) bx r es.size _ w hbx hcell hown
    have cS := AnyZ.sorted_in Try.laysSorted Fence.wide 5 trivial trivial trivial trivial rfl (by omega) (sortsA _) (enters_of Try.func20 (by kernel_rfl) rfl) 21 #[.pointer (some ⟨bx, 0, none⟩)] trivial (enters_of Try.func21 (by kernel_rfl) rfl) _ _ hmax hbytes _ hseq
    change CallsIn _ _ Try.prog 13 _ _ _ at cS
    refine Calls.mono (callsIn_wide.1 cS) ?_
    rintro e w' ⟨v, ss, rfl, hS, hrow, hnil, hb⟩
    have hsame := sorted_same hL (hS.trans hkeys)
    rw [hsame] at hrow
    have hln : ss.length = (L.map cB).length := by rw [(hS.trans hkeys).length_eq, List.length_map]
    rw [hln] at hrow
    obtain ⟨I', q1, q2, q3⟩ := row_data hm hrow (fun x hx => by obtain ⟨b, -, rfl⟩ := List.mem_map.1 hx; rfl) (rcs_names hstr) hb
    exact ⟨v, I', rfl, hb, q1, q2, q3⟩
/-- .. of the keys of no map. -/
theorem sortedNil_ok {M : Mem} {q : Nat} {ty : TypeId} (hq : M q = some (.box ty [.nilv (.map none)])) : COk Try.prog 13 [.fn 21 [q]] M (.c (.sl [])) := by
  refine ⟨enters_of Try.func13 (by kernel_rfl) rfl, rfl, fun m' hag => ?_⟩
  have r1 : Reach M [A.fn 21 [q]] q := .arg (a := .fn 21 [q]) (by simp) (by simp [A.ids])
  have hq' : m' q = some (.box ty [.nilv (.map none)]) := (hag q r1).trans hq
  intro w0 I0 B I w vals hm hv
  match vals, hv with
  | [v], ⟨h2, _⟩ =>
    obtain ⟨bx, vs, hBq, hhq, hvs, hnq⟩ := hm.objs q _ hq'
    have h2 : v = .func (.func 21) #[] ([q].map B).toArray := h2
    have h2 : v = .func (.func 21) #[] #[.pointer (some ⟨bx, 0, none⟩)] := by rw [h2]; simp [hBq]
    subst h2
    have hcell : w.cell? ⟨bx, 0, none⟩ = some (.map none) := by
      match vs, hvs with
      | [u], ⟨⟨hu, _⟩, _⟩ =>
        have hu : u = .map none := hu
        subst hu
        simp [World.cell?, hhq]
    have hbx : bx < w.heap.size := (Array.getElem?_eq_some_iff.1 hhq).1
    have hseq : SeqGives Fence.wide 2 Try.prog 21 #[.pointer (some ⟨bx, 0, none⟩)] encStr (fun ss : List (List UInt8) => ss = []) 0 w :=
      AnyZ.keys_gives_nil (ρ := Try.laysKeys_ren) { Try.laysKeys with } Fence.wide _ trivial rfl bx w hbx hcell
    have cS := AnyZ.sorted_in Try.laysSorted Fence.wide 5 trivial trivial trivial trivial rfl (by omega) (sortsA _) (enters_of Try.func20 (by kernel_rfl) rfl) 21 #[.pointer (some ⟨bx, 0, none⟩)] trivial (enters_of Try.func21 (by kernel_rfl) rfl) _ _ (by unfold maxLen; omega) (by omega) _ hseq
    change CallsIn _ _ Try.prog 13 _ _ _ at cS
    refine Calls.mono (callsIn_wide.1 cS) ?_
    rintro e w' ⟨v, ss, rfl, rfl, hrow, hnil, hb⟩
    obtain ⟨I', q1, q2, q3⟩ := row_data (rows := []) hm hrow (fun x hx => by cases hx) (by simp [flat]; trivial) hb
    exact ⟨v, I', rfl, hb, q1, q2, q3⟩
end V
end Go.Proofs.Ytgaipdillmleeaa
end
section
/- append to a nil slice: a row of the call's own; literal slices as rows of the call's own. -/
set_option linter.unusedVariables false
set_option linter.unusedSimpArgs false
namespace Go.Proofs.Ytgaipdillmleeaa
namespace V
open Go.RowKit
structure HAppendNil (T : Tab) (ops : Array Oper) (o : Oper) (st : St) (c : Call) (x y : Operand) (t d id e n b : Nat) (zs : List Value) (ys : List (List C)) : Prop where
  want : wantA ops o st.s = some true
  op : o.op = .call c
  callee : c.callee = .builtin .append
  args : c.args = #[x, y]
  tys : c.argTypes = #[t, t]
  dst : o.dst = some d
  at_ : ev st.s x = .nil
  free : st.m id = none
  val : asC st.m (ev st.s y) = some (.sl ys)
  elem : T.elem t = some (e, n)
  bytes : T.bytes e = some b
  zero : T.zero e = some zs
  zlen : zs.length = n
  lens : ∀ z ∈ ys, z.length = n
  bound : ys.length * b ≤ 140737488355328
  small : ys.length ≤ maxLen
section
variable {P : Go.Program} {T : Tab} (hT : T.Ok P) {kp : Nat → Prop} {ops : Array Oper}
theorem killed_free {m : Mem} {id : Nat} (hw : ∀ i o, m i = some o → ∀ j ∈ o.ids, (m j).isSome = true) (hM : m id = none) (j : Nat) : (m j).map (O.kill id) = m j := congrFun (kill_free hw hM) j
theorem nilW {st : St} {id : Nat} {o' : O} (hw : WF st) (hl : ∀ i ∈ o'.ids, (st.m i).isSome = true) (d : Nat) : WF ⟨upd st.s d (.own id), upd st.m id (some o')⟩ := by
  have hlv : ∀ i, (st.m i).isSome = true → (upd st.m id (some o') i).isSome = true := fun i hi => live_upd i hi
  refine ⟨fun t i hi => ?_, fun k z hz i hi => hlv i ?_⟩
  · dsimp only at hi
    unfold upd at hi
    split at hi
    · simp [A.ids] at hi; subst hi; show (upd st.m i (some o') i).isSome = true; rw [upd_same]; rfl
    · exact hlv i (hw.ids t i hi)
  · dsimp only at hz
    unfold upd at hz
    split at hz
    · cases hz; exact hl i hi
    · exact hw.live k z hz i hi
include hT
theorem eff_appendNil {o : Oper} {st : St} {c : Call} {x y : Operand} {t d id e n b : Nat} (fz : Bool) {zs : List Value} {ys : List (List C)} (h : HAppendNil T ops o st c x y t d id e n b zs ys) :
    Eff P T kp ops o st ⟨upd st.s d (.own id), upd st.m id (some (rowO fz e n ys))⟩ := by
  refine ⟨by rw [h.op]; simp [kind, h.callee], fun hw => ?_, fun R n0 ds a w K Q hR hr hd hK => ?_⟩
  · exact nilW hw (fun i hi => by cases fz <;> simp [rowO, O.ids] at hi) d
  · obtain ⟨B0, I, hm0, hx0, hkp0, hs0⟩ := hr.ex
    rw [want_snd hs0 h.want, if_pos rfl]
    have hne : ∀ j, (st.m j).isSome = true → j ≠ id := fun j hj e' => by subst e'; rw [h.free] at hj; cases hj
    obtain ⟨hu, hn0, i, hi, hin⟩ := hT.elem _ _ _ h.elem
    obtain ⟨i2, hi2, hib⟩ := hT.bytes _ _ h.bytes
    obtain ⟨i3, z, hi3, hz, hzc, -⟩ := hT.zero _ _ h.zero
    have e1 : i2 = i := Option.some.inj (hi2.symm.trans hi)
    have e2 : i3 = i := Option.some.inj (hi3.symm.trans hi)
    subst e1 e2
    have hxn : a.eval x = .slice none 0 0 := by have := ev_rv hs0 x; rw [h.at_] at this; exact this
    obtain ⟨ad, my, cap, news, hyv, hn, hnl, hcellsN, hrcs, hone⟩ := news_of hn0 (asC_rc hm0 h.val (ev_rv hs0 y)) h.lens
    have hm1 := hm0.newNil (id := id) h.free fz e n
    generalize hB : upd B0 id (Value.slice none 0 0) = B at hm1
    have hx : a.eval x = B id := by rw [hxn, ← hB, upd_same]
    have harr : upd st.m id (some (rowO fz e n [])) id = some (rowO fz e n []) := upd_same ..
    have hm := hm1
    have fin : ∃ v' w' I', (Builtin.append_ #[t, t] o.type #[B id, .slice ad my cap]).run P w = .ok v' w' ∧ (∃ aa nn cc, v' = .slice aa nn cc) ∧ MR R.w0 R.I0 (upd B id v') I' (upd (killM id (upd st.m id (some (rowO fz e n [])))) id (some (rowO fz e n ([] ++ ys)))) w' ∧ Ext w w' I I' := by
      cases fz with
      | true =>
        obtain ⟨vs, hv, hvs, hlx, hiff⟩ := hm.objs id _ harr
        obtain ⟨v', w', r1, r2, r3, r4, r5, r6⟩ := run_append_two (P := P) w t o.type e i3 z n b hu hi3 hz hin hib (by rw [hzc]; simpa using h.zlen) hn0 (B id) 0 vs hv ad my cap news hnl hcellsN hone (by rw [← hn, Nat.zero_add]; exact h.small) (by rw [← hn, Nat.zero_add]; exact h.bound)
        rw [← hn] at r2
        obtain ⟨I', hm', hE⟩ := hm.append harr hv hvs hlx hiff r2 hrcs h.lens r3 r4 r5 r6
        refine ⟨v', w', I', r1, ?_, hm', hE⟩
        rcases r2.2 with ⟨q, -⟩ | ⟨g, cap, cur, q, -⟩
        · exact ⟨_, _, _, q⟩
        · exact ⟨_, _, _, q⟩
      | false =>
        obtain ⟨vs, hv, hvs, hlx, hI⟩ := hm.objs id _ harr
        obtain ⟨v', w', r1, r2, r3, r4, r5, r6⟩ := run_append_at (P := P) w t o.type e i3 z n b hu hi3 hz hin hib (by rw [hzc]; simpa using h.zlen) hn0 (B id) 0 vs hv ad my cap news hnl hcellsN hone (by rw [← hn, Nat.zero_add]; exact h.small) (by rw [← hn, Nat.zero_add]; exact h.bound)
        rw [← hn] at r2
        obtain ⟨hm', hE⟩ := hm.appendM harr hvs hlx hI r2 hrcs h.lens r3 r4 r5 r6
        obtain ⟨ad', cap', q, -⟩ := r2.shape
        exact ⟨v', w', I, r1, ⟨_, _, _, q⟩, hm', hE⟩
    obtain ⟨v', w', I', r1, hsh, hm', hE⟩ := fin
    have hrun : (execOp a.eval o).run P w = .ok (.value v') w' := by
      obtain ⟨cal, args, tys⟩ := c
      have h7 := h.callee
      have h8 := h.args
      have h9 := h.tys
      simp only at h7 h8 h9
      subst h7 h8 h9
      simp only [execOp, h.op, resolve, invoke, builtin, Sem.run_bind, Sem.run_pure, Result.andThen_ok, List.map_toArray, List.map_cons, List.map_nil, hx, hyv, r1]
    unfold Oper.wp Oper.upon
    rw [hrun]
    have hdlt : ∀ q, o.dst = some q → q < a.tmps.size := fun q hq => by rw [hr.size]; exact hd q hq
    have hmem : upd (killM id (upd st.m id (some (rowO fz e n [])))) id (some (rowO fz e n ([] ++ ys))) = upd st.m id (some (rowO fz e n ys)) := by
      funext j
      unfold upd
      split
      · rfl
      · rename_i e'
        show ((if j = id then _ else st.m j).map (O.kill id)) = st.m j
        rw [if_neg e']
        exact killed_free hr.wf.live h.free j
    rw [hmem] at hm'
    have hput := putS_rv (dst := o.dst) (r := A.own id) (v := v') (B := upd B id v') (w := w') (I := I') (s := st.s) (fun t' => (hs0 t').mono hE fun j hj => by
      rw [upd_ne _ _ (hne j (hr.ids t' j hj)), ← hB, upd_ne _ _ (hne j (hr.ids t' j hj))]) ⟨(upd_same B id v').symm, hsh⟩ hdlt
    rw [h.dst] at hput
    have hwf : WF ⟨upd st.s d (.own id), upd st.m id (some (rowO fz e n ys))⟩ := nilW hr.wf (fun i hi => by cases fz <;> simp [rowO, O.ids] at hi) d
    refine hK _ _ ⟨⟨_, I', hm', hx0.trans hE, fun j hj => ?_, by rw [h.dst]; exact hput⟩, hwf.ids, by rw [(put_dst_size _ _ _).1]; exact hr.size, hr.nn, by
      rw [(put_dst_size _ _ _).2]
      have hdd : DID ≠ d := fun q => absurd (hd d h.dst) (Nat.not_lt.2 (q ▸ hr.nn))
      show a.defers = dfs (upd st.s d (.own id) DID) ++ ds
      rw [upd_ne _ _ hdd]; exact hr.defs, fun j hj => ?_⟩
    · rw [upd_ne _ _ (hne j (hr.kept j hj)), ← hB, upd_ne _ _ (hne j (hr.kept j hj))]; exact hkp0 j hj
    · have := hr.kept j hj
      show (upd st.m id _ j).isSome = true
      unfold upd; split
      · rfl
      · exact this
theorem runk_appendNil {base : Nat} {o : Oper} {l : List Oper} {st : St} {k : St → Prop} {c : Call} {x y : Operand} {t d : Nat} (id : Nat) {e n b : Nat} (fz : Bool) {zs : List Value} {ys : List (List C)} (h : wantA ops o st.s = some true) (hop : o.op = .call c) (hc : c.callee = .builtin .append) (ha : c.args = #[x, y]) (ht : c.argTypes = #[t, t]) (hd : o.dst = some d)
    (hx : ev st.s x = .nil) (hm : st.m id = none) (hy : asC st.m (ev st.s y) = some (.sl ys)) (h1 : T.elem t = some (e, n)) (h2 : T.bytes e = some b) (h3 : T.zero e = some zs) (h4 : zs.length = n) (hl : ∀ z ∈ ys, z.length = n) (hb : ys.length * b ≤ 140737488355328) (hb0 : 0 < b)
    (ht2 : RunK P T kp base ops l ⟨upd st.s d (.own id), upd st.m id (some (rowO fz e n ys))⟩ k) : RunK P T kp base ops (o :: l) st k :=
  runk_step (.eff (eff_appendNil hT fz ⟨h, hop, hc, ha, ht, hd, hx, hm, hy, h1, h2, h3, h4, hl, hb, app_small hb hb0⟩)) ht2
end
/-- The table under which a literal slice is a row of the call's own. -/
def tabL : Tab := { tab with lit := true }
namespace L
theorem tab_ok : tabL.Ok Try.prog := ⟨V.tab_ok.ty, V.tab_ok.zero, V.tab_ok.elem, V.tab_ok.off, V.tab_ok.bool, V.tab_ok.fields, V.tab_ok.bytes, V.tab_ok.nilk, V.tab_ok.int, V.tab_ok.map, V.tab_ok.str, V.tab_ok.one, V.tab_ok.seq⟩
theorem tabs : tabL.ty = tab.ty ∧ tabL.zero = tab.zero ∧ tabL.elem = tab.elem ∧ tabL.off = tab.off ∧ tabL.bool = tab.bool ∧ tabL.fields = tab.fields ∧ tabL.bytes = tab.bytes ∧ tabL.nilk = tab.nilk ∧ tabL.int = tab.int ∧ tabL.map = tab.map ∧ tabL.str = tab.str ∧ tabL.one = tab.one ∧ tabL.seq = tab.seq ∧ tabL.eff = tab.eff ∧ tabL.lit = true := ⟨rfl, rfl, rfl, rfl, rfl, rfl, rfl, rfl, rfl, rfl, rfl, rfl, rfl, rfl, rfl⟩
end L
end V
end Go.Proofs.Ytgaipdillmleeaa
end
section
/- A row of the call's own that a box holds, told as data from here on. -/
set_option linter.unusedVariables false
set_option linter.unusedSimpArgs false
namespace Go.Proofs.Ytgaipdillmleeaa
namespace V
open Go.RowKit
theorem W.freezeBox {P : Go.Program} {R : Ref} {n : Nat} {ds : List Deferred} {st : St} {c : Code} {K : Exit → St → Prop} (j k id : Nat) {tyb ty : TypeId} {e : Nat} {cells : List A} {xs : List (List C)} (hj : st.m j = some (.box tyb cells)) (hk : cells[k]? = some (.own id)) (hid : st.m id = some (.mrow ty e xs)) (hji : j ≠ id) (hkp : ¬ R.keep id)
    (h : W P R n ds ⟨killS id st.s, upd (upd (killM id st.m) id (some (.arr ty e []))) j (some (.box tyb ((cells.map (A.kill id)).set k (.c (.sl xs)))))⟩ c K) : W P R n ds st c K := by
  intro a w hr
  refine h a w ?_
  obtain ⟨⟨B, I, hm, hx0, hkp0, hs⟩, h2, h3, hnn, h4, h5⟩ := hr
  obtain ⟨I', hm', hE, hrc⟩ := hm.freeze hid
  have hBne : ∀ i, i ≠ id → upd B id (.slice none 0 0) i = B i := fun i hi => upd_ne _ _ hi
  have hj' : upd (killM id st.m) id (some (.arr ty e [])) j = some (.box tyb (cells.map (A.kill id))) := by
    rw [upd_ne _ _ hji, killM_app, hj]; rfl
  obtain ⟨b, vs, q1, q2, q3, q4⟩ := hm'.objs j _ hj'
  obtain ⟨b0, vs0, p1, p2, p3, p4⟩ := hm.objs j _ hj
  have hbb : b0 = b := by
    rw [hBne j hji, p1] at q1; cases q1; rfl
  subst hbb
  have hvv : vs0 = vs := by
    rw [p2] at q2
    have := Option.some.inj q2
    simp at this; exact this
  subst hvv
  have liv0 : ∀ i, (st.m i).isSome = true → (upd (killM id st.m) id (some (.arr ty e [])) i).isSome = true := fun i hi => by
    unfold upd; split
    · rfl
    · rw [killM_app]; simpa using hi
  obtain ⟨hm2, hE2⟩ := hm'.turn (w' := w) (o' := .box tyb ((cells.map (A.kill id)).set k (.c (.sl xs)))) hj' ⟨0, q1⟩ (fun q hq => by obtain ⟨off, hq⟩ := hq; rw [q1] at hq; cases hq; rfl) q4 rfl rfl rfl rfl (fun _ _ => rfl) (fun i hi => by
    obtain ⟨a', ha', hi'⟩ := List.mem_flatMap.1 hi
    rcases List.mem_or_eq_of_mem_set ha' with ha' | rfl
    · exact hm'.live j _ hj' i (List.mem_flatMap.2 ⟨a', ha', hi'⟩)
    · simp [A.ids] at hi') (fun _ => by
    refine ⟨b0, vs0, q1, q2, ?_, q4⟩
    have hl := q3.length
    refine RVs.of (by rw [List.length_set]; exact hl) fun q a' v' ha' hv' => ?_
    rw [List.getElem?_set] at ha'
    split at ha'
    · rename_i hq
      subst hq
      split at ha'
      · cases ha'
        obtain ⟨v2, r1, r2, r3⟩ := p3.at k _ hk
        rw [hv'] at r1; cases r1
        have hv : v' = B id := r2.1
        exact ⟨by show RC _ _ _ _; rw [hv]; exact hrc, r3⟩
      · cases ha'
    · obtain ⟨v2, r1, r2, r3⟩ := q3.at q _ ha'
      rw [hv'] at r1; cases r1
      exact ⟨r2, r3⟩)
  have liv : ∀ i, (st.m i).isSome = true → (upd (upd (killM id st.m) id (some (.arr ty e []))) j (some (.box tyb ((cells.map (A.kill id)).set k (.c (.sl xs))))) i).isSome = true := fun i hi => live_upd i (liv0 i hi)
  refine ⟨⟨_, I', hm2, hx0.trans hE, fun i hi => (hBne i (fun e => hkp (e ▸ hi))).trans (hkp0 i hi), fun u => ?_⟩, fun u i hi => ?_, h3, hnn, ?_, fun i hi => liv i (h5 i hi)⟩
  · show RV _ w I' (killS id st.s u) _
    rw [killS_app]
    rcases (A.kill_ids (id := id) (a := st.s u)).2 with q | ⟨q, hn⟩
    · rw [q]; trivial
    · rw [q]
      exact (hs u).mono hE fun i hi => hBne i (fun e => hn (e ▸ hi))
  · replace hi : i ∈ (killS id st.s u).ids := hi
    rw [killS_app] at hi
    exact liv i (h2 u i ((A.kill_ids (id := id) (a := st.s u)).1 i hi).1)
  · show _ = dfs (killS id st.s DID) ++ ds
    rw [killS_app, dfs_kill]; exact h4
/-- .. a window that a piece of code leaves becomes the row itself. -/
theorem W.thenRewin {P : Go.Program} {R : Ref} {n : Nat} {ds : List Deferred} {st : St} {c : Code} {K : Exit → St → Prop} (t id : Nat) (htn : t ≠ DID) (hkp : ¬ R.keep id)
    (h : W P R n ds st c fun e st' => ∃ ty e0 lo hi xs, st'.s t = .win id e0 lo hi ∧ st'.m id = some (.mrow ty e0 xs) ∧ hi ≤ xs.length ∧ K e ⟨upd (killS id st'.s) t (.own id), upd (killM id st'.m) id (some (.mrow ty e0 ((xs.take hi).drop lo)))⟩) : W P R n ds st c K := fun a w hr =>
  wp_mono (h a w hr) fun e a' w' ⟨st', ⟨ty, e0, lo, hi, xs, h1, h2, h3, h4⟩, hr'⟩ => ⟨_, h4, hr'.rewin t id htn h1 h2 h3 hkp⟩
end V
end Go.Proofs.Ytgaipdillmleeaa
end
section
/- A window that a box holds becomes the row itself. -/
set_option linter.unusedVariables false
set_option linter.unusedSimpArgs false
namespace Go.Proofs.Ytgaipdillmleeaa
namespace V
open Go.RowKit
theorem MR.rewin {w0 w : World} {I0 I : Nat → Nat → Prop} {B : Nat → Value} {m : Mem} (hm : MR w0 I0 B I m w) {id : Nat} {ty e lo hi : Nat} {xs : List (List C)} (hj : m id = some (.mrow ty e xs)) (hh : hi ≤ xs.length) {v' : Value} (hx : RV B w I (.win id e lo hi) v') :
    MR w0 I0 (upd B id v') I (upd (killM id m) id (some (.mrow ty e ((xs.take hi).drop lo)))) w ∧ ∃ ad n cap, v' = .slice ad n cap := by
  obtain ⟨ad, n0, cap, hB, hlo, hhi, hv⟩ := hx
  obtain ⟨vs, hrow, hvs, hlx, hno⟩ := hm.objs id _ hj
  have hn0 : n0 = xs.length ∧ xs.length ≤ cap := by
    obtain ⟨ad', cp, e5, e6⟩ := hrow.shape
    rw [hB] at e5; cases e5; exact ⟨rfl, e6⟩
  obtain ⟨rfl, hnc⟩ := hn0
  have hvl := hvs.length
  have hfl := flat_len hlx
  have hlen : ((xs.take hi).drop lo).length = hi - lo := by simp; omega
  have hl1 : vs.length = xs.length * e := hrow.1
  have hle1 : hi * e ≤ xs.length * e := Nat.mul_le_mul_right e hh
  have hle2 : lo * e ≤ hi * e := Nat.mul_le_mul_right e hlo
  have hsub : (hi - lo) * e = hi * e - lo * e := Nat.sub_mul ..
  have hvl' : ((vs.take (hi * e)).drop (lo * e)).length = (hi - lo) * e := by simp; omega
  have hrow' : rowAt w ty e v' (hi - lo) ((vs.take (hi * e)).drop (lo * e)) := by
    refine ⟨hvl', ?_⟩
    rcases hrow.2 with ⟨e1, e2⟩ | ⟨g, off, c, cur, e1, hg, hnc', hm', hsz, htk⟩
    · rw [hB] at e1
      simp only [Value.slice.injEq] at e1
      obtain ⟨rfl, -, rfl⟩ := e1
      obtain rfl : hi = 0 := by omega
      obtain rfl : lo = 0 := by omega
      exact .inl ⟨by rw [hv]; rfl, rfl⟩
    · rw [hB] at e1
      cases e1
      by_cases hcl : cap = lo
      · subst hcl
        obtain rfl : hi = cap := by omega
        refine .inr ⟨g, off, 0, cur, by rw [hv]; simp, hg, by omega, by omega, by omega, ?_⟩
        rw [Nat.sub_self, Nat.zero_mul, List.take_zero]
        exact (List.eq_nil_of_length_eq_zero (by rw [hvl']; simp)).symm
      · have hcs : (cap - lo) * e = cap * e - lo * e := Nat.sub_mul ..
        have hle3 : lo * e ≤ cap * e := Nat.mul_le_mul_right e (by omega)
        refine .inr ⟨g, off + lo * e, cap - lo, cur, by rw [hv, if_neg hcl]; simp [Addr.add], hg, by omega, by omega, by omega, ?_⟩
        rw [← htk, List.take_take, Nat.min_eq_left (by omega), List.drop_take, List.drop_drop, ← hsub]
  have hob : v'.ownBlock = (B id).ownBlock ∨ v'.ownBlock = none := by
    rw [hv, hB]
    cases ad with
    | none => right; split <;> rfl
    | some z =>
      left
      split
      · rfl
      · obtain ⟨zb, zo, zs⟩ := z
        simp only [Value.ownBlock, Addr.add, Option.map_some]
        split <;> rfl
  have hflat : flat ((xs.take hi).drop lo) = ((flat xs).take (hi * e)).drop (lo * e) := by
    have ft : ∀ (k : Nat) (l : List (List C)), (∀ x ∈ l, x.length = e) → flat (l.take k) = (flat l).take (k * e) := by
      intro k
      induction k with
      | zero => intro l _; simp [flat]
      | succ k ih =>
        intro l hl
        cases l with
        | nil => simp [flat]
        | cons x l =>
          have hx := hl x (by simp)
          have := ih l (fun y hy => hl y (List.mem_cons_of_mem _ hy))
          have hk : (k + 1) * e = e + k * e := by rw [Nat.add_mul]; omega
          simp only [flat, List.take_succ_cons, List.flatten_cons] at this ⊢
          have h1 : x.length ≤ e + k * e := by omega
          have h2 : e + k * e - x.length = k * e := by omega
          rw [this, hk, List.take_append, List.take_of_length_le h1, h2]
    have fd : ∀ (k : Nat) (l : List (List C)), (∀ x ∈ l, x.length = e) → flat (l.drop k) = (flat l).drop (k * e) := by
      intro k
      induction k with
      | zero => intro l _; simp [flat]
      | succ k ih =>
        intro l hl
        cases l with
        | nil => simp [flat]
        | cons x l =>
          have hx := hl x (by simp)
          have := ih l (fun y hy => hl y (List.mem_cons_of_mem _ hy))
          have hk : (k + 1) * e = e + k * e := by rw [Nat.add_mul]; omega
          simp only [flat, List.drop_succ_cons, List.flatten_cons] at this ⊢
          have h1 : x.length ≤ e + k * e := by omega
          have h2 : e + k * e - x.length = k * e := by omega
          rw [this, hk, List.drop_append, List.drop_eq_nil_of_le h1, h2, List.nil_append]
    rw [fd _ _ (fun x hx => hlx x (List.mem_of_mem_take hx)), ft _ _ hlx]
  have hm' := hm.reval (id := id) (o' := .mrow ty e ((xs.take hi).drop lo)) (v' := v') (w' := w) (I' := I) hj rfl rfl rfl (Nat.le_refl _) (fun _ _ _ => rfl)
    (fun k hk => by
      have hk : (upd B id v' id).ownBlock = some k := hk
      rw [upd_same] at hk
      rcases hob with q | q
      · rw [q] at hk; exact ⟨(hm.low id _ hj k hk).2, .inl hk⟩
      · rw [q] at hk; cases hk)
    (Ext.refl _ _) (fun b p hp => .inl hp)
    ⟨_, by rw [upd_same, hlen]; exact hrow', by rw [hflat]; exact (hvs.take _).drop _, fun x hx => hlx x (List.mem_of_mem_take (List.mem_of_mem_drop hx)), fun b hb p hp => by
      rw [upd_same] at hb
      rcases hob with q | q
      · rw [q] at hb; exact hno b hb p hp
      · rw [q] at hb; cases hb⟩ (fun i hi => by simp [O.ids] at hi)
  obtain ⟨ad', cp', q, -⟩ := hrow'.shape
  exact ⟨hm', _, _, _, q⟩
theorem SR.rewinBox {R : Ref} {n : Nat} {ds : List Deferred} {st : St} {a : Act} {w : World} (j k id : Nat) {tyb ty e lo hi : Nat} {cells : List A} {xs : List (List C)} (hr : SR R n ds st a w) (hjb : st.m j = some (.box tyb cells)) (hk : cells[k]? = some (.win id e lo hi)) (hid : st.m id = some (.mrow ty e xs)) (hh : hi ≤ xs.length) (hji : j ≠ id) (hkp : ¬ R.keep id) :
    SR R n ds ⟨killS id st.s, upd (upd (killM id st.m) id (some (.mrow ty e ((xs.take hi).drop lo)))) j (some (.box tyb ((cells.map (A.kill id)).set k (.own id))))⟩ a w := by
  obtain ⟨⟨B, I, hm, hx0, hkp0, hs⟩, h2, h3, hnn, h4, h5⟩ := hr
  obtain ⟨b0, vs0, p1, p2, p3, p4⟩ := hm.objs j _ hjb
  obtain ⟨v', u1, u2, u3⟩ := p3.at k _ hk
  obtain ⟨hm', ad, nn, cap, hsh⟩ := hm.rewin hid hh u2
  have hBne : ∀ i, i ≠ id → upd B id v' i = B i := fun i hi => upd_ne _ _ hi
  have hj' : upd (killM id st.m) id (some (.mrow ty e ((xs.take hi).drop lo))) j = some (.box tyb (cells.map (A.kill id))) := by
    rw [upd_ne _ _ hji, killM_app, hjb]; rfl
  obtain ⟨b, vs, q1, q2, q3, q4⟩ := hm'.objs j _ hj'
  have hbb : b0 = b := by
    rw [hBne j hji, p1] at q1; cases q1; rfl
  subst hbb
  have hvv : vs0 = vs := by
    rw [p2] at q2
    have := Option.some.inj q2
    simp at this; exact this
  subst hvv
  have liv0 : ∀ i, (st.m i).isSome = true → (upd (killM id st.m) id (some (.mrow ty e ((xs.take hi).drop lo))) i).isSome = true := fun i hi => by
    unfold upd; split
    · rfl
    · rw [killM_app]; simpa using hi
  obtain ⟨hm2, hE2⟩ := hm'.turn (w' := w) (o' := .box tyb ((cells.map (A.kill id)).set k (.own id))) hj' ⟨0, q1⟩ (fun q hq => by obtain ⟨off, hq⟩ := hq; rw [q1] at hq; cases hq; rfl) q4 rfl rfl rfl rfl (fun _ _ => rfl) (fun i hi => by
    obtain ⟨a', ha', hi'⟩ := List.mem_flatMap.1 hi
    rcases List.mem_or_eq_of_mem_set ha' with ha' | rfl
    · exact hm'.live j _ hj' i (List.mem_flatMap.2 ⟨a', ha', hi'⟩)
    · simp [A.ids] at hi'; subst hi'; rw [upd_same]; rfl) (fun _ => by
    refine ⟨b0, vs0, q1, q2, ?_, q4⟩
    have hl := q3.length
    refine RVs.of (by rw [List.length_set]; exact hl) fun q a' v2 ha' hv2 => ?_
    rw [List.getElem?_set] at ha'
    split at ha'
    · rename_i hq
      subst hq
      split at ha'
      · cases ha'
        rw [hv2] at u1; cases u1
        exact ⟨⟨(upd_same ..).symm, _, _, _, hsh⟩, u3⟩
      · cases ha'
    · obtain ⟨v3, r1, r2, r3⟩ := q3.at q _ ha'
      rw [hv2] at r1; cases r1
      exact ⟨r2, r3⟩)
  have liv : ∀ i, (st.m i).isSome = true → (upd (upd (killM id st.m) id (some (.mrow ty e ((xs.take hi).drop lo)))) j (some (.box tyb ((cells.map (A.kill id)).set k (.own id)))) i).isSome = true := fun i hi => live_upd i (liv0 i hi)
  refine ⟨⟨_, I, hm2, hx0, fun i hi => (hBne i (fun e => hkp (e ▸ hi))).trans (hkp0 i hi), fun u => ?_⟩, fun u i hi => ?_, h3, hnn, ?_, fun i hi => liv i (h5 i hi)⟩
  · show RV _ w I (killS id st.s u) _
    rw [killS_app]
    rcases (A.kill_ids (id := id) (a := st.s u)).2 with q | ⟨q, hn⟩
    · rw [q]; trivial
    · rw [q]
      exact (hs u).mono (Ext.refl _ _) fun i hi => hBne i (fun e => hn (e ▸ hi))
  · replace hi : i ∈ (killS id st.s u).ids := hi
    rw [killS_app] at hi
    exact liv i (h2 u i ((A.kill_ids (id := id) (a := st.s u)).1 i hi).1)
  · show _ = dfs (killS id st.s DID) ++ ds
    rw [killS_app, dfs_kill]; exact h4
theorem W.rewinBox {P : Go.Program} {R : Ref} {n : Nat} {ds : List Deferred} {st : St} {c : Code} {K : Exit → St → Prop} (j k id : Nat) {tyb ty e lo hi : Nat} {cells : List A} {xs : List (List C)} (hjb : st.m j = some (.box tyb cells)) (hk : cells[k]? = some (.win id e lo hi)) (hid : st.m id = some (.mrow ty e xs)) (hh : hi ≤ xs.length) (hji : j ≠ id) (hkp : ¬ R.keep id)
    (h : W P R n ds ⟨killS id st.s, upd (upd (killM id st.m) id (some (.mrow ty e ((xs.take hi).drop lo)))) j (some (.box tyb ((cells.map (A.kill id)).set k (.own id))))⟩ c K) : W P R n ds st c K := fun a w hr => h a w (hr.rewinBox j k id hjb hk hid hh hji hkp)
/-- Two pieces of code, the ways of the first one joined. -/
theorem W.seqCut {P : Go.Program} {R : Ref} {n : Nat} {ds : List Deferred} {st : St} {x y : Code} {K : Exit → St → Prop} (can : St) (h : W P R n ds st x (fun e st' => e = .normal ∧ Le R.keep st' can)) (k : W P R n ds can y K) : W P R n ds st (.seq x y) K :=
  W.seq (W.mono h fun e st' ⟨h1, h2⟩ => by subst h1; exact W.weaken h2 k)
end V
end Go.Proofs.Ytgaipdillmleeaa
end
section
/- A pure call whose result is a row of the caller's own. -/
set_option linter.unusedVariables false
set_option linter.unusedSimpArgs false
namespace Go.Proofs.Ytgaipdillmleeaa
open Go.RowKit
namespace V
section
variable {w0 w w' : World} {I0 I I' : Nat → Nat → Prop} {B : Nat → Value} {M : Mem}
/-- A piece that a call has made. -/
theorem MR.fresh2 (h : MR w0 I0 B I M w) {id : Nat} (hid : M id = none) {v : Value} {o' : O} (hb : Below w.heap.size w w') (hf : ∀ k, foot (upd B id v) id o' k → w.heap.size ≤ k ∧ k < w'.heap.size) (hE : Ext w w' I I')
    (hI' : ∀ b p, I' b p → I b p ∨ (w.heap.size ≤ b ∧ b < w'.heap.size)) (hob : RO (upd B id v) w' I' id o') (hl : o'.ids = []) : MR w0 I0 (upd B id v) I' (upd M id (some o')) w' := by
  have hne : ∀ j, (M j).isSome = true → j ≠ id := fun j hj e => by subst e; rw [hid] at hj; cases hj
  have hB : ∀ j, (M j).isSome = true → upd B id v j = B j := fun j hj => upd_ne _ _ (hne j hj)
  have liv : ∀ j, (M j).isSome = true → (upd M id (some o') j).isSome = true := fun j hj => by rw [upd_ne _ _ (hne j hj)]; exact hj
  have other : ∀ {j : Nat} {z : O}, upd M id (some o') j = some z → (j = id ∧ z = o') ∨ (j ≠ id ∧ M j = some z) := fun {j z} hz => by
    unfold upd at hz
    split at hz
    · rename_i e; exact .inl ⟨e, (Option.some.inj hz).symm⟩
    · rename_i e; exact .inr ⟨e, hz⟩
  have hs0 := h.below.size
  refine ⟨h.below.trans ⟨hb.os, hb.tape, hb.output, hb.size, fun b hlt => hb.block b (Nat.lt_of_lt_of_le hlt hs0)⟩, h.glob, fun b o h0 => hE.more _ _ (h.base b o h0), fun b o hi => ?_, fun b o hi => ?_, fun j z hz => ?_, fun j z hz k hk => ?_, fun j z j' z' hz hz' hjj k hk hk' => ?_, fun j z hz i hi => ?_⟩
  · rcases hI' b o hi with hi | hi
    · exact h.old b o hi
    · exact .inr (Nat.le_trans hs0 hi.1)
  · rcases hI' b o hi with hi | hi
    · exact Nat.lt_of_lt_of_le (h.there b o hi) hb.size
    · exact hi.2
  · rcases other hz with ⟨rfl, rfl⟩ | ⟨hj, hz⟩
    · exact hob
    · refine RO.mono hE (hB j (by simp [hz])) (fun i hi => hB i (h.live j z hz i hi)) (fun k hk => hb.block k (h.low j z hz k hk).2) (fun k hk p hp => ?_) (h.objs j z hz)
      rcases hI' k p hp with hp | hp
      · exact hp
      · exact absurd hp.1 (Nat.not_le.2 (h.low j z hz k hk).2)
  · rcases other hz with ⟨rfl, rfl⟩ | ⟨hj, hz⟩
    · exact ⟨Nat.le_trans hs0 (hf k hk).1, (hf k hk).2⟩
    · rw [foot_congr (hB j (by simp [hz]))] at hk
      exact ⟨(h.low j z hz k hk).1, Nat.lt_of_lt_of_le (h.low j z hz k hk).2 hb.size⟩
  · rcases other hz with ⟨e1, e2⟩ | ⟨hj, hy⟩
    · rcases other hz' with ⟨e3, e4⟩ | ⟨hj', hy'⟩
      · exact hjj (e1.trans e3.symm)
      · rw [foot_congr (hB j' (by simp [hy']))] at hk'
        rw [e1, e2] at hk
        exact absurd (hf k hk).1 (Nat.not_le.2 (h.low j' z' hy' k hk').2)
    · rw [foot_congr (hB j (by simp [hy]))] at hk
      rcases other hz' with ⟨e3, e4⟩ | ⟨hj', hy'⟩
      · rw [e3, e4] at hk'
        exact absurd (hf k hk').1 (Nat.not_le.2 (h.low j z hy k hk).2)
      · rw [foot_congr (hB j' (by simp [hy']))] at hk'
        exact h.apart j z j' z' hy hy' hjj k hk hk'
  · rcases other hz with ⟨rfl, rfl⟩ | ⟨hj, hz⟩
    · rw [hl] at hi; cases hi
    · exact liv i (h.live j z hz i hi)
end
theorem ok_own {P : Go.Program} {T : Tab} (hT : T.Ok P) {f : FuncId} {fn : Func} {c : Code} {l : List ResultVar} {args : List A} {o : O} (hf : P.funcs[f]? = some fn) (hn : (fn.name == "runtime.NumGoroutine") = false) (hb : fn.body = some c) (hl : fn.results.toList = l) (hd : args.all (fun a => a.ids.isEmpty && !(match a with | .defs _ => true | _ => false)) = true) (hle : decide (args.length ≤ fn.ntmps ∧ fn.ntmps ≤ DID) = true) (ho : ∃ ty e xs, o = .arr ty e xs ∨ o = .mrow ty e xs)
    (hW : ∀ R : Ref, R.keep = (fun _ => False) → W P R fn.ntmps [] ⟨entry args, Mem.nil⟩ c (fun e st => (e = .normal ∨ e = .ret) ∧ dfs (st.s DID) = [] ∧ ∃ id, resE T st l = some (.own id) ∧ st.m id = some o)) (M : Mem) (b : Nat) (hM : M b = none) : CallE P f args M [] (.own b) (upd M b (some o)) := by
  have hoi : o.ids = [] := by obtain ⟨ty, e, xs, rfl | rfl⟩ := ho <;> rfl
  refine ⟨enters_of hf hn hb, fun j hj => by simp [A.ids] at hj; subst hj; rw [upd_same]; rfl, fun j hj => live_upd j hj, fun hw => mwf_some hw (fun i hi => by rw [hoi] at hi; cases hi), ?_⟩
  intro w0 I0 B I w vals hm hv
  have hd1 : ∀ a ∈ args, a.ids = [] := fun a ha => by have := List.all_eq_true.1 hd a ha; simp only [Bool.and_eq_true] at this; simpa using this.1
  have hd2 : ∀ a ∈ args, ∀ l, a ≠ .defs l := fun a ha l e => by have := List.all_eq_true.1 hd a ha; subst e; simp at this
  obtain ⟨hl1, hl2⟩ := of_decide_eq_true hle
  have hlen := rvl_len hv
  refine calls_of_wp hf hb ?_
  have h0 : SR ⟨w, I, w, I, B, fun _ => False⟩ fn.ntmps [] ⟨entry args, Mem.nil⟩ { tmps := vals.toArray ++ Array.replicate (fn.ntmps - vals.toArray.size) undef, defers := [] } w := by
    refine ⟨⟨B, I, ⟨Below.refl _ _, hm.globNow, fun _ _ h => h, fun _ _ h => .inl h, hm.there, fun _ _ h => absurd h (noneSome _), fun _ _ h => absurd h (noneSome _), fun _ _ _ _ h => absurd h (noneSome _), fun _ _ h => absurd h (noneSome _)⟩, Ext.refl _ _, fun _ _ => rfl, rvl_entry hv⟩, fun t j hj => ?_, by simp [hlen]; omega, hl2, by rw [show dfs ((⟨entry args, Mem.nil⟩ : St).s DID) = [] from entry_dfs (fun a ha l e => by subst e; exact hd2 _ ha l rfl)]; rfl, fun j hj => hj.elim⟩
    simp only [entry, List.getD_eq_getElem?_getD] at hj
    cases hx : args[t]? with
    | none => rw [hx] at hj; simp [A.ids] at hj
    | some a => rw [hx] at hj; simp [hd1 a (List.mem_of_getElem? hx)] at hj
  refine wp_mono (hW _ rfl _ w h0) ?_
  rintro e a' w' ⟨st', ⟨he, hdn, id, hres, hid⟩, ⟨⟨B', I', hm', hx', -, hs'⟩, -, -, -, hds, -⟩⟩
  rw [hdn] at hds
  obtain ⟨v, h1, h2⟩ := resE_snd hT hm' hs' hl hres
  obtain ⟨hvB, hsh⟩ : v = B' id ∧ ∃ a n cap, v = .slice a n cap := h2
  have hfoot : ∀ k, foot (upd B b v) b o k → foot B' id o k := fun k hk => by
    obtain ⟨ty, e, xs, rfl | rfl⟩ := ho
    · have hk : (upd B b v b).ownBlock = some k := hk
      rw [upd_same, hvB] at hk; exact hk
    · have hk : (upd B b v b).ownBlock = some k := hk
      rw [upd_same, hvB] at hk; exact hk
  have hE : Ext w w' I I' := ⟨hm'.base, fun q p hq => World.cell?_of_block (w := w) (hm'.below.block q (hm.there q p hq))⟩
  have hob : RO (upd B b v) w' I' b o := by
    have := hm'.objs id o hid
    obtain ⟨ty, e, xs, rfl | rfl⟩ := ho
    · obtain ⟨vs, q1, q2, q3, q4⟩ := this
      exact ⟨vs, by rw [upd_same, hvB]; exact q1, q2, q3, fun k hk => by rw [upd_same, hvB] at hk; exact q4 k hk⟩
    · obtain ⟨vs, q1, q2, q3, q4⟩ := this
      exact ⟨vs, by rw [upd_same, hvB]; exact q1, q2, q3, fun k hk => by rw [upd_same, hvB] at hk; exact q4 k hk⟩
  have hmr := hm.fresh2 (id := b) hM (v := v) (o' := o) hm'.below (fun k hk => hm'.low id o hid k (hfoot k hk)) hE (fun q p hq => (hm'.old q p hq).imp (fun k => k) fun k => ⟨k, hm'.there q p hq⟩) hob hoi
  have hpost : a'.defers = [] ∧ ∃ v, (results fn a'.tmps).run P w' = .ok v w' ∧ ∃ v' B'' I'', Ending.returned v = .returned v' ∧ MR w0 I0 B'' I'' (upd M b (some o)) w' ∧ Ext w w' I I'' ∧ (∀ j, (M j).isSome = true → j ∉ ([] : List Nat) → B'' j = B j) ∧ RV B'' w' I'' (.own b) v' :=
    ⟨hds, v, h1, v, _, I', rfl, hmr, hE, fun j hj _ => upd_ne _ _ (fun e => by subst e; rw [hM] at hj; cases hj), (upd_same B b v).symm, hsh⟩
  rcases he with rfl | rfl
  · exact hpost
  · exact hpost
end V
end Go.Proofs.Ytgaipdillmleeaa
end
section
/- Whether all variables of an expression have a value: the program's ask walked. -/
set_option linter.unusedVariables false
set_option linter.unusedSimpArgs false
namespace Go.Proofs.Ytgaipdillmleeaa
namespace V
open Go.RowKit AS
def idxZ (p : Expr → Bool) (l : List Expr) : Int := match l.findIdx? p with | some i => (i : Int) | none => -1
theorem idxZ_ge (p : Expr → Bool) (l : List Expr) : decide (0 ≤ idxZ p l) = l.any p := by
  unfold idxZ
  cases h : l.findIdx? p with
  | none =>
    rw [List.findIdx?_eq_none_iff] at h
    have : l.any p = false := by rw [List.any_eq_false]; exact fun x hx => by simp [h x hx]
    rw [this]; rfl
  | some i =>
    obtain ⟨h1, h2, -⟩ := List.findIdx?_eq_some_iff_getElem.1 h
    have : l.any p = true := by rw [List.any_eq_true]; exact ⟨_, List.getElem_mem h1, h2⟩
    rw [this]; simp
set_option maxHeartbeats 2000000 in
theorem index_ok (l : List Expr) (hl : l.length ≤ 1000000000000) (g q : Nat) (M : Mem) (p : Expr → Bool) (b : Nat) (hM : ∀ d, M (b + d) = none) {ty : TypeId} {cs : List A} (hq : M q = some (.box ty cs)) (hg : ∀ x ∈ l, CallE Try.prog g [.agg (cExpr x), .ptr q 0] M [] (.c (.bool (p x))) M) :
    CallE Try.prog 36 [.c (.sl (l.map cExpr)), .fn g [q]] M [] (.c (.int .i64 (idxZ p l))) M := by
  refine (ok_eff tab_ok [] Try.func36 (by kernel_rfl) rfl rfl (by rfl) (by rfl) ?ids ?res ?sub ?wfm (fun hWF Rr hkeep => ?_))
  case ids => intro a ha j hj; simp at ha; rcases ha with rfl | rfl <;> simp [A.ids] at hj; subst hj; simp [hq]
  case res => intro j hj; simp [A.ids] at hj
  case sub => exact fun j hj => hj
  case wfm => exact fun hw => hw
  have kept : ∀ j, Rr.keep j → (M j).isSome = true := fun j hj => by rw [hkeep] at hj; exact hj.1
  repeat (first | refine W.seq ?_ | refine W.block ?_ | refine W.skip ?_ | refine W.exit ?_ | refine W.region tab_ok b (by decide) (exec_run (by simp only [exa, beq_self_eq_true, ByteArray.size, Nat.reduceAdd, Nat.reduceLeDiff, Nat.reduceEqDiff, Nat.reduceMul, Int.reduceToNat, reduceIte, Int.reduceLE, Int.reduceNeg]; rfl)) ?_)
  refine W.loop (ι := Nat) (fun k => ⟨upd (upd (upd (upd (upd (fun _ => .top) 0 (.c (.sl (l.map cExpr)))) 1 (.fn g [q])) 6 (.c (.sl (l.map cExpr)))) 7 (.c (.int .i64 l.length))) 8 (.c (.int .i64 k)), M⟩) (fun k => k ≤ l.length ∧ ∀ i x, i < k → l[i]? = some x → p x = false) (fun k => l.length - k) 0 ?start ⟨Nat.zero_le _, fun i x h => by omega⟩ ?round
  case start =>
    refine le_mk ?sle ?mle ?swf ?mwf kept (by rfl)
    case swf => repeat (first | exact swf_top _ | refine swf_upd ?_ (by simp [A.ids, upd_app, hq]))
    case mwf => exact hWF
    case sle => repeat (first | exact sle_top _ | exact sle_refl _ | refine sle_upd ?_ (by first | rfl | (simp only [upd_app, killS_app, A.kill, entry_zero, entry_succ, Nat.reduceEqDiff, reduceIte, List.length_map]; done)))
    case mle => exact mle_refl' rfl
  case round =>
    rintro k ⟨hk, hall⟩
    repeat (first | refine W.seq ?_ | refine W.block ?_ | refine W.skip ?_ | refine W.exit ?_ | refine W.region tab_ok b (by decide) (exec_run (by simp only [exa, beq_self_eq_true, ByteArray.size, Nat.reduceAdd, Nat.reduceLeDiff, Nat.reduceEqDiff, Nat.reduceMul, Int.reduceToNat, reduceIte, Int.reduceLE, Int.reduceNeg]; rfl)) ?_)
    refine W.cond rfl ?_ ?_
    · intro hlt
      simp only [decide_eq_true_eq, Int.ofNat_lt] at hlt
      obtain ⟨x, hx⟩ : ∃ x, l[k]? = some x := ⟨_, List.getElem?_eq_getElem hlt⟩
      have hxm := List.mem_of_getElem? hx
      obtain ⟨kd, nn, nm, kids⟩ := x
      have hgx := hg _ hxm
      simp only [cExpr] at hgx
      repeat (first | refine W.seq ?_ | refine W.block ?_ | refine W.skip ?_ | refine W.exit ?_ | refine W.region tab_ok b (by decide) (exec_run (by simp only [exa, beq_self_eq_true, ByteArray.size, Nat.reduceAdd, Nat.reduceLeDiff, Nat.reduceEqDiff, Nat.reduceMul, Int.reduceToNat, reduceIte, Int.reduceLE, Int.reduceNeg]; rfl)) ?_)
      refine W.regionK tab_ok b (by decide) ?_
      refine runk_split 5 (by simp only [exa, beq_self_eq_true, ByteArray.size, Nat.reduceAdd, Nat.reduceLeDiff, Nat.reduceEqDiff, Nat.reduceMul, Int.reduceToNat, reduceIte, Int.reduceLE, Int.reduceNeg, hlt, at_map hx, cExpr]; rfl) ?_
      refine runk_callE (D := []) rfl rfl rfl rfl rfl (fun j hj => by simp at hj) (fun j hj => by simp at hj; subst hj; exact ⟨_, _, by first | exact hq | (simp only [exa, beq_self_eq_true, ByteArray.size, Nat.reduceAdd, Nat.reduceLeDiff, Nat.reduceEqDiff, Nat.reduceMul, Int.reduceToNat, reduceIte, Int.reduceLE, Int.reduceNeg, hlt, at_map hx, cExpr]; rfl)⟩) (cvs_cons cv_refl (cvs_cons cv_refl cvs_nil)) hgx ?_
      simp only [killL, putS, upd_upd]
      refine runk_exec (by simp only [exa, beq_self_eq_true, ByteArray.size, Nat.reduceAdd, Nat.reduceLeDiff, Nat.reduceEqDiff, Nat.reduceMul, Int.reduceToNat, reduceIte, Int.reduceLE, Int.reduceNeg]; rfl) ?_
      cases hp : p ⟨kd, nn, nm, kids⟩
      · refine W.cond rfl (fun h => absurd h (by simp)) (fun _ => ?_)
        repeat (first | refine W.seq ?_ | refine W.block ?_ | refine W.skip ?_ | refine W.exit ?_ | refine W.region tab_ok b (by decide) (exec_run (by simp only [exa, beq_self_eq_true, ByteArray.size, Nat.reduceAdd, Nat.reduceLeDiff, Nat.reduceEqDiff, Nat.reduceMul, Int.reduceToNat, reduceIte, Int.reduceLE, Int.reduceNeg]; rfl)) ?_)
        refine ⟨k + 1, ⟨hlt, fun i x hi hxi => ?_⟩, by omega, ?_⟩
        · rcases Nat.lt_succ_iff_lt_or_eq.1 hi with h | rfl
          · exact hall i x h hxi
          · rw [hx] at hxi; cases hxi; exact hp
        refine le_mk ?sle ?mle ?swf ?mwf kept (by rfl)
        case swf => repeat (first | exact swf_top _ | refine swf_upd ?_ (by simp [A.ids, upd_app, hq]))
        case mwf => exact hWF
        case sle => repeat (first | exact sle_top _ | exact sle_refl _ | refine sle_upd ?_ (by first | rfl | (simp only [upd_app, killS_app, A.kill, entry_zero, entry_succ, Nat.reduceEqDiff, reduceIte, wrap_succ (show k + 1 < 9223372036854775808 by omega)]; done)))
        case mle => exact mle_refl' rfl
      · refine W.cond rfl (fun _ => ?_) (fun h => absurd h (by simp))
        have he : idxZ p l = (k : Int) := by
          unfold idxZ
          rw [List.findIdx?_eq_some_iff_getElem.2 ⟨hlt, by
            have : l[k] = ⟨kd, nn, nm, kids⟩ := by rw [List.getElem?_eq_getElem hlt] at hx; exact Option.some.inj hx
            rw [this]; exact hp, fun j hj => by rw [hall j _ hj (List.getElem?_eq_getElem (by omega))]; simp⟩]
        repeat (first | refine W.seq ?_ | refine W.block ?_ | refine W.skip ?_ | refine W.exit ?_ | refine W.region tab_ok b (by decide) (exec_run (by simp only [exa, beq_self_eq_true, ByteArray.size, Nat.reduceAdd, Nat.reduceLeDiff, Nat.reduceEqDiff, Nat.reduceMul, Int.reduceToNat, reduceIte, Int.reduceLE, Int.reduceNeg]; rfl)) ?_)
        refine W.ret ⟨.inr rfl, by rfl, ?_, ?mle⟩
        simp only [Try.f36, resE, resOne, fin, toT, exa, beq_self_eq_true, ByteArray.size, Nat.reduceAdd, Nat.reduceLeDiff, Nat.reduceEqDiff, Nat.reduceMul, Int.reduceToNat, reduceIte, Int.reduceLE, Int.reduceNeg, he]
        case mle => exact mle_refl' rfl
    · intro hge
      simp only [decide_eq_false_iff_not, Int.ofNat_lt] at hge
      obtain rfl : k = l.length := by omega
      have he : idxZ p l = -1 := by
        unfold idxZ
        rw [List.findIdx?_eq_none_iff.2 fun x hx => by
          obtain ⟨i, hi⟩ := List.getElem?_of_mem hx
          exact hall i x (List.getElem?_eq_some_iff.1 hi).1 hi]
      repeat (first | refine W.seq ?_ | refine W.block ?_ | refine W.skip ?_ | refine W.exit ?_ | refine W.region tab_ok b (by decide) (exec_run (by simp only [exa, beq_self_eq_true, ByteArray.size, Nat.reduceAdd, Nat.reduceLeDiff, Nat.reduceEqDiff, Nat.reduceMul, Int.reduceToNat, reduceIte, Int.reduceLE, Int.reduceNeg]; rfl)) ?_)
      refine W.ret ⟨.inr rfl, by rfl, ?_, ?mle⟩
      simp only [Try.f36, resE, resOne, fin, toT, exa, beq_self_eq_true, ByteArray.size, Nat.reduceAdd, Nat.reduceLeDiff, Nat.reduceEqDiff, Nat.reduceMul, Int.reduceToNat, reduceIte, Int.reduceLE, Int.reduceNeg, he]
      case mle => exact mle_refl' rfl
theorem contains_ok (l : List Expr) (hl : l.length ≤ 1000000000000) (g q : Nat) (M : Mem) (p : Expr → Bool) (b : Nat) (hM : ∀ d, M (b + d) = none) {ty : TypeId} {cs : List A} (hq : M q = some (.box ty cs)) (hg : ∀ x ∈ l, CallE Try.prog g [.agg (cExpr x), .ptr q 0] M [] (.c (.bool (p x))) M) :
    CallE Try.prog 24 [.c (.sl (l.map cExpr)), .fn g [q]] M [] (.c (.bool (l.any p))) M := by
  refine (ok_eff tab_ok [] Try.func24 (by kernel_rfl) rfl rfl (by rfl) (by rfl) ?ids ?res ?sub ?wfm (fun hWF Rr hkeep => ?_))
  case ids => intro a ha j hj; simp at ha; rcases ha with rfl | rfl <;> simp [A.ids] at hj; subst hj; simp [hq]
  case res => intro j hj; simp [A.ids] at hj
  case sub => exact fun j hj => hj
  case wfm => exact fun hw => hw
  repeat (first | refine W.seq ?_ | refine W.block ?_ | refine W.skip ?_ | refine W.exit ?_ | refine W.region tab_ok b (by decide) (exec_run (by simp only [exa, beq_self_eq_true, ByteArray.size, Nat.reduceAdd, Nat.reduceLeDiff, Nat.reduceEqDiff, Nat.reduceMul, Int.reduceToNat, reduceIte, Int.reduceLE, Int.reduceNeg]; rfl)) ?_)
  refine W.regionK tab_ok b (by decide) ?_
  refine runk_split 2 (by simp only [exa, beq_self_eq_true, ByteArray.size, Nat.reduceAdd, Nat.reduceLeDiff, Nat.reduceEqDiff, Nat.reduceMul, Int.reduceToNat, reduceIte, Int.reduceLE, Int.reduceNeg]; rfl) ?_
  refine runk_callE (D := []) rfl rfl rfl rfl rfl (fun j hj => by simp at hj) (by simp) (cvs_cons cv_refl (cvs_cons cv_refl cvs_nil)) (index_ok l hl g q M p b hM hq hg) ?_
  simp only [killL, putS, upd_upd]
  refine runk_exec (by simp only [exa, beq_self_eq_true, ByteArray.size, Nat.reduceAdd, Nat.reduceLeDiff, Nat.reduceEqDiff, Nat.reduceMul, Int.reduceToNat, reduceIte, Int.reduceLE, Int.reduceNeg]; rfl) ?_
  refine W.ret ⟨.inr rfl, by rfl, ?_, ?mle⟩
  simp only [Try.f24, resE, resOne, fin, toT, exa, beq_self_eq_true, ByteArray.size, Nat.reduceAdd, Nat.reduceLeDiff, Nat.reduceEqDiff, Nat.reduceMul, Int.reduceToNat, reduceIte, Int.reduceLE, Int.reduceNeg]
  case mle => exact mle_refl' rfl
  rw [idxZ_ge]
end V
end Go.Proofs.Ytgaipdillmleeaa
end
section
/- Whether all variables of an expression have a value: the program's ask walked, whole. -/
set_option linter.unusedVariables false
set_option linter.unusedSimpArgs false
namespace Go.Proofs.Ytgaipdillmleeaa
namespace V
open Go.RowKit AS
theorem ask1_of (x : Expr) (L : List Nm) (M : Mem) (b j q : Nat) (hM : ∀ d, M (b + d) = none) (hj : M j = some (.names (some L))) (hq : M q = some (.box 39 [.map j]))
    (hA : ∀ (M : Mem) (b : Nat), (∀ d, M (b + d) = none) → M j = some (.names (some L)) → CallE Try.prog 26 [.map j, .agg (cExpr x)] M [] (.c (.bool (askB L x))) M) : CallE Try.prog 37 [.agg (cExpr x), .ptr q 0] M [] (.c (.bool (!askB L x))) M := by
  have hjb : ∀ d, (j = b + d) = False := base_ne hM hj
  have hqb : ∀ d, (q = b + d) = False := base_ne hM hq
  refine (ok_eff tab_ok [] Try.func37 (by kernel_rfl) rfl rfl (by rfl) (by rfl) ?ids ?res ?sub ?wfm (fun hWF Rr hkeep => ?_))
  case ids => intro a ha j' hj'; simp at ha; rcases ha with rfl | rfl <;> simp [A.ids] at hj'; subst hj'; simp [hq]
  case res => intro j' hj'; simp [A.ids] at hj'
  case sub => exact fun j hj => hj
  case wfm => exact fun hw => hw
  obtain ⟨kd, nn, nm, kids⟩ := x
  simp only [cExpr] at hA ⊢
  have hA := hA (upd M (b + 2) (some (.box 34 [.c (.int .i64 kd), .c (.int .i64 nn), .c (.str nm), .c (.sl (cExprs kids))]))) (b + 8) (base_upd hM (by omega)) (by rw [upd_ne _ _ (fun e => cast (hjb _) e)]; exact hj)
  repeat (first | refine W.seq ?_ | refine W.block ?_ | refine W.skip ?_ | refine W.exit ?_ | refine W.region tab_ok b (by decide) (exec_run (by simp only [exa, beq_self_eq_true, ByteArray.size, Nat.reduceAdd, Nat.reduceLeDiff, Nat.reduceEqDiff, Nat.reduceMul, Int.reduceToNat, reduceIte, Int.reduceLE, Int.reduceNeg, hM 2, hq, hqb]; rfl)) ?_)
  refine W.regionK tab_ok b (by decide) ?_
  refine runk_split 2 (by simp only [exa, beq_self_eq_true, ByteArray.size, Nat.reduceAdd, Nat.reduceLeDiff, Nat.reduceEqDiff, Nat.reduceMul, Int.reduceToNat, reduceIte, Int.reduceLE, Int.reduceNeg, hM 2, hq, hqb]; rfl) ?_
  refine runk_callE (D := []) rfl rfl rfl rfl rfl (fun j hj => by simp at hj) (by simp) (cvs_cons cv_refl (cvs_cons cv_refl cvs_nil)) hA ?_
  simp only [killL, putS, upd_upd]
  refine runk_exec (by simp only [exa, beq_self_eq_true, ByteArray.size, Nat.reduceAdd, Nat.reduceLeDiff, Nat.reduceEqDiff, Nat.reduceMul, Int.reduceToNat, reduceIte, Int.reduceLE, Int.reduceNeg]; rfl) ?_
  refine W.ret ⟨.inr rfl, by rfl, ?_, ?mle⟩
  simp only [Try.f37, resE, resOne, fin, toT, exa, beq_self_eq_true, ByteArray.size, Nat.reduceAdd, Nat.reduceLeDiff, Nat.reduceEqDiff, Nat.reduceMul, Int.reduceToNat, reduceIte, Int.reduceLE, Int.reduceNeg]
  case mle => exact mle_skip (mle_refl' rfl) (hM 2)
theorem step1_of (x : Expr) (L : List Nm) (M : Mem) (b j q : Nat) (hM : ∀ d, M (b + d) = none) (hj : M j = some (.names (some L))) (hq : M q = some (.box 39 [.map j]))
    (hA : ∀ (M : Mem) (b : Nat), (∀ d, M (b + d) = none) → M j = some (.names (some L)) → CallE Try.prog 26 [.map j, .agg (cExpr x)] M [] (.c (.bool (askB L x))) M) : CallE Try.prog 25 [.agg (cExpr x), .ptr q 0] M [] (.c (.bool (!askB L x))) M := by
  have hjb : ∀ d, (j = b + d) = False := base_ne hM hj
  have hqb : ∀ d, (q = b + d) = False := base_ne hM hq
  refine (ok_eff tab_ok [] Try.func25 (by kernel_rfl) rfl rfl (by rfl) (by rfl) ?ids ?res ?sub ?wfm (fun hWF Rr hkeep => ?_))
  case ids => intro a ha j' hj'; simp at ha; rcases ha with rfl | rfl <;> simp [A.ids] at hj'; subst hj'; simp [hq]
  case res => intro j' hj'; simp [A.ids] at hj'
  case sub => exact fun j hj => hj
  case wfm => exact fun hw => hw
  obtain ⟨kd, nn, nm, kids⟩ := x
  simp only [cExpr] at hA ⊢
  have hA := hA (upd M (b + 2) (some (.box 34 [.c (.int .i64 kd), .c (.int .i64 nn), .c (.str nm), .c (.sl (cExprs kids))]))) (b + 8) (base_upd hM (by omega)) (by rw [upd_ne _ _ (fun e => cast (hjb _) e)]; exact hj)
  repeat (first | refine W.seq ?_ | refine W.block ?_ | refine W.skip ?_ | refine W.exit ?_ | refine W.region tab_ok b (by decide) (exec_run (by simp only [exa, beq_self_eq_true, ByteArray.size, Nat.reduceAdd, Nat.reduceLeDiff, Nat.reduceEqDiff, Nat.reduceMul, Int.reduceToNat, reduceIte, Int.reduceLE, Int.reduceNeg, hM 2, hq, hqb]; rfl)) ?_)
  refine W.regionK tab_ok b (by decide) ?_
  refine runk_split 2 (by simp only [exa, beq_self_eq_true, ByteArray.size, Nat.reduceAdd, Nat.reduceLeDiff, Nat.reduceEqDiff, Nat.reduceMul, Int.reduceToNat, reduceIte, Int.reduceLE, Int.reduceNeg, hM 2, hq, hqb]; rfl) ?_
  refine runk_callE (D := []) rfl rfl rfl rfl rfl (fun j hj => by simp at hj) (by simp) (cvs_cons cv_refl (cvs_cons cv_refl cvs_nil)) hA ?_
  simp only [killL, putS, upd_upd]
  refine runk_exec (by simp only [exa, beq_self_eq_true, ByteArray.size, Nat.reduceAdd, Nat.reduceLeDiff, Nat.reduceEqDiff, Nat.reduceMul, Int.reduceToNat, reduceIte, Int.reduceLE, Int.reduceNeg]; rfl) ?_
  refine W.ret ⟨.inr rfl, by rfl, ?_, ?mle⟩
  simp only [Try.f25, resE, resOne, fin, toT, exa, beq_self_eq_true, ByteArray.size, Nat.reduceAdd, Nat.reduceLeDiff, Nat.reduceEqDiff, Nat.reduceMul, Int.reduceToNat, reduceIte, Int.reduceLE, Int.reduceNeg]
  case mle => exact mle_skip (mle_refl' rfl) (hM 2)
theorem askBs_any (L : List Nm) : ∀ l : List Expr, askBs L l = !l.any fun x => !askB L x
  | [] => rfl
  | x :: l => by simp [askBs, askBs_any L l]
theorem askB_eq (L : List Nm) (k n : Int) (nm : ByteArray) (kids : List Expr) : askB L ⟨k, n, nm, kids⟩ = ((!decide (k = 4) || hasB L nm) && askBs L kids) := by simp only [askB]
mutual
def SmE : Expr → Prop
  | ⟨_, _, _, kids⟩ => kids.length ≤ 1048576 ∧ SmEs kids
def SmEs : List Expr → Prop
  | [] => True
  | x :: l => SmE x ∧ SmEs l
end
theorem SmEs.mem : ∀ {l : List Expr} {x : Expr}, SmEs l → x ∈ l → SmE x
  | y :: l, x, h, hx => by
    simp only [SmEs] at h
    rcases List.mem_cons.1 hx with rfl | hx
    · exact h.1
    · exact SmEs.mem h.2 hx
set_option maxHeartbeats 2000000 in
theorem ask_ok : ∀ (n : Nat) (x : Expr), SizeOf.sizeOf x ≤ n → SmE x → ∀ (L : List Nm) (j : Nat) (M : Mem) (b : Nat), (∀ d, M (b + d) = none) → M j = some (.names (some L)) → CallE Try.prog 26 [.map j, .agg (cExpr x)] M [] (.c (.bool (askB L x))) M := by
  intro n
  induction n using Nat.strongRecOn with
  | ind n ih =>
  rintro ⟨k, nn, nm, kids⟩ hn hsm L j M b hM hj
  have hjb : ∀ d, (j = b + d) = False := base_ne hM hj
  have hjb' : ∀ d, (b + d = j) = False := base_ne' hM hj
  refine (ok_eff tab_ok [] Try.func26 (by kernel_rfl) rfl rfl (by rfl) (by rfl) ?ids ?res ?sub ?wfm (fun hWF Rr hkeep => ?_))
  case ids => intro a ha j' hj'; simp at ha; rcases ha with rfl | rfl <;> simp [A.ids] at hj'; subst hj'; simp [hj]
  case res => intro j' hj'; simp [A.ids] at hj'
  case sub => exact fun j hj => hj
  case wfm => exact fun hw => hw
  simp only [SmE] at hsm
  simp only [cExpr, cExprs_map]
  obtain ⟨B1, hB1⟩ : ∃ o : O, o = .box 39 [.map j] := ⟨_, rfl⟩
  obtain ⟨B2, hB2⟩ : ∃ o : O, o = .box 34 [.c (.int .i64 k), .c (.int .i64 nn), .c (.str nm), .c (.sl (kids.map cExpr))] := ⟨_, rfl⟩
  have hM' : ∀ d, (upd (upd M (b + 2) (some B1)) (b + 3) (some B2)) (b + 20 + d) = none := fun d => by
    rw [upd_ne _ _ (by omega), upd_ne _ _ (by omega), Nat.add_assoc]; exact hM _
  have hj' : (upd (upd M (b + 2) (some B1)) (b + 3) (some B2)) j = some (.names (some L)) := by
    rw [upd_ne _ _ (fun e => cast (hjb _) e), upd_ne _ _ (fun e => cast (hjb _) e)]; exact hj
  have hq' : (upd (upd M (b + 2) (some B1)) (b + 3) (some B2)) (b + 2) = some B1 := by
    rw [upd_ne _ _ (by omega), upd_same]
  subst hB1
  have con := contains_ok kids (Nat.le_trans hsm.1 (by decide)) 37 (b + 2) _ (fun x => !askB L x) (b + 20) hM' hq' (fun x hx => ask1_of x L _ (b + 20) j (b + 2) hM' hj' hq' (fun M b hM hj => ih (SizeOf.sizeOf x) (by
    have h1 := List.sizeOf_lt_of_mem hx
    have h2 := Expr.mk.sizeOf_spec k nn nm kids
    omega) x (Nat.le_refl _) (hsm.2.mem hx) L j M b hM hj))
  subst hB2
  rw [askB_eq, askBs_any]
  have h14 : ∀ x : Bool, (!decide ((4 : Int) = 4) || x) = x := fun x => by simp
  by_cases hk : k = 4
  · subst hk
    rw [h14]
    cases hs : hasB L nm
    · have hm : L.contains nm.data.toList = false := hs
      repeat (first | refine W.seq ?_ | refine W.block ?_ | refine W.skip ?_ | refine W.exit ?_ | refine W.region tab_ok b (by decide) (exec_run (by simp only [exa, beq_self_eq_true, ByteArray.size, Nat.reduceAdd, Nat.reduceLeDiff, Nat.reduceEqDiff, Nat.reduceMul, Int.reduceToNat, reduceIte, Int.reduceLE, Int.reduceNeg, hM, hjb, hjb', hj, hm, lookN, Nat.add_left_cancel_iff]; rfl)) ?_)
      refine W.cond rfl (fun _ => ?_) (fun h => absurd h (by simp))
      repeat (first | refine W.seq ?_ | refine W.block ?_ | refine W.skip ?_ | refine W.exit ?_ | refine W.region tab_ok b (by decide) (exec_run (by simp only [exa, beq_self_eq_true, ByteArray.size, Nat.reduceAdd, Nat.reduceLeDiff, Nat.reduceEqDiff, Nat.reduceMul, Int.reduceToNat, reduceIte, Int.reduceLE, Int.reduceNeg]; rfl)) ?_)
      refine W.ret ⟨.inr rfl, by rfl, ?_, ?mle⟩
      simp only [Try.f26, resE, resOne, fin, toT, exa, beq_self_eq_true, ByteArray.size, Nat.reduceAdd, Nat.reduceLeDiff, Nat.reduceEqDiff, Nat.reduceMul, Int.reduceToNat, reduceIte, Int.reduceLE, Int.reduceNeg]
      case mle => exact mle_skip (mle_skip (mle_refl' rfl) (hM 2)) (hM 3)
      rfl
    · have hm : L.contains nm.data.toList = true := hs
      repeat (first | refine W.seq ?_ | refine W.block ?_ | refine W.skip ?_ | refine W.exit ?_ | refine W.region tab_ok b (by decide) (exec_run (by simp only [exa, beq_self_eq_true, ByteArray.size, Nat.reduceAdd, Nat.reduceLeDiff, Nat.reduceEqDiff, Nat.reduceMul, Int.reduceToNat, reduceIte, Int.reduceLE, Int.reduceNeg, hM, hjb, hjb', hj, hm, lookN, Nat.add_left_cancel_iff]; rfl)) ?_)
      refine W.cond rfl (fun h => absurd h (by simp)) (fun _ => ?_)
      repeat (first | refine W.seq ?_ | refine W.block ?_ | refine W.skip ?_ | refine W.exit ?_ | refine W.region tab_ok b (by decide) (exec_run (by simp only [exa, beq_self_eq_true, ByteArray.size, Nat.reduceAdd, Nat.reduceLeDiff, Nat.reduceEqDiff, Nat.reduceMul, Int.reduceToNat, reduceIte, Int.reduceLE, Int.reduceNeg]; rfl)) ?_)
      refine W.regionK tab_ok b (by decide) ?_
      refine runk_split 3 (by simp only [exa, beq_self_eq_true, ByteArray.size, Nat.reduceAdd, Nat.reduceLeDiff, Nat.reduceEqDiff, Nat.reduceMul, Int.reduceToNat, reduceIte, Int.reduceLE, Int.reduceNeg, hM, hjb, hjb', hj, Nat.add_left_cancel_iff]; rfl) ?_
      refine runk_callE (D := []) rfl rfl rfl rfl rfl (fun j hj => by simp at hj) (by simp) (cvs_cons cv_refl (cvs_cons cv_refl cvs_nil)) con ?_
      simp only [killL, putS, upd_upd]
      refine runk_exec (by simp only [exa, beq_self_eq_true, ByteArray.size, Nat.reduceAdd, Nat.reduceLeDiff, Nat.reduceEqDiff, Nat.reduceMul, Int.reduceToNat, reduceIte, Int.reduceLE, Int.reduceNeg]; rfl) ?_
      refine W.ret ⟨.inr rfl, by rfl, ?_, ?mle⟩
      simp only [Try.f26, resE, resOne, fin, toT, exa, beq_self_eq_true, ByteArray.size, Nat.reduceAdd, Nat.reduceLeDiff, Nat.reduceEqDiff, Nat.reduceMul, Int.reduceToNat, reduceIte, Int.reduceLE, Int.reduceNeg]
      case mle => exact mle_skip (mle_skip (mle_refl' rfl) (hM 2)) (hM 3)
      rw [Bool.true_and]
  · have hk' : decide (k = 4) = false := by simp [hk]
    rw [hk']
    repeat (first | refine W.seq ?_ | refine W.block ?_ | refine W.skip ?_ | refine W.exit ?_ | refine W.region tab_ok b (by decide) (exec_run (by simp only [exa, beq_self_eq_true, ByteArray.size, Nat.reduceAdd, Nat.reduceLeDiff, Nat.reduceEqDiff, Nat.reduceMul, Int.reduceToNat, reduceIte, Int.reduceLE, Int.reduceNeg, hM, hk', hjb, hjb', hj, Nat.add_left_cancel_iff]; rfl)) ?_)
    refine W.cond rfl (fun h => absurd h (by simp)) (fun _ => ?_)
    repeat (first | refine W.seq ?_ | refine W.block ?_ | refine W.skip ?_ | refine W.exit ?_ | refine W.region tab_ok b (by decide) (exec_run (by simp only [exa, beq_self_eq_true, ByteArray.size, Nat.reduceAdd, Nat.reduceLeDiff, Nat.reduceEqDiff, Nat.reduceMul, Int.reduceToNat, reduceIte, Int.reduceLE, Int.reduceNeg]; rfl)) ?_)
    refine W.regionK tab_ok b (by decide) ?_
    refine runk_split 3 (by simp only [exa, beq_self_eq_true, ByteArray.size, Nat.reduceAdd, Nat.reduceLeDiff, Nat.reduceEqDiff, Nat.reduceMul, Int.reduceToNat, reduceIte, Int.reduceLE, Int.reduceNeg, hM, hjb, hjb', hj, Nat.add_left_cancel_iff]; rfl) ?_
    refine runk_callE (D := []) rfl rfl rfl rfl rfl (fun j hj => by simp at hj) (by simp) (cvs_cons cv_refl (cvs_cons cv_refl cvs_nil)) con ?_
    simp only [killL, putS, upd_upd]
    refine runk_exec (by simp only [exa, beq_self_eq_true, ByteArray.size, Nat.reduceAdd, Nat.reduceLeDiff, Nat.reduceEqDiff, Nat.reduceMul, Int.reduceToNat, reduceIte, Int.reduceLE, Int.reduceNeg]; rfl) ?_
    refine W.ret ⟨.inr rfl, by rfl, ?_, ?mle⟩
    simp only [Try.f26, resE, resOne, fin, toT, exa, beq_self_eq_true, ByteArray.size, Nat.reduceAdd, Nat.reduceLeDiff, Nat.reduceEqDiff, Nat.reduceMul, Int.reduceToNat, reduceIte, Int.reduceLE, Int.reduceNeg]
    case mle => exact mle_skip (mle_skip (mle_refl' rfl) (hM 2)) (hM 3)
    rfl
end V
end Go.Proofs.Ytgaipdillmleeaa
end
section
/- The document's has and asked, without and both walked. -/
set_option linter.unusedVariables false
set_option linter.unusedSimpArgs false
namespace Go.Proofs.Ytgaipdillmleeaa
namespace V
open Go.RowKit AS
theorem toList_loop (bs : ByteArray) : ∀ (n i : Nat) (r : List UInt8), bs.size - i = n → ByteArray.toList.loop bs i r = r.reverse ++ bs.data.toList.drop i := by
  intro n
  induction n with
  | zero =>
    intro i r h
    unfold ByteArray.toList.loop
    rw [if_neg (by omega)]
    have : bs.data.toList.drop i = [] := List.drop_of_length_le (by simp only [Array.length_toList]; show bs.data.size ≤ i; have : bs.size = bs.data.size := rfl; omega)
    rw [this, List.append_nil]
  | succ n ih =>
    intro i r h
    have hlt : i < bs.size := by omega
    unfold ByteArray.toList.loop
    rw [if_pos hlt, ih (i + 1) _ (by omega)]
    have hl : i < bs.data.toList.length := by simpa using hlt
    rw [List.drop_eq_getElem_cons hl, List.reverse_cons, List.append_assoc]
    congr 1
    have : bs.get! i = bs.data.toList[i] := by
      show bs.data[i]! = _
      rw [getElem!_pos bs.data i hlt]; simp
    rw [this]; rfl
theorem toList_bs (s : ByteArray) : s.toList = bs s := by
  unfold ByteArray.toList
  rw [toList_loop s _ 0 [] rfl]; rfl
/-- Names as rows. -/
abbrev cBs (L : List Nm) : List (List C) := L.map cB
theorem nm_eq (b : Nm) (s : ByteArray) : ((⟨b.toArray⟩ : ByteArray).toList == s.toList) = (b == bs s) := by rw [toList_bs, toList_bs, bs_mk]
theorem take_contains {L : List Nm} {k : Nat} {s x : Nm} (h : (L.take k).contains s = false) (hx : L[k]? = some x) : (L.take (k + 1)).contains s = (x == s) := by
  rw [List.take_add_one, hx, List.contains_eq_any_beq, List.any_append, ← List.contains_eq_any_beq, h]
  show (false || ([x].any fun y => s == y)) = _
  rw [Bool.false_or, List.any_cons, List.any_nil, Bool.or_false, Bool.eq_iff_iff, beq_iff_eq, beq_iff_eq]
  exact eq_comm
theorem has_ok (L : List Nm) (hL : L.length ≤ 1000000000000) (s : ByteArray) (m : Mem) : COk Try.prog 17 [.c (.sl (cBs L)), .c (.str s)] m (.c (.bool (L.contains (bs s)))) := by
  refine (ok_pure tab_ok Try.func17 (by kernel_rfl) rfl rfl (by rfl) (by rfl) (by rfl) (fun R hkeep => ?_) m)
  repeat (first | refine W.seq ?_ | refine W.block ?_ | refine W.skip ?_ | refine W.exit ?_ | refine W.region tab_ok 0 (by decide) (exec_run (by simp only [exa, beq_self_eq_true, ByteArray.size, Nat.reduceAdd, Nat.reduceLeDiff, Nat.reduceEqDiff, Nat.reduceMul, Int.reduceToNat, reduceIte, Int.reduceLE, Int.reduceNeg]; rfl)) ?_)
  refine W.loop (ι := Nat) (fun k => ⟨upd (upd (upd (upd (fun _ => .top) 1 (.c (.str s))) 7 (.c (.sl (cBs L)))) 8 (.c (.int .i64 L.length))) 9 (.c (.int .i64 k)), Mem.nil⟩)
    (fun k => k ≤ L.length ∧ (L.take k).contains (bs s) = false) (fun k => L.length - k) 0 ?start ⟨Nat.zero_le _, rfl⟩ ?round
  case start =>
    refine le_mk ?sle ?mle ?swf ?mwf ?kept (by rfl)
    case kept => exact kept_not hkeep
    case swf => repeat (first | exact swf_top _ | refine swf_upd ?_ (by simp [A.ids, upd_app]))
    case mwf => repeat (first | exact mwf_nil _ | refine mwf_upd ?_ (by simp [A.ids, O.ids, upd_app]))
    case mle => repeat (first | exact mle_nil _ | exact mle_refl _ | refine mle_upd ?_ (by first | rfl | (simp only [upd_app, killM_app, Nat.reduceEqDiff, reduceIte, List.length_map]; done)))
    case sle => repeat (first | exact sle_top _ | exact sle_refl _ | refine sle_upd ?_ (by first | rfl | (simp only [upd_app, entry_zero, entry_succ, Nat.reduceEqDiff, reduceIte, List.length_map]; done)))
  case round =>
    rintro k ⟨hk, hall⟩
    repeat (first | refine W.seq ?_ | refine W.block ?_ | refine W.skip ?_ | refine W.exit ?_ | refine W.region tab_ok 0 (by decide) (exec_run (by simp only [exa, beq_self_eq_true, ByteArray.size, Nat.reduceAdd, Nat.reduceLeDiff, Nat.reduceEqDiff, Nat.reduceMul, Int.reduceToNat, reduceIte, Int.reduceLE, Int.reduceNeg]; rfl)) ?_)
    refine W.cond rfl ?_ ?_
    · intro hlt
      simp only [decide_eq_true_eq, Int.ofNat_lt] at hlt
      obtain ⟨x, hx⟩ : ∃ x, L[k]? = some x := ⟨_, List.getElem?_eq_getElem hlt⟩
      have hn := take_contains hall hx
      repeat (first | refine W.seq ?_ | refine W.block ?_ | refine W.skip ?_ | refine W.exit ?_ | refine W.region tab_ok 0 (by decide) (exec_run (by simp only [exa, beq_self_eq_true, ByteArray.size, Nat.reduceAdd, Nat.reduceLeDiff, Nat.reduceEqDiff, Nat.reduceMul, Int.reduceToNat, reduceIte, Int.reduceLE, Int.reduceNeg, List.length_map, hlt, at_map hx, cB, nm_eq]; rfl)) ?_)
      refine W.cond rfl ?_ ?_
      · intro heq
        repeat (first | refine W.seq ?_ | refine W.block ?_ | refine W.skip ?_ | refine W.exit ?_ | refine W.region tab_ok 0 (by decide) (exec_run (by simp only [exa, beq_self_eq_true, ByteArray.size, Nat.reduceAdd, Nat.reduceLeDiff, Nat.reduceEqDiff, Nat.reduceMul, Int.reduceToNat, reduceIte, Int.reduceLE, Int.reduceNeg]; rfl)) ?_)
        refine W.ret ⟨.inr rfl, by rfl, ?_⟩
        simp only [Try.f17, resA, resOne, toT, fin, exa, beq_self_eq_true, ByteArray.size, Nat.reduceAdd, Nat.reduceLeDiff, Nat.reduceEqDiff, Nat.reduceMul, Int.reduceToNat, reduceIte, Int.reduceLE, Int.reduceNeg]
        rw [heq] at hn
        have : L.contains (bs s) = true := by
          have e : L = L.take (k + 1) ++ L.drop (k + 1) := (List.take_append_drop _ _).symm
          rw [List.contains_eq_any_beq] at hn ⊢
          rw [e, List.any_append, hn]; rfl
        rw [this]
      · intro hne
        repeat (first | refine W.seq ?_ | refine W.block ?_ | refine W.skip ?_ | refine W.exit ?_ | refine W.region tab_ok 0 (by decide) (exec_run (by simp only [exa, beq_self_eq_true, ByteArray.size, Nat.reduceAdd, Nat.reduceLeDiff, Nat.reduceEqDiff, Nat.reduceMul, Int.reduceToNat, reduceIte, Int.reduceLE, Int.reduceNeg]; rfl)) ?_)
        refine ⟨k + 1, ⟨hlt, hn.trans hne⟩, by omega, ?_⟩
        refine le_mk ?sle ?mle ?swf ?mwf ?kept (by rfl)
        case kept => exact kept_not hkeep
        case swf => repeat (first | exact swf_top _ | refine swf_upd ?_ (by simp [A.ids, upd_app]))
        case mwf => repeat (first | exact mwf_nil _ | refine mwf_upd ?_ (by simp [A.ids, O.ids, upd_app]))
        case mle => repeat (first | exact mle_nil _ | exact mle_refl _ | refine mle_upd ?_ (by first | rfl | (simp only [upd_app, killM_app, Nat.reduceEqDiff, reduceIte, wrap_succ (show k + 1 < 9223372036854775808 by omega)]; done)))
        case sle => repeat (first | exact sle_top _ | exact sle_refl _ | refine sle_upd ?_ (by first | rfl | (simp only [upd_app, entry_zero, entry_succ, Nat.reduceEqDiff, reduceIte, wrap_succ (show k + 1 < 9223372036854775808 by omega)]; done)))
    · intro hge
      simp only [decide_eq_false_iff_not, Int.ofNat_lt] at hge
      obtain rfl : k = L.length := by omega
      rw [List.take_length] at hall
      repeat (first | refine W.seq ?_ | refine W.block ?_ | refine W.skip ?_ | refine W.exit ?_ | refine W.region tab_ok 0 (by decide) (exec_run (by simp only [exa, beq_self_eq_true, ByteArray.size, Nat.reduceAdd, Nat.reduceLeDiff, Nat.reduceEqDiff, Nat.reduceMul, Int.reduceToNat, reduceIte, Int.reduceLE, Int.reduceNeg]; rfl)) ?_)
      refine W.ret ⟨.inr rfl, by rfl, ?_⟩
      simp only [Try.f17, resA, resOne, toT, fin, exa, beq_self_eq_true, ByteArray.size, Nat.reduceAdd, Nat.reduceLeDiff, Nat.reduceEqDiff, Nat.reduceMul, Int.reduceToNat, reduceIte, Int.reduceLE, Int.reduceNeg, hall]
theorem askBs_append (L : List Nm) : ∀ l l' : List Expr, askBs L (l ++ l') = (askBs L l && askBs L l')
  | [], l' => by simp [askBs]
  | x :: l, l' => by simp [askBs, askBs_append L l l', Bool.and_assoc]
set_option maxHeartbeats 2000000 in
theorem asked_ok : ∀ (n : Nat) (x : Expr), SizeOf.sizeOf x ≤ n → SmE x → ∀ (L : List Nm), L.length ≤ 1000000000000 → ∀ m, COk Try.prog 32 [.c (.sl (cBs L)), .agg (cExpr x)] m (.c (.bool (askB L x))) := by
  intro n
  induction n using Nat.strongRecOn with
  | ind n ih =>
  rintro ⟨k, nn, nm, kids⟩ hn hsm L hL m
  have hsz := Expr.mk.sizeOf_spec k nn nm kids
  simp only [SmE] at hsm
  simp only [cExpr, cExprs_map]
  refine (ok_pure tab_ok Try.func32 (by kernel_rfl) rfl rfl (by rfl) (by rfl) (by rfl) (fun R hkeep => ?_) m)
  by_cases hk : k = 4
  · subst hk
    cases hs : L.contains (bs nm) with
    | false =>
      skip
      (repeat (first | refine W.seq ?_ | refine W.block ?_))
      refine W.region tab_ok 0 (by decide) (exec_run (by simp only [exa, beq_self_eq_true, ByteArray.size, Nat.reduceAdd, Nat.reduceLeDiff, Nat.reduceEqDiff, Nat.reduceMul, Int.reduceToNat, reduceIte, Int.reduceLE, Int.reduceNeg]; rfl)) ?_
      (repeat (first | refine W.seq ?_ | refine W.block ?_))
      refine W.regionK tab_ok 0 (by decide) ?_
      refine runk_split 7 (by simp only [exa, beq_self_eq_true, ByteArray.size, Nat.reduceAdd, Nat.reduceLeDiff, Nat.reduceEqDiff, Nat.reduceMul, Int.reduceToNat, reduceIte, Int.reduceLE, Int.reduceNeg]; rfl) ?_
      refine runk_call rfl rfl rfl rfl rfl (by simp) (cvs_cons cv_refl (cvs_cons cv_refl cvs_nil)) (has_ok L hL nm _) ?_
      rw [hs]
      refine runk_exec (by simp only [exa, beq_self_eq_true, ByteArray.size, Nat.reduceAdd, Nat.reduceLeDiff, Nat.reduceEqDiff, Nat.reduceMul, Int.reduceToNat, reduceIte, Int.reduceLE, Int.reduceNeg]; rfl) ?_
      refine W.cond rfl (fun _ => ?_) (fun h => absurd h (by simp))
      repeat (first | refine W.seq ?_ | refine W.block ?_ | refine W.skip ?_ | refine W.exit ?_ | refine W.region tab_ok 0 (by decide) (exec_run (by simp only [exa, beq_self_eq_true, ByteArray.size, Nat.reduceAdd, Nat.reduceLeDiff, Nat.reduceEqDiff, Nat.reduceMul, Int.reduceToNat, reduceIte, Int.reduceLE, Int.reduceNeg]; rfl)) ?_)
      refine W.ret ⟨.inr rfl, by rfl, ?_⟩
      simp only [Try.f32, resA, resOne, toT, fin, exa, beq_self_eq_true, ByteArray.size, Nat.reduceAdd, Nat.reduceLeDiff, Nat.reduceEqDiff, Nat.reduceMul, Int.reduceToNat, reduceIte, Int.reduceLE, Int.reduceNeg]
      rw [askB_eq]; unfold hasB; rw [hs]; rfl
    | true =>
      skip
      (repeat (first | refine W.seq ?_ | refine W.block ?_))
      refine W.region tab_ok 0 (by decide) (exec_run (by simp only [exa, beq_self_eq_true, ByteArray.size, Nat.reduceAdd, Nat.reduceLeDiff, Nat.reduceEqDiff, Nat.reduceMul, Int.reduceToNat, reduceIte, Int.reduceLE, Int.reduceNeg]; rfl)) ?_
      (repeat (first | refine W.seq ?_ | refine W.block ?_))
      refine W.regionK tab_ok 0 (by decide) ?_
      refine runk_split 7 (by simp only [exa, beq_self_eq_true, ByteArray.size, Nat.reduceAdd, Nat.reduceLeDiff, Nat.reduceEqDiff, Nat.reduceMul, Int.reduceToNat, reduceIte, Int.reduceLE, Int.reduceNeg]; rfl) ?_
      refine runk_call rfl rfl rfl rfl rfl (by simp) (cvs_cons cv_refl (cvs_cons cv_refl cvs_nil)) (has_ok L hL nm _) ?_
      rw [hs]
      refine runk_exec (by simp only [exa, beq_self_eq_true, ByteArray.size, Nat.reduceAdd, Nat.reduceLeDiff, Nat.reduceEqDiff, Nat.reduceMul, Int.reduceToNat, reduceIte, Int.reduceLE, Int.reduceNeg]; rfl) ?_
      refine W.cond rfl (fun h => absurd h (by simp)) (fun _ => ?_)
      have hhead : askB L ⟨4, nn, nm, kids⟩ = askBs L kids := by rw [askB_eq]; unfold hasB; rw [hs]; rfl
      rw [hhead]
      repeat (first | refine W.seq ?_ | refine W.block ?_ | refine W.skip ?_ | refine W.exit ?_ | refine W.region tab_ok 0 (by decide) (exec_run (by simp only [exa, beq_self_eq_true, ByteArray.size, Nat.reduceAdd, Nat.reduceLeDiff, Nat.reduceEqDiff, Nat.reduceMul, Int.reduceToNat, reduceIte, Int.reduceLE, Int.reduceNeg]; rfl)) ?_)
      refine W.loop (ι := Nat) (fun i => ⟨upd (upd (upd (upd (fun _ => .top) 0 (.c (.sl (cBs L)))) 18 (.c (.sl (kids.map cExpr)))) 19 (.c (.int .i64 kids.length))) 20 (.c (.int .i64 i)), Mem.nil⟩)
        (fun i => i ≤ kids.length ∧ askBs L (kids.take i) = true) (fun i => kids.length - i) 0 ?start ⟨Nat.zero_le _, by simp [askBs]⟩ ?round
      case start =>
        refine le_mk ?sle ?mle ?swf ?mwf ?kept (by rfl)
        case kept => exact kept_not hkeep
        case swf => repeat (first | exact swf_top _ | refine swf_upd ?_ (by simp [A.ids, upd_app]))
        case mwf => repeat (first | exact mwf_nil _ | refine mwf_upd ?_ (by simp [A.ids, O.ids, upd_app]))
        case mle => repeat (first | exact mle_nil _ | exact mle_refl _ | refine mle_upd ?_ (by first | rfl | (simp only [upd_app, killM_app, Nat.reduceEqDiff, reduceIte, List.length_map]; done)))
        case sle => repeat (first | exact sle_top _ | exact sle_refl _ | refine sle_upd ?_ (by first | rfl | (simp only [upd_app, entry_zero, entry_succ, Nat.reduceEqDiff, reduceIte, List.length_map]; done)))
      case round =>
        rintro i ⟨hi, hall⟩
        repeat (first | refine W.seq ?_ | refine W.block ?_ | refine W.skip ?_ | refine W.exit ?_ | refine W.region tab_ok 0 (by decide) (exec_run (by simp only [exa, beq_self_eq_true, ByteArray.size, Nat.reduceAdd, Nat.reduceLeDiff, Nat.reduceEqDiff, Nat.reduceMul, Int.reduceToNat, reduceIte, Int.reduceLE, Int.reduceNeg]; rfl)) ?_)
        refine W.cond rfl ?_ ?_
        · intro hlt
          simp only [decide_eq_true_eq, Int.ofNat_lt] at hlt
          obtain ⟨y, hy⟩ : ∃ y, kids[i]? = some y := ⟨_, List.getElem?_eq_getElem hlt⟩
          have hym := List.mem_of_getElem? hy
          have hys := List.sizeOf_lt_of_mem hym
          have hcy := ih (SizeOf.sizeOf y) (by omega) y (Nat.le_refl _) (hsm.2.mem hym) L hL
          have htk : askBs L (kids.take (i + 1)) = askB L y := by
            rw [List.take_add_one, hy, askBs_append, hall]; simp [askBs]
          obtain ⟨yk, yn, ym, ys⟩ := y
          simp only [cExpr, cExprs_map] at hcy
          repeat (first | refine W.seq ?_ | refine W.block ?_ | refine W.skip ?_ | refine W.exit ?_ | refine W.region tab_ok 0 (by decide) (exec_run (by simp only [exa, beq_self_eq_true, ByteArray.size, Nat.reduceAdd, Nat.reduceLeDiff, Nat.reduceEqDiff, Nat.reduceMul, Int.reduceToNat, reduceIte, Int.reduceLE, Int.reduceNeg, List.length_map, hlt, at_map hy, cExpr, cExprs_map]; rfl)) ?_)
          refine W.regionK tab_ok 0 (by decide) ?_
          refine runk_split 2 (by simp only [exa, beq_self_eq_true, ByteArray.size, Nat.reduceAdd, Nat.reduceLeDiff, Nat.reduceEqDiff, Nat.reduceMul, Int.reduceToNat, reduceIte, Int.reduceLE, Int.reduceNeg]; rfl) ?_
          refine runk_call rfl rfl rfl rfl rfl (by simp) (cvs_cons cv_refl (cvs_cons cv_refl cvs_nil)) (hcy _) ?_
          cases hb : askB L ⟨yk, yn, ym, ys⟩ with
          | false =>
            skip
            refine runk_exec (by simp only [exa, beq_self_eq_true, ByteArray.size, Nat.reduceAdd, Nat.reduceLeDiff, Nat.reduceEqDiff, Nat.reduceMul, Int.reduceToNat, reduceIte, Int.reduceLE, Int.reduceNeg]; rfl) ?_
            refine W.cond rfl (fun _ => ?_) (fun h => absurd h (by simp))
            repeat (first | refine W.seq ?_ | refine W.block ?_ | refine W.skip ?_ | refine W.exit ?_ | refine W.region tab_ok 0 (by decide) (exec_run (by simp only [exa, beq_self_eq_true, ByteArray.size, Nat.reduceAdd, Nat.reduceLeDiff, Nat.reduceEqDiff, Nat.reduceMul, Int.reduceToNat, reduceIte, Int.reduceLE, Int.reduceNeg]; rfl)) ?_)
            refine W.ret ⟨.inr rfl, by rfl, ?_⟩
            simp only [Try.f32, resA, resOne, toT, fin, exa, beq_self_eq_true, ByteArray.size, Nat.reduceAdd, Nat.reduceLeDiff, Nat.reduceEqDiff, Nat.reduceMul, Int.reduceToNat, reduceIte, Int.reduceLE, Int.reduceNeg]
            rw [hb] at htk
            have : askBs L kids = false := by
              have e : kids = kids.take (i + 1) ++ kids.drop (i + 1) := (List.take_append_drop _ _).symm
              rw [e, askBs_append, htk]; rfl
            rw [this]
          | true =>
            skip
            refine runk_exec (by simp only [exa, beq_self_eq_true, ByteArray.size, Nat.reduceAdd, Nat.reduceLeDiff, Nat.reduceEqDiff, Nat.reduceMul, Int.reduceToNat, reduceIte, Int.reduceLE, Int.reduceNeg]; rfl) ?_
            refine W.cond rfl (fun h => absurd h (by simp)) (fun _ => ?_)
            repeat (first | refine W.seq ?_ | refine W.block ?_ | refine W.skip ?_ | refine W.exit ?_ | refine W.region tab_ok 0 (by decide) (exec_run (by simp only [exa, beq_self_eq_true, ByteArray.size, Nat.reduceAdd, Nat.reduceLeDiff, Nat.reduceEqDiff, Nat.reduceMul, Int.reduceToNat, reduceIte, Int.reduceLE, Int.reduceNeg]; rfl)) ?_)
            refine ⟨i + 1, ⟨hlt, htk.trans hb⟩, by omega, ?_⟩
            refine le_mk ?sle ?mle ?swf ?mwf ?kept (by rfl)
            case kept => exact kept_not hkeep
            case swf => repeat (first | exact swf_top _ | refine swf_upd ?_ (by simp [A.ids, upd_app]))
            case mwf => repeat (first | exact mwf_nil _ | refine mwf_upd ?_ (by simp [A.ids, O.ids, upd_app]))
            case mle => repeat (first | exact mle_nil _ | exact mle_refl _ | refine mle_upd ?_ (by first | rfl | (simp only [upd_app, killM_app, Nat.reduceEqDiff, reduceIte, wrap_succ (show i + 1 < 9223372036854775808 by omega)]; done)))
            case sle => repeat (first | exact sle_top _ | exact sle_refl _ | refine sle_upd ?_ (by first | rfl | (simp only [upd_app, entry_zero, entry_succ, Nat.reduceEqDiff, reduceIte, wrap_succ (show i + 1 < 9223372036854775808 by omega)]; done)))
        · intro hge
          simp only [decide_eq_false_iff_not, Int.ofNat_lt] at hge
          obtain rfl : i = kids.length := by omega
          rw [List.take_length] at hall
          repeat (first | refine W.seq ?_ | refine W.block ?_ | refine W.skip ?_ | refine W.exit ?_ | refine W.region tab_ok 0 (by decide) (exec_run (by simp only [exa, beq_self_eq_true, ByteArray.size, Nat.reduceAdd, Nat.reduceLeDiff, Nat.reduceEqDiff, Nat.reduceMul, Int.reduceToNat, reduceIte, Int.reduceLE, Int.reduceNeg]; rfl)) ?_)
          refine W.ret ⟨.inr rfl, by rfl, ?_⟩
          simp only [Try.f32, resA, resOne, toT, fin, exa, beq_self_eq_true, ByteArray.size, Nat.reduceAdd, Nat.reduceLeDiff, Nat.reduceEqDiff, Nat.reduceMul, Int.reduceToNat, reduceIte, Int.reduceLE, Int.reduceNeg, hall]
  · have hk' : decide (k = 4) = false := by simp [hk]
    (repeat (first | refine W.seq ?_ | refine W.block ?_))
    refine W.region tab_ok 0 (by decide) (exec_run (by simp only [exa, beq_self_eq_true, ByteArray.size, Nat.reduceAdd, Nat.reduceLeDiff, Nat.reduceEqDiff, Nat.reduceMul, Int.reduceToNat, reduceIte, Int.reduceLE, Int.reduceNeg]; rfl)) ?_
    (repeat (first | refine W.seq ?_ | refine W.block ?_))
    repeat (first | refine W.seq ?_ | refine W.block ?_ | refine W.skip ?_ | refine W.exit ?_ | refine W.region tab_ok 0 (by decide) (exec_run (by simp only [exa, beq_self_eq_true, ByteArray.size, Nat.reduceAdd, Nat.reduceLeDiff, Nat.reduceEqDiff, Nat.reduceMul, Int.reduceToNat, reduceIte, Int.reduceLE, Int.reduceNeg, hk']; rfl)) ?_)
    refine W.cond rfl (fun h => absurd h (by simp)) (fun _ => ?_)
    have hhead : askB L ⟨k, nn, nm, kids⟩ = askBs L kids := by simp [askB, hk]
    rw [hhead]
    repeat (first | refine W.seq ?_ | refine W.block ?_ | refine W.skip ?_ | refine W.exit ?_ | refine W.region tab_ok 0 (by decide) (exec_run (by simp only [exa, beq_self_eq_true, ByteArray.size, Nat.reduceAdd, Nat.reduceLeDiff, Nat.reduceEqDiff, Nat.reduceMul, Int.reduceToNat, reduceIte, Int.reduceLE, Int.reduceNeg]; rfl)) ?_)
    refine W.loop (ι := Nat) (fun i => ⟨upd (upd (upd (upd (fun _ => .top) 0 (.c (.sl (cBs L)))) 18 (.c (.sl (kids.map cExpr)))) 19 (.c (.int .i64 kids.length))) 20 (.c (.int .i64 i)), Mem.nil⟩)
      (fun i => i ≤ kids.length ∧ askBs L (kids.take i) = true) (fun i => kids.length - i) 0 ?start ⟨Nat.zero_le _, by simp [askBs]⟩ ?round
    case start =>
      refine le_mk ?sle ?mle ?swf ?mwf ?kept (by rfl)
      case kept => exact kept_not hkeep
      case swf => repeat (first | exact swf_top _ | refine swf_upd ?_ (by simp [A.ids, upd_app]))
      case mwf => repeat (first | exact mwf_nil _ | refine mwf_upd ?_ (by simp [A.ids, O.ids, upd_app]))
      case mle => repeat (first | exact mle_nil _ | exact mle_refl _ | refine mle_upd ?_ (by first | rfl | (simp only [upd_app, killM_app, Nat.reduceEqDiff, reduceIte, List.length_map]; done)))
      case sle => repeat (first | exact sle_top _ | exact sle_refl _ | refine sle_upd ?_ (by first | rfl | (simp only [upd_app, entry_zero, entry_succ, Nat.reduceEqDiff, reduceIte, List.length_map]; done)))
    case round =>
      rintro i ⟨hi, hall⟩
      repeat (first | refine W.seq ?_ | refine W.block ?_ | refine W.skip ?_ | refine W.exit ?_ | refine W.region tab_ok 0 (by decide) (exec_run (by simp only [exa, beq_self_eq_true, ByteArray.size, Nat.reduceAdd, Nat.reduceLeDiff, Nat.reduceEqDiff, Nat.reduceMul, Int.reduceToNat, reduceIte, Int.reduceLE, Int.reduceNeg]; rfl)) ?_)
      refine W.cond rfl ?_ ?_
      · intro hlt
        simp only [decide_eq_true_eq, Int.ofNat_lt] at hlt
        obtain ⟨y, hy⟩ : ∃ y, kids[i]? = some y := ⟨_, List.getElem?_eq_getElem hlt⟩
        have hym := List.mem_of_getElem? hy
        have hys := List.sizeOf_lt_of_mem hym
        have hcy := ih (SizeOf.sizeOf y) (by omega) y (Nat.le_refl _) (hsm.2.mem hym) L hL
        have htk : askBs L (kids.take (i + 1)) = askB L y := by
          rw [List.take_add_one, hy, askBs_append, hall]; simp [askBs]
        obtain ⟨yk, yn, ym, ys⟩ := y
        simp only [cExpr, cExprs_map] at hcy
        repeat (first | refine W.seq ?_ | refine W.block ?_ | refine W.skip ?_ | refine W.exit ?_ | refine W.region tab_ok 0 (by decide) (exec_run (by simp only [exa, beq_self_eq_true, ByteArray.size, Nat.reduceAdd, Nat.reduceLeDiff, Nat.reduceEqDiff, Nat.reduceMul, Int.reduceToNat, reduceIte, Int.reduceLE, Int.reduceNeg, List.length_map, hlt, at_map hy, cExpr, cExprs_map]; rfl)) ?_)
        refine W.regionK tab_ok 0 (by decide) ?_
        refine runk_split 2 (by simp only [exa, beq_self_eq_true, ByteArray.size, Nat.reduceAdd, Nat.reduceLeDiff, Nat.reduceEqDiff, Nat.reduceMul, Int.reduceToNat, reduceIte, Int.reduceLE, Int.reduceNeg]; rfl) ?_
        refine runk_call rfl rfl rfl rfl rfl (by simp) (cvs_cons cv_refl (cvs_cons cv_refl cvs_nil)) (hcy _) ?_
        cases hb : askB L ⟨yk, yn, ym, ys⟩ with
        | false =>
          skip
          refine runk_exec (by simp only [exa, beq_self_eq_true, ByteArray.size, Nat.reduceAdd, Nat.reduceLeDiff, Nat.reduceEqDiff, Nat.reduceMul, Int.reduceToNat, reduceIte, Int.reduceLE, Int.reduceNeg]; rfl) ?_
          refine W.cond rfl (fun _ => ?_) (fun h => absurd h (by simp))
          repeat (first | refine W.seq ?_ | refine W.block ?_ | refine W.skip ?_ | refine W.exit ?_ | refine W.region tab_ok 0 (by decide) (exec_run (by simp only [exa, beq_self_eq_true, ByteArray.size, Nat.reduceAdd, Nat.reduceLeDiff, Nat.reduceEqDiff, Nat.reduceMul, Int.reduceToNat, reduceIte, Int.reduceLE, Int.reduceNeg]; rfl)) ?_)
          refine W.ret ⟨.inr rfl, by rfl, ?_⟩
          simp only [Try.f32, resA, resOne, toT, fin, exa, beq_self_eq_true, ByteArray.size, Nat.reduceAdd, Nat.reduceLeDiff, Nat.reduceEqDiff, Nat.reduceMul, Int.reduceToNat, reduceIte, Int.reduceLE, Int.reduceNeg]
          rw [hb] at htk
          have : askBs L kids = false := by
            have e : kids = kids.take (i + 1) ++ kids.drop (i + 1) := (List.take_append_drop _ _).symm
            rw [e, askBs_append, htk]; rfl
          rw [this]
        | true =>
          skip
          refine runk_exec (by simp only [exa, beq_self_eq_true, ByteArray.size, Nat.reduceAdd, Nat.reduceLeDiff, Nat.reduceEqDiff, Nat.reduceMul, Int.reduceToNat, reduceIte, Int.reduceLE, Int.reduceNeg]; rfl) ?_
          refine W.cond rfl (fun h => absurd h (by simp)) (fun _ => ?_)
          repeat (first | refine W.seq ?_ | refine W.block ?_ | refine W.skip ?_ | refine W.exit ?_ | refine W.region tab_ok 0 (by decide) (exec_run (by simp only [exa, beq_self_eq_true, ByteArray.size, Nat.reduceAdd, Nat.reduceLeDiff, Nat.reduceEqDiff, Nat.reduceMul, Int.reduceToNat, reduceIte, Int.reduceLE, Int.reduceNeg]; rfl)) ?_)
          refine ⟨i + 1, ⟨hlt, htk.trans hb⟩, by omega, ?_⟩
          refine le_mk ?sle ?mle ?swf ?mwf ?kept (by rfl)
          case kept => exact kept_not hkeep
          case swf => repeat (first | exact swf_top _ | refine swf_upd ?_ (by simp [A.ids, upd_app]))
          case mwf => repeat (first | exact mwf_nil _ | refine mwf_upd ?_ (by simp [A.ids, O.ids, upd_app]))
          case mle => repeat (first | exact mle_nil _ | exact mle_refl _ | refine mle_upd ?_ (by first | rfl | (simp only [upd_app, killM_app, Nat.reduceEqDiff, reduceIte, wrap_succ (show i + 1 < 9223372036854775808 by omega)]; done)))
          case sle => repeat (first | exact sle_top _ | exact sle_refl _ | refine sle_upd ?_ (by first | rfl | (simp only [upd_app, entry_zero, entry_succ, Nat.reduceEqDiff, reduceIte, wrap_succ (show i + 1 < 9223372036854775808 by omega)]; done)))
      · intro hge
        simp only [decide_eq_false_iff_not, Int.ofNat_lt] at hge
        obtain rfl : i = kids.length := by omega
        rw [List.take_length] at hall
        repeat (first | refine W.seq ?_ | refine W.block ?_ | refine W.skip ?_ | refine W.exit ?_ | refine W.region tab_ok 0 (by decide) (exec_run (by simp only [exa, beq_self_eq_true, ByteArray.size, Nat.reduceAdd, Nat.reduceLeDiff, Nat.reduceEqDiff, Nat.reduceMul, Int.reduceToNat, reduceIte, Int.reduceLE, Int.reduceNeg]; rfl)) ?_)
        refine W.ret ⟨.inr rfl, by rfl, ?_⟩
        simp only [Try.f32, resA, resOne, toT, fin, exa, beq_self_eq_true, ByteArray.size, Nat.reduceAdd, Nat.reduceLeDiff, Nat.reduceEqDiff, Nat.reduceMul, Int.reduceToNat, reduceIte, Int.reduceLE, Int.reduceNeg, hall]
end V
end Go.Proofs.Ytgaipdillmleeaa
end
