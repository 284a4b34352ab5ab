/- Joined by my own program, in build order: Vi, Top2, Ipl, Vidx, Vmap, Gc, Rd, Rdp, Ct18, Dof, Dr, Clone, Frz, Veff, Vnil, Rwb, OwnE, Du, Dr2, Nx. -/
import Derived.Test.YtcldeoolglhdoaaDoorY16
import Derived.Shelf.Abstract
import Derived.Test.YtcldeoolglhdoaaDoorRows
import Derived.ProofKit
import Derived.OpenShut
import Derived.HandedShaped
import Derived.Deep.DeepHandedRow
import Derived.LaidLaws
import Derived.Test.YtcldeoolglhdoaaDoorY4
import Derived.Test.YtcldeoolglhdoaaDoorY5
import Derived.Test.YtcldeoolglhdoaaDoorY3
import Derived.Test.YtcldeoolglhdoaaDoorCards
import Derived.Test.YtcldeoolglhdoaaDoorTie
import Derived.Lib.LaidTab
import Derived.Test.YtcldeoolglhdoaaDoorY6
set_option linter.unusedVariables false
set_option linter.unusedSimpArgs false
section
namespace Go.Proofs.YtcldeoolglhdoaaDoor
namespace V
open Go.RowKit
def stepQ (T : Tab) (base : Nat) (ops : Array Oper) (o : Oper) (st : St) : Option St :=
  match wantA ops o st.s with
  | some true => (match kind T o.op with
    | .store => (match o.op with
      | .store ty x v => (match adrId (ev st.s x), o.dst with
        | some j, none => (match st.m j with
          | some b => (match stO T ty (ev st.s x) (ev st.s v) b with | some b' => some ⟨st.s, upd st.m j (some b')⟩ | none => none)
          | none => none)
        | _, _ => none)
      | _ => none)
    | .barrier => none
    | _ => (match o.dst with
      | some d => (match qv T st.s st.m (base + d) o.op with
        | some (r, none) => some ⟨upd st.s d r, st.m⟩
        | some (r, some x) => (match st.m (base + d) with | none => some ⟨upd st.s d r, upd st.m (base + d) (some x)⟩ | some _ => none)
        | none => none)
      | none => none))
  | some false => (match o.dst with | some d => some ⟨upd st.s d .undef, st.m⟩ | none => some st)
  | none => none
def exec (T : Tab) (base : Nat) (ops : Array Oper) : List Oper → St → Option St
  | [], st => some st
  | o :: l, st => match stepQ T base ops o st with | some st1 => exec T base ops l st1 | none => none
section
variable {P : Go.Program} {T : Tab} {kp : Nat → Prop} {base : Nat} {ops : Array Oper}
theorem stepQ_hs {o : Oper} {st st' : St} (h : stepQ T base ops o st = some st') : HS P T kp base ops o st st' := by
  unfold stepQ at h
  split at h
  · rename_i hw
    split at h
    · split at h
      · rename_i ty x v hop
        split at h
        · rename_i j hx hd
          split at h
          · rename_i b hj
            split at h
            · rename_i b' hn
              cases h
              exact .store ⟨hw, hop, hd, hx, hj, hn⟩
            · cases h
          · cases h
        · cases h
      · cases h
    · cases h
    · split at h
      · rename_i d hd
        have hid : idOf base o = base + d := by simp [idOf, hd]
        split at h
        · rename_i r hq
          cases h
          have := HS.val (P := P) (T := T) (kp := kp) (HV.val (base := base) hw (by rw [hid]; exact hq) (fun h => by cases h) (fun h => by cases h))
          rw [hd] at this
          exact this
        · rename_i r x hq
          split at h
          · rename_i hm
            cases h
            have := HS.val (P := P) (T := T) (kp := kp) (HV.val (base := base) hw (by rw [hid]; exact hq) (fun _ => by rw [hid]; exact hm) (fun _ => by rw [hd]; rfl))
            rw [hd, hid] at this
            exact this
          · cases h
        · cases h
      · cases h
  · rename_i hw
    have := HS.val (P := P) (T := T) (base := base) (kp := kp) (HV.skip hw)
    split at h
    · rename_i d hd
      cases h
      rw [hd] at this
      exact this
    · rename_i hd
      cases h
      rw [hd] at this
      exact this
  · cases h
theorem exec_run : ∀ {l : List Oper} {st st' : St}, exec T base ops l st = some st' → RunL P T kp base ops l st st'
  | [], st, st', h => by simp [exec] at h; subst h; exact .nil _
  | o :: l, st, st', h => by
    simp only [exec] at h
    split at h
    · rename_i st1 h1
      exact .cons (stepQ_hs h1) (exec_run h)
    · cases h
theorem RunL.append {l1 l2 : List Oper} {st st1 st2 : St} (h : RunL P T kp base ops l1 st st1) (k : RunL P T kp base ops l2 st1 st2) : RunL P T kp base ops (l1 ++ l2) st st2 := by
  induction h with
  | nil => exact k
  | cons h _ ih => exact .cons h (ih k)
theorem run_split {l : List Oper} {st st1 st2 : St} (i : Nat) (h : exec T base ops (l.take i) st = some st1) (k : RunL P T kp base ops (l.drop i) st1 st2) : RunL P T kp base ops l st st2 := by
  have := (exec_run (P := P) (kp := kp) h).append k
  rwa [List.take_append_drop] at this
def RunK (P : Go.Program) (T : Tab) (kp : Nat → Prop) (base : Nat) (ops : Array Oper) (l : List Oper) (st : St) (k : St → Prop) : Prop := ∃ st', RunL P T kp base ops l st st' ∧ k st'
theorem runk_exec {l : List Oper} {st st' : St} {k : St → Prop} (h : exec T base ops l st = some st') (hk : k st') : RunK P T kp base ops l st k := ⟨st', exec_run h, hk⟩
theorem runk_split {l : List Oper} {st st1 : St} {k : St → Prop} (i : Nat) (h : exec T base ops (l.take i) st = some st1) (hk : RunK P T kp base ops (l.drop i) st1 k) : RunK P T kp base ops l st k :=
  let ⟨st', h1, h2⟩ := hk
  ⟨st', run_split i h h1, h2⟩
theorem runk_step {o : Oper} {l : List Oper} {st st1 : St} {k : St → Prop} (h : HS P T kp base ops o st st1) (ht : RunK P T kp base ops l st1 k) : RunK P T kp base ops (o :: l) st k :=
  let ⟨st', h1, h2⟩ := ht
  ⟨st', .cons h h1, h2⟩
theorem runk_call {o : Oper} {l : List Oper} {st : St} {k : St → Prop} {r : A} {c : Call} {x : Operand} {f : FuncId} {ids : List Nat} {args : List A} {d : Nat} (h : wantA ops o st.s = some true) (hop : o.op = .call c) (hc : c.callee = .value x) (hx : ev st.s x = .fn f ids) (hd : o.dst = some d) (hb : ∀ j ∈ ids, ∃ ty cells, st.m j = some (.box ty cells))
    (ha : Cvs st.m (c.args.toList.map (ev st.s) ++ ids.map (A.ptr · 0)) args) (hk : COk P f args st.m r) (ht : RunK P T kp base ops l ⟨upd st.s d r, st.m⟩ k) : RunK P T kp base ops (o :: l) st k := by
  refine runk_step (st1 := ⟨upd st.s d r, st.m⟩) ?_ ht
  have := HS.val (P := P) (T := T) (base := base) (ops := ops) (o := o) (kp := kp) (HV.call h hop hc hx hb ha hk)
  rw [hd] at this
  exact this
theorem runk_callF {o : Oper} {l : List Oper} {st : St} {k : St → Prop} {r : A} {c : Call} {x : Operand} {f : FuncId} {caps : List (List C)} {args : List A} {d : Nat} (h : wantA ops o st.s = some true) (hop : o.op = .call c) (hc : c.callee = .value x) (hx : ev st.s x = .fnR f caps) (hd : o.dst = some d)
    (ha : Cvs st.m (c.args.toList.map (ev st.s) ++ caps.map A.rptr) args) (hk : COk P f args st.m r) (ht : RunK P T kp base ops l ⟨upd st.s d r, st.m⟩ k) : RunK P T kp base ops (o :: l) st k := by
  refine runk_step (st1 := ⟨upd st.s d r, st.m⟩) ?_ ht
  have := HS.val (P := P) (T := T) (base := base) (ops := ops) (o := o) (kp := kp) (HV.callF h hop hc hx ha hk)
  rw [hd] at this
  exact this
theorem runk_callR {o : Oper} {l : List Oper} {st : St} {k : St → Prop} {r : A} {c : Call} {x : Operand} {f : FuncId} {ids : List Nat} {args : List A} {d : Nat} (h : wantA ops o st.s = some true) (hop : o.op = .call c) (hc : c.callee = .value x) (hx : ev st.s x = .fn f ids) (hd : o.dst = some d) (hb : ∀ j ∈ ids, ∃ ty cells, st.m j = some (.box ty cells))
    (ha : CvRs st.m (c.args.toList.map (ev st.s) ++ ids.map (A.ptr · 0)) args) (hi : args.all (fun a => a.ids.isEmpty) = true) (hf : flatA r = true) (hk : ∀ m, COk P f args m r) (ht : RunK P T kp base ops l ⟨upd st.s d r, st.m⟩ k) : RunK P T kp base ops (o :: l) st k := by
  refine runk_step (st1 := ⟨upd st.s d r, st.m⟩) ?_ ht
  have := HS.val (P := P) (T := T) (base := base) (ops := ops) (o := o) (kp := kp) (HV.callR h hop hc hx hb ha (fun a ha => by have := List.all_eq_true.1 hi a ha; simpa using this) hf hk)
  rw [hd] at this
  exact this
theorem runk_callE {o : Oper} {l : List Oper} {st : St} {k : St → Prop} {r : A} {c : Call} {x : Operand} {f : FuncId} {ids : List Nat} {args : List A} {D : List Nat} {M' : Mem} (h : wantA ops o st.s = some true) (hop : o.op = .call c) (hc : c.callee = .value x) (hbar : kind T o.op = .barrier) (hx : ev st.s x = .fn f ids) (hkp : ∀ j ∈ D, ¬ kp j) (hb : ∀ j ∈ ids, ∃ ty cells, st.m j = some (.box ty cells))
    (ha : Cvs st.m (c.args.toList.map (ev st.s) ++ ids.map (A.ptr · 0)) args) (hk : CallE P f args st.m D r M') (ht : RunK P T kp base ops l ⟨putS (killL D st.s) o.dst r, M'⟩ k) : RunK P T kp base ops (o :: l) st k :=
  runk_step (.eff (eff_call hkp hbar h hop hc hx hb ha hk)) ht
theorem app_small {n b : Nat} (h : n * b ≤ 140737488355328) (h0 : 0 < b) : n ≤ maxLen := by
  have : n * 1 ≤ n * b := Nat.mul_le_mul_left _ h0
  unfold maxLen; omega
theorem runk_appendG (hT : T.Ok P) {o : Oper} {l : List Oper} {st : St} {k : St → Prop} {c : Call} {x y : Operand} {t d : Nat} (id : Nat) {e n b : Nat} (fz : Bool) {zs : List Value} {xs ys : List (List C)} (h : wantA ops o st.s = some true) (hop : o.op = .call c) (hc : c.callee = .builtin .append) (ha : c.args = #[x, y]) (ht : c.argTypes = #[t, t]) (hd : o.dst = some d)
    (hx : ev st.s x = .own id) (hm : st.m id = some (rowO fz e n xs)) (hy : asC st.m (ev st.s y) = some (.sl ys)) (h1 : T.elem t = some (e, n)) (h2 : T.bytes e = some b) (h3 : T.zero e = some zs) (h4 : zs.length = n) (hkp : ¬ kp id) (hl : ∀ z ∈ ys, z.length = n) (hb : (xs.length + ys.length) * b ≤ 140737488355328) (hb0 : 0 < b)
    (ht2 : RunK P T kp base ops l ⟨upd (killS id st.s) d (.own id), upd (killM id st.m) id (some (rowO fz e n (xs ++ ys)))⟩ k) : RunK P T kp base ops (o :: l) st k :=
  runk_step (.eff (eff_append hT hkp ⟨h, hop, hc, ha, ht, hd, hx, hm, hy, h1, h2, h3, h4, hl, hb, app_small hb hb0⟩)) ht2
theorem runk_append (hT : T.Ok P) {o : Oper} {l : List Oper} {st : St} {k : St → Prop} {c : Call} {x y : Operand} {t d : Nat} (id : Nat) {e n b : Nat} {zs : List Value} {xs ys : List (List C)} (h : wantA ops o st.s = some true) (hop : o.op = .call c) (hc : c.callee = .builtin .append) (ha : c.args = #[x, y]) (ht : c.argTypes = #[t, t]) (hd : o.dst = some d)
    (hx : ev st.s x = .own id) (hm : st.m id = some (.arr e n xs)) (hy : asC st.m (ev st.s y) = some (.sl ys)) (h1 : T.elem t = some (e, n)) (h2 : T.bytes e = some b) (h3 : T.zero e = some zs) (h4 : zs.length = n) (hkp : ¬ kp id) (hl : ∀ z ∈ ys, z.length = n) (hb : (xs.length + ys.length) * b ≤ 140737488355328) (hb0 : 0 < b)
    (ht2 : RunK P T kp base ops l ⟨upd (killS id st.s) d (.own id), upd (killM id st.m) id (some (.arr e n (xs ++ ys)))⟩ k) : RunK P T kp base ops (o :: l) st k :=
  runk_appendG hT id true h hop hc ha ht hd hx hm hy h1 h2 h3 h4 hkp hl hb hb0 ht2
theorem runk_appendM (hT : T.Ok P) {o : Oper} {l : List Oper} {st : St} {k : St → Prop} {c : Call} {x y : Operand} {t d : Nat} (id : Nat) {e n b : Nat} {zs : List Value} {xs ys : List (List C)} (h : wantA ops o st.s = some true) (hop : o.op = .call c) (hc : c.callee = .builtin .append) (ha : c.args = #[x, y]) (ht : c.argTypes = #[t, t]) (hd : o.dst = some d)
    (hx : ev st.s x = .own id) (hm : st.m id = some (.mrow e n xs)) (hy : asC st.m (ev st.s y) = some (.sl ys)) (h1 : T.elem t = some (e, n)) (h2 : T.bytes e = some b) (h3 : T.zero e = some zs) (h4 : zs.length = n) (hkp : ¬ kp id) (hl : ∀ z ∈ ys, z.length = n) (hb : (xs.length + ys.length) * b ≤ 140737488355328) (hb0 : 0 < b)
    (ht2 : RunK P T kp base ops l ⟨upd (killS id st.s) d (.own id), upd (killM id st.m) id (some (.mrow e n (xs ++ ys)))⟩ k) : RunK P T kp base ops (o :: l) st k :=
  runk_appendG hT id false h hop hc ha ht hd hx hm hy h1 h2 h3 h4 hkp hl hb hb0 ht2
theorem W.regionK {R : Ref} {n : Nat} {ds : List Deferred} {st : St} {K : Exit → St → Prop} (hT : T.Ok P) (base : Nat) {id : Nat} (hd : dstOk n ops = true) (h : RunK P T R.keep base ops ops.toList st (K .normal)) : W P R n ds st (.region id ops false) K :=
  let ⟨_, h1, h2⟩ := h
  W.region hT base hd h1 h2
theorem W.regionDK {R : Ref} {n : Nat} {ds : List Deferred} {st : St} {K : Exit → St → Prop} (hT : T.Ok P) (base : Nat) {id : Nat} (hm : P.follows .mixedOrders = true) (hok : okRegion T ops = true) (hd : dstOk n ops = true) (h : RunK P T R.keep base ops ops.toList st (K .normal)) : W P R n ds st (.region id ops true) K :=
  let ⟨_, h1, h2⟩ := h
  W.regionD hT base hm hok hd h1 h2
theorem W.newRow {R : Ref} {n : Nat} {ds : List Deferred} {st : St} {c : Code} {K : Exit → St → Prop} (fz : Bool) (t id ty e : Nat) (ht : st.s t = .nil) (hid : st.m id = none) (h : W P R n ds ⟨upd st.s t (.own id), upd st.m id (some (rowO fz ty e []))⟩ c K) : W P R n ds st c K := by
  intro a w hr
  refine h a w ?_
  obtain ⟨⟨B, I, hm, hx0, hkp, hs⟩, h2, h3, hnn, h4, h5⟩ := hr
  have hne : ∀ j, (st.m j).isSome = true → j ≠ id := fun j hj e' => by subst e'; rw [hid] at hj; cases hj
  have hB : ∀ j, (st.m j).isSome = true → upd B id (.slice none 0 0) j = B j := fun j hj => upd_ne _ _ (hne j hj)
  have liv : ∀ j, (st.m j).isSome = true → (upd st.m id (some (rowO fz ty e [])) j).isSome = true := fun j hj => by rw [upd_ne _ _ (hne j hj)]; exact hj
  have other : ∀ {j : Nat} {z : O}, upd st.m id (some (rowO fz ty e [])) j = some z → (j = id ∧ z = rowO fz ty e []) ∨ (j ≠ id ∧ st.m j = some z) := fun {j z} hz => by
    unfold upd at hz
    split at hz
    · rename_i e'; exact .inl ⟨e', (Option.some.inj hz).symm⟩
    · rename_i e'; exact .inr ⟨e', hz⟩
  have nofoot : ∀ {k : Nat}, ¬ foot (upd B id (.slice none 0 0)) id (rowO fz ty e []) k := fun {k} hk => by cases fz <;> simp [rowO, foot, upd_same, Value.ownBlock] at hk
  have live : ∀ {j : Nat} {z : O}, st.m j = some z → (st.m j).isSome = true := fun {j z} hj => by simp [hj]
  refine ⟨⟨upd B id (.slice none 0 0), I, ⟨hm.below, hm.glob, hm.base, hm.old, hm.there, fun j z hz => ?_, fun j z hz k hk => ?_, fun j z j' z' hz hz' hne' k hk hk' => ?_, fun j z hz i hi => ?_⟩, hx0, fun j hj => (hB j (h5 j hj)).trans (hkp j hj), fun u => ?_⟩, fun u j hj => ?_, h3, hnn, ?_, fun j hj => liv j (h5 j hj)⟩
  · rcases other hz with ⟨rfl, rfl⟩ | ⟨hj, ho⟩
    · cases fz with
      | true => exact ⟨[], by rw [upd_same]; exact World.ownsRow_nil w 0 ty e, trivial, fun x hx => by simp at hx, fun b hb => by simp [upd_same, Value.ownBlock] at hb⟩
      | false => exact ⟨[], by rw [upd_same]; exact ⟨by simp, .inl ⟨rfl, rfl⟩⟩, trivial, fun x hx => by simp at hx, fun b hb => by simp [upd_same, Value.ownBlock] at hb⟩
    · exact RO.mono (Ext.refl _ _) (hB j (live ho)) (fun i hi => hB i (hm.live j z ho i hi)) (fun _ _ => rfl) (fun _ _ _ hp => hp) (hm.objs j z ho)
  · rcases other hz with ⟨rfl, rfl⟩ | ⟨hj, ho⟩
    · exact absurd hk nofoot
    · exact hm.low j z ho k ((foot_eq (hB j (live ho))).1 hk)
  · rcases other hz with ⟨rfl, rfl⟩ | ⟨hj, ho⟩
    · exact nofoot hk
    · rcases other hz' with ⟨rfl, rfl⟩ | ⟨hj', ho'⟩
      · exact nofoot hk'
      · exact hm.apart j z j' z' ho ho' hne' k ((foot_eq (hB j (live ho))).1 hk) ((foot_eq (hB j' (live ho'))).1 hk')
  · rcases other hz with ⟨rfl, rfl⟩ | ⟨hj, ho⟩
    · cases fz <;> simp [rowO, O.ids] at hi
    · exact liv i (hm.live j z ho i hi)
  · show RV _ _ _ (upd st.s t (A.own id) u) _
    by_cases hu : u = t
    · subst hu
      rw [upd_same]
      have := hs u
      rw [ht] at this
      exact ⟨this.trans (upd_same ..).symm, none, 0, 0, this⟩
    · rw [upd_ne _ _ hu]
      exact (hs u).mono (Ext.refl _ _) fun j hj => hB j (h2 u j hj)
  · replace hj : j ∈ (upd st.s t (A.own id) u).ids := hj
    show (upd st.m id (some (rowO fz ty e [])) j).isSome = true
    by_cases hu : u = t
    · subst hu
      rw [upd_same] at hj
      simp [A.ids] at hj
      subst hj
      simp [upd_same]
    · rw [upd_ne _ _ hu] at hj
      exact liv j (h2 u j hj)
  · show _ = dfs (upd st.s t (A.own id) DID) ++ ds
    by_cases hu : DID = t
    · have : dfs (st.s DID) = [] := by rw [hu, ht]; rfl
      rw [h4, this, hu, upd_same]; rfl
    · rw [upd_ne _ _ hu]; exact h4
theorem MR.newNil {w0 w : World} {I0 I : Nat → Nat → Prop} {B : Nat → Value} {m : Mem} (hm : MR w0 I0 B I m w) {id : Nat} (hid : m id = none) (fz : Bool) (ty e : Nat) : MR w0 I0 (upd B id (.slice none 0 0)) I (upd m id (some (rowO fz ty e []))) w := by
  have hne : ∀ j, (m j).isSome = true → j ≠ id := fun j hj e' => by subst e'; rw [hid] at hj; cases hj
  have hB : ∀ j, (m j).isSome = true → upd B id (.slice none 0 0) j = B j := fun j hj => upd_ne _ _ (hne j hj)
  have liv : ∀ j, (m j).isSome = true → (upd m id (some (rowO fz ty e [])) j).isSome = true := fun j hj => by rw [upd_ne _ _ (hne j hj)]; exact hj
  have other : ∀ {j : Nat} {z : O}, upd m id (some (rowO fz ty e [])) j = some z → (j = id ∧ z = rowO fz ty e []) ∨ (j ≠ id ∧ m j = some z) := fun {j z} hz => by
    unfold upd at hz
    split at hz
    · rename_i e'; exact .inl ⟨e', (Option.some.inj hz).symm⟩
    · rename_i e'; exact .inr ⟨e', hz⟩
  have nofoot : ∀ {k : Nat}, ¬ foot (upd B id (.slice none 0 0)) id (rowO fz ty e []) k := fun {k} hk => by cases fz <;> simp [rowO, foot, upd_same, Value.ownBlock] at hk
  have live : ∀ {j : Nat} {z : O}, m j = some z → (m j).isSome = true := fun {j z} hj => by simp [hj]
  refine ⟨hm.below, hm.glob, hm.base, hm.old, hm.there, fun j z hz => ?_, fun j z hz k hk => ?_, fun j z j' z' hz hz' hne' k hk hk' => ?_, fun j z hz i hi => ?_⟩
  · rcases other hz with ⟨rfl, rfl⟩ | ⟨hj, ho⟩
    · cases fz with
      | true => exact ⟨[], by rw [upd_same]; exact World.ownsRow_nil w 0 ty e, trivial, fun x hx => by simp at hx, fun b hb => by simp [upd_same, Value.ownBlock] at hb⟩
      | false => exact ⟨[], by rw [upd_same]; exact ⟨by simp, .inl ⟨rfl, rfl⟩⟩, trivial, fun x hx => by simp at hx, fun b hb => by simp [upd_same, Value.ownBlock] at hb⟩
    · exact RO.mono (Ext.refl _ _) (hB j (live ho)) (fun i hi => hB i (hm.live j z ho i hi)) (fun _ _ => rfl) (fun _ _ _ hp => hp) (hm.objs j z ho)
  · rcases other hz with ⟨rfl, rfl⟩ | ⟨hj, ho⟩
    · exact absurd hk nofoot
    · exact hm.low j z ho k ((foot_eq (hB j (live ho))).1 hk)
  · rcases other hz with ⟨rfl, rfl⟩ | ⟨hj, ho⟩
    · exact nofoot hk
    · rcases other hz' with ⟨rfl, rfl⟩ | ⟨hj', ho'⟩
      · exact nofoot hk'
      · exact hm.apart j z j' z' ho ho' hne' k ((foot_eq (hB j (live ho))).1 hk) ((foot_eq (hB j' (live ho'))).1 hk')
  · rcases other hz with ⟨rfl, rfl⟩ | ⟨hj, ho⟩
    · cases fz <;> simp [rowO, O.ids] at hi
    · exact liv i (hm.live j z ho i hi)
theorem W.newRowBox {R : Ref} {n : Nat} {ds : List Deferred} {st : St} {c : Code} {K : Exit → St → Prop} (fz : Bool) (j k id ty e : Nat) {tyb : TypeId} {cells : List A} (hj : st.m j = some (.box tyb cells)) (hk : cells[k]? = some .nil) (hid : st.m id = none)
    (h : W P R n ds ⟨st.s, upd (upd st.m id (some (rowO fz ty e []))) j (some (.box tyb (cells.set k (.own id))))⟩ c K) : W P R n ds st c K := by
  intro a w hr
  refine h a w ?_
  obtain ⟨⟨B, I, hm, hx0, hkp, hs⟩, h2, h3, hnn, h4, h5⟩ := hr
  have hne : ∀ i, (st.m i).isSome = true → i ≠ id := fun i hi e' => by subst e'; rw [hid] at hi; cases hi
  have hB : ∀ i, (st.m i).isSome = true → upd B id (.slice none 0 0) i = B i := fun i hi => upd_ne _ _ (hne i hi)
  have hm1 := hm.newNil hid fz ty e
  have hj1 : upd st.m id (some (rowO fz ty e [])) j = some (.box tyb cells) := by rw [upd_ne _ _ (hne j (by simp [hj]))]; exact hj
  obtain ⟨b, vs, e1, e2, e3, e4⟩ := hm1.objs j _ hj1
  have liv : ∀ i, (st.m i).isSome = true → (upd (upd st.m id (some (rowO fz ty e []))) j (some (.box tyb (cells.set k (.own id)))) i).isSome = true := fun i hi => by
    unfold upd; split
    · rfl
    · split
      · rfl
      · exact hi
  have hm2 := hm1.turn (o' := .box tyb (cells.set k (.own id))) hj1 ⟨0, e1⟩ (fun q hq => by obtain ⟨off, hq⟩ := hq; rw [e1] at hq; cases hq; rfl) e4 rfl rfl rfl rfl (fun _ _ => rfl) (fun i hi => by
    obtain ⟨a', ha', hi'⟩ := List.mem_flatMap.1 hi
    rcases List.mem_or_eq_of_mem_set ha' with ha' | rfl
    · exact hm1.live j _ hj1 i (List.mem_flatMap.2 ⟨a', ha', hi'⟩)
    · simp [A.ids] at hi'; subst hi'; rw [upd_same]; rfl) (fun _ => by
    refine ⟨b, vs, e1, e2, ?_, e4⟩
    have hl := e3.length
    refine RVs.of (by rw [List.length_set]; exact hl) fun q a' v' ha' hv' => ?_
    rw [List.getElem?_set] at ha'
    split at ha'
    · rename_i hq
      subst hq
      split at ha'
      · cases ha'
        obtain ⟨v2, q1, q2, q3⟩ := e3.at k _ hk
        rw [hv'] at q1; cases q1
        have hv : v' = .slice none 0 0 := q2
        exact ⟨⟨hv.trans (upd_same ..).symm, none, 0, 0, hv⟩, q3⟩
      · cases ha'
    · obtain ⟨v2, q1, q2, q3⟩ := e3.at q _ ha'
      rw [hv'] at q1; cases q1
      exact ⟨q2, q3⟩)
  exact ⟨⟨_, I, hm2.1, hx0, fun i hi => (hB i (h5 i hi)).trans (hkp i hi), fun t => (hs t).mono (Ext.refl _ _) fun i hi => hB i (h2 t i hi)⟩, fun t i hi => liv i (h2 t i hi), h3, hnn, h4, fun i hi => liv i (h5 i hi)⟩
theorem W.newArr {R : Ref} {n : Nat} {ds : List Deferred} {st : St} {c : Code} {K : Exit → St → Prop} (t id ty e : Nat) (ht : st.s t = .nil) (hid : st.m id = none) (h : W P R n ds ⟨upd st.s t (.own id), upd st.m id (some (.arr ty e []))⟩ c K) : W P R n ds st c K := W.newRow true t id ty e ht hid h
theorem W.newM {R : Ref} {n : Nat} {ds : List Deferred} {st : St} {c : Code} {K : Exit → St → Prop} (t id ty e : Nat) (ht : st.s t = .nil) (hid : st.m id = none) (h : W P R n ds ⟨upd st.s t (.own id), upd st.m id (some (.mrow ty e []))⟩ c K) : W P R n ds st c K := W.newRow false t id ty e ht hid h
end
theorem ybeq_some (a b : Bool) : (some a == some b) = (a == b) := rfl
theorem beqT (b : Bool) : (b == true) = b := by cases b <;> rfl
theorem beqF (b : Bool) : (b == false) = !b := by cases b <;> rfl
theorem ybeq_none (b : Bool) : ((none : Option Bool) == some b) = false := rfl
theorem empty_toList : (⟨#[]⟩ : ByteArray).toList = [] := by
  unfold ByteArray.toList ByteArray.toList.loop
  rfl
theorem upd_app {α : Type} (f : Nat → α) (t : Nat) (x : α) (u : Nat) : upd f t x u = if u = t then x else f u := rfl
theorem entry_zero (a : A) (l : List A) : entry (a :: l) 0 = a := rfl
theorem entry_succ (a : A) (l : List A) (n : Nat) : entry (a :: l) (n + 1) = entry l n := rfl
theorem entry_nil (n : Nat) : entry [] n = .undef := by simp [entry]
theorem cvs_nil {m : Mem} : Cvs m [] [] := trivial
theorem cvs_cons {m : Mem} {a a' : A} {l l' : List A} (h : Cv m a a') (k : Cvs m l l') : Cvs m (a :: l) (a' :: l') := ⟨h, k⟩
theorem cv_refl {m : Mem} {a : A} : Cv m a a := .inl rfl
theorem cvrs_nil {m : Mem} : CvRs m [] [] := trivial
theorem cvrs_cons {m : Mem} {a a' : A} {l l' : List A} (h : CvR m a a') (k : CvRs m l l') : CvRs m (a :: l) (a' :: l') := ⟨h, k⟩
theorem cvr_refl {m : Mem} {a : A} : CvR m a a := .inl (.inl rfl)
theorem cvr_cv {m : Mem} {a a' : A} (h : Cv m a a') : CvR m a a' := .inl h
theorem cvr_ptr {m : Mem} {j : Nat} {ty : TypeId} {cells : List A} {xs : List C} (hj : m j = some (.box ty cells)) (hx : asLs m cells = some xs) : CvR m (.ptr j 0) (.rptr xs) := .inr (.inl ⟨j, ty, cells, xs, rfl, hj, hx, rfl⟩)
theorem cvr_fn {m : Mem} {f : FuncId} {ids : List Nat} {caps : List (List C)} (h : capsOf m ids = some caps) : CvR m (.fn f ids) (.fnR f caps) := .inr (.inr (.inl ⟨f, ids, caps, rfl, h, rfl⟩))
theorem caps_one {m : Mem} {j : Nat} {ty : TypeId} {cells : List A} {xs : List C} (hj : m j = some (.box ty cells)) (hx : asCs m cells = some xs) : capsOf m [j] = some [xs] := by simp [capsOf, hj, hx]
theorem mem_nil_app (j : Nat) : Mem.nil j = none := rfl
theorem top_app (t : Nat) : (fun _ : Nat => A.top) t = .top := rfl
def SLe (s s' : Nat → A) : Prop := ∀ t, s' t = .top ∨ s' t = s t
def MLe (m m' : Mem) : Prop := ∀ j, m' j = none ∨ m' j = m j
theorem sle_top (s : Nat → A) : SLe s (fun _ => .top) := fun _ => .inl rfl
theorem sle_refl (s : Nat → A) : SLe s s := fun _ => .inr rfl
theorem sle_upd {s s' : Nat → A} {t : Nat} {x : A} (h : SLe s s') (hx : s t = x) : SLe s (upd s' t x) := fun u => by
  unfold upd; split
  · rename_i e; subst e; exact .inr hx.symm
  · exact h u
theorem mle_nil (m : Mem) : MLe m Mem.nil := fun _ => .inl rfl
theorem mle_refl (m : Mem) : MLe m m := fun _ => .inr rfl
theorem mle_upd {m m' : Mem} {j : Nat} {o : O} (h : MLe m m') (ho : m j = some o) : MLe m (upd m' j (some o)) := fun u => by
  unfold upd; split
  · rename_i e; subst e; exact .inr ho.symm
  · exact h u
def SWf (m : Mem) (s : Nat → A) : Prop := ∀ t, ∀ j ∈ (s t).ids, (m j).isSome = true
def MWf (m m' : Mem) : Prop := ∀ id o, m' id = some o → ∀ j ∈ o.ids, (m j).isSome = true
theorem swf_top (m : Mem) : SWf m (fun _ => .top) := fun _ j hj => by simp [A.ids] at hj
theorem swf_upd {m : Mem} {s : Nat → A} {t : Nat} {x : A} (h : SWf m s) (hx : ∀ j ∈ x.ids, (m j).isSome = true) : SWf m (upd s t x) := fun u j hj => by
  unfold upd at hj; split at hj
  · exact hx j hj
  · exact h u j hj
theorem mwf_nil (m : Mem) : MWf m Mem.nil := fun _ _ h => absurd h (noneSome _)
theorem mwf_upd {m m' : Mem} {i : Nat} {o : O} (h : MWf m m') (ho : ∀ j ∈ o.ids, (m j).isSome = true) : MWf m (upd m' i (some o)) := fun id x hx j hj => by
  unfold upd at hx; split at hx
  · cases hx; exact ho j hj
  · exact h id x hx j hj
theorem le_mk {kp : Nat → Prop} {st st' : St} (h1 : SLe st.s st'.s) (h2 : MLe st.m st'.m) (h3 : SWf st'.m st'.s) (h4 : MWf st'.m st'.m) (h5 : ∀ j, kp j → (st'.m j).isSome = true) (h6 : dfs (st'.s DID) = dfs (st.s DID)) : Le kp st st' := ⟨h1, h2, ⟨h3, h4⟩, h5, h6⟩
theorem kept_not {kp : Nat → Prop} (h : kp = fun _ => False) {m : Mem} : ∀ j, kp j → (m j).isSome = true := fun j hj => by rw [h] at hj; exact hj.elim
theorem nokeep {kp : Nat → Prop} (h : kp = fun _ => False) {j : Nat} : ¬ kp j := by rw [h]; exact fun h => h
theorem wrap_nat {k : Nat} (h : k < 9223372036854775808) : IntKind.i64.wrap (k : Int) = k := by
  have h2 : (k : Int) % 18446744073709551616 = k := by omega
  have h3 : ¬ ((k : Int) ≥ 9223372036854775808) := by omega
  simp [IntKind.wrap, IntKind.bits, IntKind.signed, h2]
  omega
theorem ok_pure {P : Go.Program} {T : Tab} (hT : T.Ok P) {f : FuncId} {fn : Func} {c : Code} {l : List ResultVar} {args : List A} {r : A} (hf : P.funcs[f]? = some fn) (hn : (fn.name == "runtime.NumGoroutine") = false) (hb : fn.body = some c) (hl : fn.results.toList = l) (hd : args.all (fun a => a.ids.isEmpty && !(match a with | .defs _ => true | _ => false)) = true) (hr : r.ids = []) (hle : decide (args.length ≤ fn.ntmps ∧ fn.ntmps ≤ DID) = true)
    (hW : ∀ R : Ref, R.keep = (fun _ => False) → W P R fn.ntmps [] ⟨entry args, Mem.nil⟩ c (fun e st => (e = .normal ∨ e = .ret) ∧ dfs (st.s DID) = [] ∧ resA T st l = some r)) (m : Mem) : COk P f args m r :=
  ⟨enters_of hf hn hb, hr, fun m' _ => call_pure hT hf hb hl (fun a ha => by have := List.all_eq_true.1 hd a ha; simp only [Bool.and_eq_true] at this; simpa using this.1) (fun a ha l e => by have := List.all_eq_true.1 hd a ha; subst e; simp at this) (of_decide_eq_true hle).1 (of_decide_eq_true hle).2 hW m'⟩
theorem wrap_succ {k : Nat} (h : k + 1 < 9223372036854775808) : IntKind.i64.wrap ((k : Int) + 1) = ((k + 1 : Nat) : Int) := by
  have := wrap_nat h
  simpa using this
theorem wf_i64 {n : Int} (h1 : -9223372036854775808 ≤ n) (h2 : n ≤ 9223372036854775807) : (Lit.int .i64 n).wf = true := by
  simp [Lit.wf, IntKind.min, IntKind.max, IntKind.bits, IntKind.signed]
  omega
theorem at_map {α β : Type} {f : α → β} {l : List α} {k : Nat} {x : α} (h : l[k]? = some x) : (l.map f)[k]? = some (f x) := by simp [h]
theorem exs : (∀ (α : Type) (l : List α) (i : Nat), l.toArray[i]? = l[i]?) ∧ (∀ (α : Type) (a : α) (l : List α) (i : Nat), (a :: l)[i + 1]? = l[i]?) ∧ (∀ (α : Type) (a : α) (l : List α), (a :: l)[0]? = some a) ∧
    (∀ (α β : Type) (a : α) (f : α → Option β), (some a).bind f = f a) ∧ (∀ (α : Type) (l : List α), l.toArray.size = l.length) ∧ (∀ (α β : Type) (f : α → β) (a : α) (l : List α), (a :: l).map f = f a :: l.map f) ∧ (∀ (α β : Type) (f : α → β), ([] : List α).map f = []) ∧
    (∀ (α : Type) (l : List α), l.drop 0 = l) ∧ (∀ (α : Type) (a : α) (l : List α) (i : Nat), (a :: l).drop (i + 1) = l.drop i) ∧ (∀ (α : Type) (i : Nat), ([] : List α).drop i = []) ∧
    (∀ (α : Type) (a : α) (l : List α) (i : Nat), (a :: l).take (i + 1) = a :: l.take i) ∧ (∀ (α : Type) (l : List α), l.take 0 = []) ∧ (∀ (α : Type) (i : Nat), ([] : List α).take i = []) ∧ (∀ (α : Type) (a : α) (l : List α), (a :: l).head? = some a) ∧
    (∀ (α : Type) (a : α) (n : Nat), List.replicate (n + 1) a = a :: List.replicate n a) ∧ (∀ (α : Type) (a : α), List.replicate 0 a = []) ∧ (∀ (α : Type) (l : List α) (r : List (List α)), (l :: r).flatten = l ++ r.flatten) ∧ (∀ (α : Type), ([] : List (List α)).flatten = []) ∧
    (∀ (α : Type) (a : α) (l : List α), (a :: l).length = l.length + 1) ∧ (∀ (α : Type), ([] : List α).length = 0) ∧ (∀ (α β : Type) (f : α → β) (l : List α), (l.map f).length = l.length) ∧ (∀ (α : Type) (l : List α), [] ++ l = l) ∧ (∀ (α : Type) (a : α) (l r : List α), a :: l ++ r = a :: (l ++ r)) ∧ (∀ (α : Type) (l : List α), l ++ [] = l) ∧
    (∀ (α β : Type) (f : α → β) (a : α), (some a).map f = some (f a)) ∧ (∀ (α β : Type) (f : α → β), (none : Option α).map f = none) ∧ (∀ n : Nat, 0 * n = 0) ∧ (∀ n : Nat, 1 * n = n) ∧ (∀ n : Nat, n * 1 = n) ∧ (∀ n : Nat, 0 + n = n) ∧ (∀ n : Nat, n + 0 = n) ∧ (∀ n : Nat, (n : Int).toNat = n) ∧ (∀ n : Nat, (0 ≤ (n : Int)) = True) ∧
    (∀ p : Prop, (p ∨ True) = True) ∧ (∀ p : Prop, (True ∧ p) = p) ∧ (∀ p : Prop, (p ∧ True) = p) ∧ (∀ p : Prop, (p ∧ p) = p) ∧ (∀ (α : Type) (a b : α), (if True then a else b) = a) ∧ (∀ (α : Type) (a b : α), (if False then a else b) = b) ∧ ((!true) = false) ∧ ((!false) = true) :=
  ⟨fun _ _ _ => by simp, fun _ _ _ _ => rfl, fun _ _ _ => rfl, fun _ _ _ _ => rfl, fun _ _ => rfl, fun _ _ _ _ _ => rfl, fun _ _ _ => rfl, fun _ _ => rfl, fun _ _ _ _ => rfl, fun _ _ => by simp, fun _ _ _ _ => rfl, fun _ _ => by simp, fun _ _ => by simp, fun _ _ _ => rfl,
    fun _ _ _ => rfl, fun _ _ => rfl, fun _ _ _ => by simp, fun _ => rfl, fun _ _ _ => rfl, fun _ => rfl, fun _ _ _ _ => by simp, fun _ _ => rfl, fun _ _ _ _ => rfl, fun _ _ => by simp, fun _ _ _ _ => rfl, fun _ _ _ => rfl, fun _ => by simp, fun _ => by simp, fun _ => by simp, fun _ => by simp, fun _ => rfl, fun _ => rfl, fun _ => by simp,
    fun _ => by simp, fun _ => by simp, fun _ => by simp, fun _ => by simp, fun _ _ _ => rfl, fun _ _ _ => rfl, rfl, rfl⟩
theorem fillC_cons (place : Nat → Option (Nat × Nat)) (cells : List C) (i : Nat) (v : Option (List C)) (rest : List (Nat × Option (List C))) : fillC place cells ((i, v) :: rest) = match place i, v with
    | some (o, n), some xs => if xs.length = n ∧ o + n ≤ cells.length then fillC place (cells.take o ++ (xs ++ cells.drop (o + n))) rest else none
    | _, _ => none := rfl
theorem fillA_cons (place : Nat → Option (Nat × Nat)) (cells : List A1) (i : Nat) (v : Option (List A1)) (rest : List (Nat × Option (List A1))) : fillA place cells ((i, v) :: rest) = match place i, v with
    | some (o, n), some xs => if xs.length = n ∧ o + n ≤ cells.length then fillA place (cells.take o ++ (xs ++ cells.drop (o + n))) rest else none
    | _, _ => none := rfl
theorem stO_box (T : Tab) (ty : Nat) (a v : A) (ty0 : TypeId) (cells : List A) : stO T ty a v (.box ty0 cells) = match a, T.ty ty, cellsA v with
    | .ptr _ off, some (n, _), some l => if l.length = n ∧ off + l.length ≤ cells.length then some (.box ty0 (repl cells off l)) else none
    | _, _, _ => none := rfl
theorem stO_mrow (T : Tab) (ty : Nat) (a v : A) (ty0 : TypeId) (e : Nat) (xs : List (List C)) : stO T ty a v (.mrow ty0 e xs) = match a, T.ty ty, dataC v with
    | .eptr _ e' i f, some (n, _), some l => if e' = e ∧ l.length = n ∧ f + l.length ≤ e then (match xs[i]? with | some cs => some (.mrow ty0 e (xs.set i (replC cs f l))) | none => none) else none
    | _, _, _ => none := rfl
theorem stO_rows (T : Tab) (ty : Nat) (a v : A) (ty0 : TypeId) (xs : List A1) : stO T ty a v (.rows ty0 xs) = match a, T.ty ty, cellsA v with
    | .eptr _ e i f, some (n, _), some [b] => if e = 1 ∧ n = 1 ∧ f = 0 ∧ i < xs.length then (match b.down with | some y => some (.rows ty0 (xs.set i y)) | none => none) else none
    | _, _, _ => none := rfl
set_option linter.defProp false in
def exa :=
  And.intro (And.intro (And.intro @qv2.eq_17 @qv2.eq_18) (And.intro @A.kill.eq_9 (And.intro @A.kill.eq_10 (And.intro @partA.eq_1 (And.intro @fillA.eq_1 (And.intro @fillA_cons (And.intro @fillC_cons (And.intro @stO_box (And.intro @stO_mrow @stO_rows))))))))) (And.intro (And.intro (And.intro (And.intro (And.intro (And.intro (And.intro (And.intro @exec.eq_1 @exec.eq_2) (And.intro @stepQ.eq_1 @wantA.eq_1)) (And.intro (And.intro @yieldA.eq_1 @kind.eq_1) (And.intro @kind.eq_2 @kind.eq_3))) (And.intro (And.intro (And.intro @kind.eq_4 @kind.eq_5) (And.intro @kind.eq_6 @kind.eq_7)) (And.intro (And.intro @kind.eq_8 @kind.eq_9) (And.intro @kind.eq_10 @kind.eq_11)))) (And.intro (And.intro (And.intro (And.intro @kind.eq_12 @kind.eq_13) (And.intro @kind.eq_14 @kind.eq_15)) (And.intro (And.intro @kind.eq_16 @kind.eq_17) (And.intro @kind.eq_18 @kind.eq_19))) (And.intro (And.intro (And.intro @kind.eq_20 @kind.eq_21) (And.intro @kind.eq_22 @kind.eq_23)) (And.intro (And.intro @kind.eq_24 @kind.eq_25) (And.intro @qv.eq_1 (And.intro @qv1.eq_1 @qv1.eq_2)))))) (And.intro (And.intro (And.intro (And.intro (And.intro @qv1.eq_3 @qv1.eq_4) (And.intro @qv1.eq_5 @qv1.eq_6)) (And.intro (And.intro @qv1.eq_7 @qv1.eq_8) (And.intro @qv1.eq_9 @qv1.eq_10))) (And.intro (And.intro (And.intro @qv1.eq_11 @qv1.eq_12) (And.intro @qv1.eq_13 @qv1.eq_14)) (And.intro (And.intro @qv1.eq_15 @qv1.eq_16) (And.intro @qv1.eq_17 @qv1.eq_18)))) (And.intro (And.intro (And.intro (And.intro @qv1.eq_19 @qv2.eq_1) (And.intro @qv2.eq_2 @qv2.eq_3)) (And.intro (And.intro @qv2.eq_4 @qv2.eq_5) (And.intro @qv2.eq_6 @qv2.eq_7))) (And.intro (And.intro (And.intro @qv2.eq_8 @qv2.eq_9) (And.intro @qv2.eq_10 @qv2.eq_11)) (And.intro (And.intro @qv2.eq_12 @qv2.eq_13) (And.intro @qv2.eq_14 (And.intro @qv2.eq_15 @qv2.eq_16))))))) (And.intro (And.intro (And.intro (And.intro (And.intro (And.intro @stO.eq_1 @stO.eq_2) (And.intro @stO.eq_3 @stO.eq_4)) (And.intro (And.intro @stO.eq_5 @stO.eq_6) (And.intro @stO.eq_7 @adrId.eq_1))) (And.intro (And.intro (And.intro @adrId.eq_2 @adrId.eq_3) (And.intro @dataC.eq_1 @dataC.eq_2)) (And.intro (And.intro @dataC.eq_3 @dataC.eq_4) (And.intro @dataC.eq_5 @replC.eq_1)))) (And.intro (And.intro (And.intro (And.intro @eqNil.eq_1 @eqNil.eq_2) (And.intro @eqNil.eq_3 @eqNil.eq_4)) (And.intro (And.intro @eqNil.eq_5 @eqNil.eq_6) (And.intro @eqNil.eq_7 @eqNil.eq_8))) (And.intro (And.intro (And.intro @eqNil.eq_9 @eqNil.eq_10) (And.intro @eqNil.eq_11 @eqNil.eq_12)) (And.intro (And.intro @eqNil.eq_13 @binNil.eq_1) (And.intro @binNil.eq_2 (And.intro @binNil.eq_3 @shiftInt.eq_1)))))) (And.intro (And.intro (And.intro (And.intro (And.intro @shiftInt.eq_2 @shiftInt.eq_3) (And.intro @A.down.eq_1 @A.down.eq_2)) (And.intro (And.intro @A.down.eq_3 @A.down.eq_4) (And.intro @A.down.eq_5 @A.down.eq_6))) (And.intro (And.intro (And.intro @A.down.eq_7 @A.down.eq_8) (And.intro @A.down.eq_9 @A1.up.eq_1)) (And.intro (And.intro @A1.up.eq_2 @A1.up.eq_3) (And.intro @A1.up.eq_4 @A1.up.eq_5)))) (And.intro (And.intro (And.intro (And.intro @A1.up.eq_6 @A1.up.eq_7) (And.intro @A1.up.eq_8 @downs.eq_1)) (And.intro (And.intro @downs.eq_2 @toR.eq_1) (And.intro @toR.eq_2 @ev.eq_1))) (And.intro (And.intro (And.intro @ev.eq_2 @ev.eq_3) (And.intro @ev.eq_4 @putS.eq_1)) (And.intro (And.intro @putS.eq_2 @rowO.eq_1) (And.intro @ofConst.eq_1 (And.intro @ofConst.eq_2 @ofConst.eq_3)))))))) (And.intro (And.intro (And.intro (And.intro (And.intro (And.intro (And.intro @ofConst.eq_4 @ofConst.eq_5) (And.intro @ofConst.eq_6 @ofConst.eq_7)) (And.intro (And.intro @ofConst.eq_8 @ofConst.eq_9) (And.intro @cellsA.eq_1 @cellsA.eq_2))) (And.intro (And.intro (And.intro @cellsA.eq_3 @cellsA.eq_4) (And.intro @cellsA.eq_5 @cellsA.eq_6)) (And.intro (And.intro @cellsA.eq_7 @cellsA.eq_8) (And.intro @cellsA.eq_9 @cellsA.eq_10)))) (And.intro (And.intro (And.intro (And.intro @cellsA.eq_11 @cellsA.eq_12) (And.intro @cellsC.eq_1 @cellsC.eq_2)) (And.intro (And.intro @asC.eq_1 @asC.eq_2) (And.intro @asC.eq_3 @asC.eq_4))) (And.intro (And.intro (And.intro @asC.eq_5 @asCs.eq_1) (And.intro @asCs.eq_2 @ld.eq_1)) (And.intro (And.intro @ldR.eq_1 @ldR.eq_2) (And.intro @bin.eq_1 (And.intro @bin.eq_2 @bin.eq_3)))))) (And.intro (And.intro (And.intro (And.intro (And.intro @bin.eq_4 @bin.eq_5) (And.intro @bin.eq_6 @bin.eq_7)) (And.intro (And.intro @binInt.eq_1 @binInt.eq_2) (And.intro @binInt.eq_3 @binInt.eq_4))) (And.intro (And.intro (And.intro @binInt.eq_5 @binInt.eq_6) (And.intro @binInt.eq_7 @binInt.eq_8)) (And.intro (And.intro @binInt.eq_9 @binInt.eq_10) (And.intro @binInt.eq_11 @binInt.eq_12)))) (And.intro (And.intro (And.intro (And.intro @binInt.eq_13 @binInt.eq_14) (And.intro @binInt.eq_15 @binInt.eq_16)) (And.intro (And.intro @binStr.eq_1 @binStr.eq_2) (And.intro @binStr.eq_3 @binStr.eq_4))) (And.intro (And.intro (And.intro @binStr.eq_5 @binStr.eq_6) (And.intro @binStr.eq_7 @binStr.eq_8)) (And.intro (And.intro @binBool.eq_1 @binBool.eq_2) (And.intro @binBool.eq_3 (And.intro @sliceOf.eq_1 @bndOf.eq_1))))))) (And.intro (And.intro (And.intro (And.intro (And.intro (And.intro @bndOf.eq_2 @bndOf.eq_3) (And.intro @repl.eq_1 @fillC.eq_1)) (And.intro (And.intro @fillC.eq_2 @fillC.eq_3) (And.intro @zeroC.eq_1 @chunks.eq_1))) (And.intro (And.intro (And.intro @chunks.eq_2 @ptrIds.eq_1) (And.intro @ptrIds.eq_2 @ptrIds.eq_3)) (And.intro (And.intro @A.kill.eq_1 @A.kill.eq_2) (And.intro @A.kill.eq_3 @A.kill.eq_4)))) (And.intro (And.intro (And.intro (And.intro @A.kill.eq_5 @A.kill.eq_6) (And.intro @A.kill.eq_7 @A.kill.eq_8)) (And.intro (And.intro @A.kill.eq_9 @A.kill.eq_10) (And.intro @O.kill.eq_1 @O.kill.eq_2))) (And.intro (And.intro (And.intro @O.kill.eq_3 @O.kill.eq_4) (And.intro @maxStr.eq_1 @toKey.eq_1)) (And.intro (And.intro @toKey.eq_2 (And.intro @toKey.eq_3 @toKey.eq_4)) (And.intro (And.intro @keyTy.eq_1 (And.intro @keyC.eq_1 (And.intro @keyC.eq_2 (And.intro @keyC.eq_3 @keyCs.eq_1)))) (And.intro (And.intro @keyTy.eq_2 (And.intro @keyCs.eq_2 @keyCs.eq_3)) (And.intro @keyTy.eq_3 @keyTy.eq_4))))))) (And.intro (And.intro (And.intro (And.intro (And.intro @zero1.eq_1 @lookRes.eq_1) (And.intro @eqTs.eq_1 @eqTs.eq_2)) (And.intro (And.intro @eqTs.eq_3 @eqT.eq_1) (And.intro @eqT.eq_2 @eqT.eq_3))) (And.intro (And.intro (And.intro @eqT.eq_4 @eqRes.eq_1) (And.intro @eqRes.eq_2 @eqRes.eq_3)) (And.intro (And.intro @offs.eq_1 @offs.eq_2) (And.intro @upd_app (And.intro @mem_nil_app @entry_zero))))) (And.intro (And.intro (And.intro (And.intro @entry_succ @entry_nil) (And.intro @top_app @killS_app)) (And.intro (And.intro @killM_app @wf_i64) (And.intro @decide_true @decide_false))) (And.intro (And.intro (And.intro @ybeq_some @ybeq_none) (And.intro @beqT @beqF)) (And.intro (And.intro @empty_toList exs) (And.intro tabs (And.intro @isNilRow.eq_1 @isNilRow.eq_2)))))))))
end V
end Go.Proofs.YtcldeoolglhdoaaDoor
end
section
set_option linter.unusedSimpArgs false
namespace Go.Proofs.YtcldeoolglhdoaaDoor
open Go.ChangeShapes Go.WideShapes Go.ChangeAt Go.RowKit
open Go.ChangeMaps (open_string shut_string)
set_option linter.unusedVariables false
theorem own : ownKnob Tryd.prog.godebug = none := by kernel_rfl
theorem laidOut : laidOutB Tryd.prog = true := by kernel_rfl
namespace V
theorem cok_top {f : FuncId} {args : List A} {r : A} {W : World} {vals : List Value} (h : COk Tryd.prog f args Mem.nil r) (hg : GlobOk W) (hv : ∀ B, RVl B W (fun b _ => b < W.heap.size) args vals) :
    Calls Tryd.prog f vals.toArray W fun e w' => ∃ v, e = .returned v ∧ Below W.heap.size W w' ∧ ∃ B I', RV B w' I' r v := by
  obtain ⟨-, -, h⟩ := h
  have hm : MR W (fun b _ => b < W.heap.size) (fun _ => undef) (fun b _ => b < W.heap.size) Mem.nil W :=
    ⟨Below.refl _ _, hg, fun _ _ h => h, fun _ _ h => .inl h, fun _ _ h => h, (fun _ _ h => by simp [Mem.nil] at h), (fun _ _ h => by simp [Mem.nil] at h), (fun _ _ _ _ h => by simp [Mem.nil] at h), (fun _ _ h => by simp [Mem.nil] at h)⟩
  refine (h Mem.nil (fun _ _ => rfl) W _ _ _ W vals hm (hv _)).mono ?_
  rintro e w' ⟨v, I', rfl, hb, -, -, hr⟩
  exact ⟨v, rfl, hb, _, _, hr⟩
theorem cok_true {f : FuncId} {args : List A} {W : World} {vals : List Value} (h : COk Tryd.prog f args Mem.nil (.c (.bool true))) (hg : GlobOk W) (hv : ∀ B, RVl B W (fun b _ => b < W.heap.size) args vals) :
    Calls Tryd.prog f vals.toArray W fun e w' => e = .returned (.bool true) ∧ Below W.heap.size W w' := by
  refine (cok_top h hg hv).mono ?_
  rintro e w' ⟨v, rfl, hb, B, I', hr⟩
  have hr : RC w' I' v (.bool true) := hr
  cases hr
  exact ⟨rfl, hb⟩
end V
end Go.Proofs.YtcldeoolglhdoaaDoor
end
section
set_option linter.unusedVariables false
namespace Go.Proofs.YtcldeoolglhdoaaDoor
namespace C17
structure Prc where
  cls : ByteArray
  name : ByteArray
  params : Int
  regs : Int
  code : List Ins
end C17
namespace V
open Go.RowKit C17
def cIns (x : Ins) : List C := [.int .i64 x.kind, .int .i64 x.dst, .int .i64 x.a, .int .i64 x.b, .int .i64 x.c, .int .i64 x.tt, .int .i64 x.els, .int .i64 x.num, .str x.name, .sl (x.args.map fun z => [C.int .i64 z])]
def cP (p : Prc) : List C := [.str p.cls, .str p.name, .int .i64 p.params, .int .i64 p.regs, .sl (p.code.map cIns)]
end V
end Go.Proofs.YtcldeoolglhdoaaDoor
end
section
namespace Go.Proofs.YtcldeoolglhdoaaDoor
namespace V
open Go.RowKit
theorem cvs_caps {m : Mem} : ∀ caps : List (List C), Cvs m (caps.map A.rptr) (caps.map A.rptr)
  | [] => trivial
  | _ :: l => ⟨cv_refl, cvs_caps l⟩
def idxB {α : Type} (p : α → Bool) : List α → Int
  | [] => -1
  | x :: l => if p x then 0 else if idxB p l = -1 then -1 else idxB p l + 1
theorem idxB_none {α : Type} {p : α → Bool} {l : List α} (h : l.any p = false) : idxB p l = -1 := by
  induction l with
  | nil => rfl
  | cons x l ih =>
    simp only [List.any_cons, Bool.or_eq_false_iff] at h
    unfold idxB
    rw [if_neg (by simp [h.1]), ih h.2]; simp
theorem idxB_at {α : Type} {p : α → Bool} {l : List α} {k : Nat} {x : α} (h : (l.take k).any p = false) (hx : l[k]? = some x) (hp : p x = true) : idxB p l = k := by
  induction l generalizing k with
  | nil => simp at hx
  | cons y l ih =>
    unfold idxB
    cases k with
    | zero => simp at hx; subst hx; simp [hp]
    | succ k =>
      simp only [List.take_succ_cons, List.any_cons, Bool.or_eq_false_iff] at h
      rw [if_neg (by simp [h.1]), ih h.2 (by simpa using hx)]
      rw [if_neg (by omega)]; simp
theorem idxB_first {α : Type} {p : α → Bool} : ∀ {l : List α}, l.any p = true → ∃ k x, l[k]? = some x ∧ p x = true ∧ (l.take k).any p = false ∧ idxB p l = k
  | [], h => by simp at h
  | x :: l, h => by
    by_cases hx : p x = true
    · exact ⟨0, x, rfl, hx, rfl, by unfold idxB; rw [if_pos hx]; rfl⟩
    · simp only [List.any_cons, hx, Bool.false_or] at h
      obtain ⟨k, y, h1, h2, h3, -⟩ := idxB_first h
      have h3' : ((x :: l).take (k + 1)).any p = false := by rw [List.take_succ_cons, List.any_cons, h3]; simp [hx]
      exact ⟨k + 1, y, h1, h2, h3', idxB_at h3' h1 h2⟩
theorem idxB_dec {α : Type} (p : α → Bool) (l : List α) : decide ((0 : Int) ≤ idxB p l) = l.any p := by
  cases h : l.any p with
  | false => rw [idxB_none h]; rfl
  | true =>
    obtain ⟨k, x, -, -, -, e⟩ := idxB_first h
    rw [e]; simp
end V
end Go.Proofs.YtcldeoolglhdoaaDoor
end
section
namespace Go.Proofs.YtcldeoolglhdoaaDoor
namespace V
open Go.RowKit
def valA : A → Option A1
  | .agg xs => some (.agg xs)
  | a => a.down
def putE (key y : A1) (ents : List (A1 × A1)) : Option (Nat × A1) → List (A1 × A1)
  | some (i, _) => ents.set i (key, y)
  | none => ents ++ [(key, y)]
structure HPut (T : Tab) (ops : Array Oper) (o : Oper) (st : St) (t : Nat) (x k v : Operand) (j kt e : Nat) (key y : A1) (ents : List (A1 × A1)) (r : Option (Nat × A1)) : Prop where
  want : wantA ops o st.s = some true
  op : o.op = .mapUpdate t x k v ∨ o.op = .insert t x k v
  dst : o.dst = none
  at_ : ev st.s x = .map j
  obj : st.m j = some (.map ents)
  map : T.map t = some (kt, e)
  keyed : toKey (ev st.s k) = some key
  kty : keyTy T kt key = true
  val : valA (ev st.s v) = some y
  find : findE key ents = some r
section
variable {P : Go.Program} {T : Tab} {w0 w : World} {I0 I : Nat → Nat → Prop} {B : Nat → Value} {m : Mem}
theorem valA_r1 {a : A} {y : A1} {v : Value} (h : valA a = some y) (hv : RV B w I a v) : R1 B w I y v ∧ ∀ j ∈ y.ids, j ∈ a.ids := by
  unfold valA at h
  split at h
  · cases h; exact ⟨hv, fun j hj => by simp [A1.ids] at hj⟩
  · exact ⟨down_rv h hv, down_ids h⟩
theorem REs.set : ∀ {l : List (A1 × A1)} {es : List MapEntry} (i : Nat) (p : A1 × A1) (e : MapEntry), REs B w I l es → R1 B w I p.1 e.key → R1 B w I p.2 e.val → REs B w I (l.set i p) (es.set i e)
  | [], [], _, _, _, _, _, _ => trivial
  | _ :: _, _ :: _, 0, _, _, h, h1, h2 => ⟨⟨h1, h2⟩, h.2⟩
  | _ :: _, _ :: _, i + 1, p, e, h, h1, h2 => ⟨h.1, REs.set i p e h.2 h1 h2⟩
theorem REs.push : ∀ {l : List (A1 × A1)} {es : List MapEntry} (p : A1 × A1) (e : MapEntry), REs B w I l es → R1 B w I p.1 e.key → R1 B w I p.2 e.val → REs B w I (l ++ [p]) (es ++ [e])
  | [], [], _, _, _, h1, h2 => ⟨⟨h1, h2⟩, trivial⟩
  | _ :: _, _ :: _, p, e, h, h1, h2 => ⟨h.1, REs.push p e h.2 h1 h2⟩
theorem MR.mapTurn (h : MR w0 I0 B I m w) {j r : Nat} {ents ents' : List (A1 × A1)} {es es' : Array MapEntry} {clock clock' : Nat} (hj : m j = some (.map ents)) (hB : B j = .map (some r)) (hh : w.heap[r]? = some (.map es clock)) (hno : ∀ p, ¬ I r p) (hes : REs B w I ents' es'.toList) (hl : ∀ i ∈ (O.map ents').ids, (m i).isSome = true) :
    MR w0 I0 B I (upd m j (some (.map ents'))) { w with heap := w.heap.setIfInBounds r (.map es' clock') } ∧ Ext w { w with heap := w.heap.setIfInBounds r (.map es' clock') } I I := by
  have hs := MapKept.heap_set (o' := .map es' clock') hh
  refine h.turn hj (b := r) hB (fun k hk => ?_) hno rfl rfl rfl (by simp) (fun k hk => hs.2 k hk) hl (fun hE => ⟨r, es', clock', hB, hs.1, hes.mono hE (fun _ _ => rfl), hno⟩)
  have hk : B j = .map (some k) := hk
  rw [hB] at hk; cases hk; rfl
end
variable {P : Go.Program} {T : Tab} (hT : T.Ok P) {kp : Nat → Prop} {ops : Array Oper}
theorem setEnts_ids {key y : A1} {ents : List (A1 × A1)} {r : Option (Nat × A1)} : ∀ i ∈ (O.map (putE key y ents r)).ids, i ∈ (O.map ents).ids ∨ i ∈ key.ids ∨ i ∈ y.ids := by
  intro i hi
  obtain ⟨p, hp, hq⟩ := List.mem_flatMap.1 hi
  have : p ∈ ents ∨ p = (key, y) := by
    unfold putE at hp
    split at hp
    · exact List.mem_or_eq_of_mem_set hp
    · simpa using hp
  rcases this with h | rfl
  · exact .inl (List.mem_flatMap.2 ⟨p, h, hq⟩)
  · exact .inr (by simpa using hq)
include hT
theorem eff_put {o : Oper} {st : St} {t : Nat} {x k v : Operand} {j kt e : Nat} {key y : A1} {ents : List (A1 × A1)} {r : Option (Nat × A1)} (h : HPut T ops o st t x k v j kt e key y ents r) :
    Eff P T kp ops o st ⟨st.s, upd st.m j (some (.map (putE key y ents r)))⟩ := by
  have yl : ∀ {i : Nat}, WF st → i ∈ y.ids → (st.m i).isSome = true := fun {i} hw hi => by
    have : ∀ {a : A}, valA a = some y → i ∈ a.ids := fun {a} ha => by
      unfold valA at ha
      split at ha
      · cases ha; simp [A1.ids] at hi
      · exact down_ids ha i hi
    have hi' := this h.val
    cases hv : v with
    | tmp t => rw [hv] at hi'; exact hw.ids t i hi'
    | const c => rw [hv] at hi'; simp only [ev, ofConst_ids] at hi'; simp at hi'
    | func f => rw [hv] at hi'; simp [ev, A.ids] at hi'
    | global g => rw [hv] at hi'; simp [ev, A.ids] at hi'
  have kl : key.ids = [] := by
    have := h.keyed
    unfold toKey at this
    split at this <;> cases this <;> rfl
  have live : WF st → ∀ i ∈ (O.map (putE key y ents r)).ids, (st.m i).isSome = true := fun hw i hi => by
    rcases setEnts_ids i hi with q | q | q
    · exact hw.live j _ h.obj i q
    · rw [kl] at q; simp at q
    · exact yl hw q
  have liv : ∀ i, (st.m i).isSome = true → (upd st.m j (some (O.map (putE key y ents r))) i).isSome = true := fun i hi => by
    unfold upd; split
    · rfl
    · exact hi
  have wf : WF st → WF ⟨st.s, upd st.m j (some (.map (putE key y ents r)))⟩ := fun hw => ⟨fun t i hi => liv i (hw.ids t i hi), fun id z hz i hi => by
    have hz : upd st.m j (some (O.map (putE key y ents r))) id = some z := hz
    unfold upd at hz
    split at hz
    · cases hz; exact liv i (live hw i hi)
    · exact liv i (hw.live id z hz i hi)⟩
  refine ⟨by rcases h.op with e | e <;> rw [e] <;> rfl, wf, fun R n0 ds a w K Q hR hr hd hK => ?_⟩
  obtain ⟨B, I, hm, hx0, hkp0, hs⟩ := hr.ex
  rw [want_snd hs h.want, if_pos rfl]
  have hx := ev_rv hs x
  rw [h.at_] at hx
  obtain ⟨hkr, -⟩ := toKey_r1 h.keyed (ev_rv hs k)
  obtain ⟨hyr, -⟩ := valA_r1 h.val (ev_rv hs v)
  have hfine := keyTy_fine (P := P) hT h.kty hkr
  have hmap := hT.map _ _ _ h.map
  obtain ⟨q, es, clock, hB, hheap, hes, hno⟩ := hm.objs j _ h.obj
  have hxv : a.eval x = .map (some q) := hx.1.trans hB
  have fin : ∃ es' clock', (Instr.mapUpdate t (a.eval x) (a.eval k) (a.eval v)).run P w = .ok () { w with heap := w.heap.setIfInBounds q (.map es' clock') } ∧ REs B w I (putE key y ents r) es'.toList := by
    rw [hxv]
    rcases find_snd hT h.kty hkr hes h.find with ⟨e1, e2⟩ | ⟨i, v', e', k', e1, e2, e3, e4, e5, e6⟩
    · subst e1
      refine ⟨es.push ⟨a.eval k, a.eval v, clock⟩, clock + 1, ?_, by simpa [putE] using hes.push (key, y) ⟨a.eval k, a.eval v, clock⟩ hkr hyr⟩
      simp [Instr.mapUpdate, run_underlying hmap, MapKept.run_getObj_map hheap, hfine.check, e2, MapKept.run_setObj_map _ hheap, Result.andThen]
    · subst e1
      have hj : es[i]? = some e' := by simpa using e3
      refine ⟨es.modify i (fun z => { z with key := a.eval k, val := a.eval v }), clock, ?_, ?_⟩
      · simp [Instr.mapUpdate, run_underlying hmap, MapKept.run_getObj_map hheap, hfine.check, e2, hj, e5, hfine.stays, MapKept.run_setObj_map _ hheap, Result.andThen]
      · rw [Array.toList_modify, ChangeMaps.modify_eq_set _ _ _ _ e3]
        exact hes.set i (key, y) _ hkr hyr
  obtain ⟨es', clock', r1, r2⟩ := fin
  obtain ⟨hm', hE⟩ := hm.mapTurn (clock' := clock') h.obj hB hheap hno r2 (live hr.wf)
  have hrun : (execOp a.eval o).run P w = .ok .skip { w with heap := w.heap.setIfInBounds q (.map es' clock') } := by
    rcases h.op with e | e <;> simp only [execOp, e, Sem.run_bind, r1, Result.andThen_ok] <;> rfl
  unfold Oper.wp Oper.upon
  rw [hrun]
  have hput : a.put o.dst undef = a := by rw [h.dst]; rfl
  show K (a.put o.dst undef) _
  rw [hput]
  exact hK _ _ ⟨⟨B, I, hm', hx0.trans hE, hkp0, fun t => (hs t).mono hE (fun _ _ => rfl)⟩, (wf hr.wf).ids, hr.size, hr.nn, hr.defs, fun j' hj' => liv j' (hr.kept j' hj')⟩
omit hT in
theorem SR.rewin {R : Ref} {n : Nat} {ds : List Deferred} {st : St} {a : Act} {w : World} (t id : Nat) {ty e lo hi : Nat} {xs : List (List C)} (hr : SR R n ds st a w) (htn : t ≠ DID) (ht : st.s t = .win id e lo hi) (hj : st.m id = some (.mrow ty e xs)) (hh : hi ≤ xs.length) (hkp : ¬ R.keep id) :
    SR R n ds ⟨upd (killS id st.s) t (.own id), upd (killM id st.m) id (some (.mrow ty e ((xs.take hi).drop lo)))⟩ a w := by
  obtain ⟨B, I, hm, hx0, hkp0, hs⟩ := hr.ex
  have hx := hs t
  rw [ht] at hx
  obtain ⟨ad, n0, cap, hB, hlo, hhi, hv⟩ := hx
  obtain ⟨vs, hrow, hvs, hlx, hno⟩ := hm.objs id _ hj
  have hn0 : n0 = xs.length ∧ xs.length ≤ cap := by
    obtain ⟨ad', cp, e5, e6⟩ := hrow.shape
    rw [hB] at e5; cases e5; exact ⟨rfl, e6⟩
  obtain ⟨rfl, hnc⟩ := hn0
  have hvl := hvs.length
  have hfl := flat_len hlx
  have hlen : ((xs.take hi).drop lo).length = hi - lo := by simp; omega
  have hl1 : vs.length = xs.length * e := hrow.1
  have hle1 : hi * e ≤ xs.length * e := Nat.mul_le_mul_right e hh
  have hle2 : lo * e ≤ hi * e := Nat.mul_le_mul_right e hlo
  have hsub : (hi - lo) * e = hi * e - lo * e := Nat.sub_mul ..
  generalize hv' : a.tmps.getD t undef = v' at hv
  have hvl' : ((vs.take (hi * e)).drop (lo * e)).length = (hi - lo) * e := by simp; omega
  have hrow' : rowAt w ty e v' (hi - lo) ((vs.take (hi * e)).drop (lo * e)) := by
    refine ⟨hvl', ?_⟩
    rcases hrow.2 with ⟨e1, e2⟩ | ⟨g, off, c, cur, e1, hg, hnc', hm', hsz, htk⟩
    · rw [hB] at e1
      simp only [Value.slice.injEq] at e1
      obtain ⟨rfl, -, rfl⟩ := e1
      obtain rfl : hi = 0 := by omega
      obtain rfl : lo = 0 := by omega
      exact .inl ⟨by rw [hv]; rfl, rfl⟩
    · rw [hB] at e1
      cases e1
      by_cases hcl : cap = lo
      · subst hcl
        obtain rfl : hi = cap := by omega
        refine .inr ⟨g, off, 0, cur, by rw [hv]; simp, hg, by omega, by omega, by omega, ?_⟩
        rw [Nat.sub_self, Nat.zero_mul, List.take_zero]
        exact (List.eq_nil_of_length_eq_zero (by rw [hvl']; simp)).symm
      · have hcs : (cap - lo) * e = cap * e - lo * e := Nat.sub_mul ..
        have hle3 : lo * e ≤ cap * e := Nat.mul_le_mul_right e (by omega)
        refine .inr ⟨g, off + lo * e, cap - lo, cur, by rw [hv, if_neg hcl]; simp [Addr.add], hg, by omega, by omega, by omega, ?_⟩
        rw [← htk, List.take_take, Nat.min_eq_left (by omega), List.drop_take, List.drop_drop, ← hsub]
  have hob : v'.ownBlock = (B id).ownBlock ∨ v'.ownBlock = none := by
    rw [hv, hB]
    cases ad with
    | none => right; split <;> rfl
    | some z =>
      left
      split
      · rfl
      · obtain ⟨zb, zo, zs⟩ := z
        simp only [Value.ownBlock, Addr.add, Option.map_some]
        split <;> rfl
  have hflat : flat ((xs.take hi).drop lo) = ((flat xs).take (hi * e)).drop (lo * e) := by
    have ft : ∀ (k : Nat) (l : List (List C)), (∀ x ∈ l, x.length = e) → flat (l.take k) = (flat l).take (k * e) := by
      intro k
      induction k with
      | zero => intro l _; simp [flat]
      | succ k ih =>
        intro l hl
        cases l with
        | nil => simp [flat]
        | cons x l =>
          have hx := hl x (by simp)
          have := ih l (fun y hy => hl y (List.mem_cons_of_mem _ hy))
          have hk : (k + 1) * e = e + k * e := by rw [Nat.add_mul]; omega
          simp only [flat, List.take_succ_cons, List.flatten_cons] at this ⊢
          have h1 : x.length ≤ e + k * e := by omega
          have h2 : e + k * e - x.length = k * e := by omega
          rw [this, hk, List.take_append, List.take_of_length_le h1, h2]
    have fd : ∀ (k : Nat) (l : List (List C)), (∀ x ∈ l, x.length = e) → flat (l.drop k) = (flat l).drop (k * e) := by
      intro k
      induction k with
      | zero => intro l _; simp [flat]
      | succ k ih =>
        intro l hl
        cases l with
        | nil => simp [flat]
        | cons x l =>
          have hx := hl x (by simp)
          have := ih l (fun y hy => hl y (List.mem_cons_of_mem _ hy))
          have hk : (k + 1) * e = e + k * e := by rw [Nat.add_mul]; omega
          simp only [flat, List.drop_succ_cons, List.flatten_cons] at this ⊢
          have h1 : x.length ≤ e + k * e := by omega
          have h2 : e + k * e - x.length = k * e := by omega
          rw [this, hk, List.drop_append, List.drop_eq_nil_of_le h1, h2, List.nil_append]
    rw [fd _ _ (fun x hx => hlx x (List.mem_of_mem_take hx)), ft _ _ hlx]
  have hm' := hm.reval (id := id) (o' := .mrow ty e ((xs.take hi).drop lo)) (v' := v') (w' := w) (I' := I) hj rfl rfl rfl (Nat.le_refl _) (fun _ _ _ => rfl)
    (fun k hk => by
      have hk : (upd B id v' id).ownBlock = some k := hk
      rw [upd_same] at hk
      rcases hob with q | q
      · rw [q] at hk; exact ⟨(hm.low id _ hj k hk).2, .inl hk⟩
      · rw [q] at hk; cases hk)
    (Ext.refl _ _) (fun b p hp => .inl hp)
    ⟨_, by rw [upd_same, hlen]; exact hrow', by rw [hflat]; exact (hvs.take _).drop _, fun x hx => hlx x (List.mem_of_mem_take (List.mem_of_mem_drop hx)), fun b hb p hp => by
      rw [upd_same] at hb
      rcases hob with q | q
      · rw [q] at hb; exact hno b hb p hp
      · rw [q] at hb; cases hb⟩ (fun i hi => by simp [O.ids] at hi)
  have hwf := killW hr.wf hj (o' := .mrow ty e ((xs.take hi).drop lo)) (fun i hi => by simp [O.ids] at hi) t (.own id) (fun i hi => by simp [A.ids] at hi; subst hi; simp [hj])
  refine ⟨⟨_, I, hm', hx0, fun j hj' => ?_, fun t' => ?_⟩, hwf.ids, hr.size, hr.nn, ?_, fun j hj' => ?_⟩
  · rw [upd_ne _ _ (fun e => by subst e; exact hkp hj')]; exact hkp0 j hj'
  · by_cases htt : t' = t
    · subst htt
      show RV _ _ _ (upd _ t' _ t') _
      rw [upd_same, hv']
      obtain ⟨ad', cp', q, -⟩ := hrow'.shape
      exact ⟨(upd_same ..).symm, _, _, _, q⟩
    · show RV _ _ _ (upd _ t _ t') _
      rw [upd_ne _ _ htt]
      rcases (A.kill_ids (id := id) (a := st.s t')).2 with q | ⟨q, hnn⟩
      · rw [killS_app, q]; trivial
      · rw [killS_app, q]
        exact (hs t').mono (Ext.refl _ _) fun j hj => upd_ne _ _ (fun e => hnn (e ▸ hj))
  · show a.defers = dfs (upd (killS id st.s) t (.own id) DID) ++ ds
    rw [upd_ne _ _ (fun q => htn q.symm), killS_app, dfs_kill]; exact hr.defs
  · have := hr.kept j hj'
    show (upd (killM id st.m) id _ j).isSome = true
    unfold upd; split
    · rfl
    · simpa [killM_app] using this
omit hT in
theorem W.rewin {R : Ref} {n : Nat} {ds : List Deferred} {st : St} {c : Code} {K : Exit → St → Prop} (t id : Nat) {ty e lo hi : Nat} {xs : List (List C)} (htn : t ≠ DID) (ht : st.s t = .win id e lo hi) (hj : st.m id = some (.mrow ty e xs)) (hh : hi ≤ xs.length) (hkp : ¬ R.keep id)
    (h : W P R n ds ⟨upd (killS id st.s) t (.own id), upd (killM id st.m) id (some (.mrow ty e ((xs.take hi).drop lo)))⟩ c K) : W P R n ds st c K :=
  fun a w hr => h a w (hr.rewin t id htn ht hj hh hkp)
theorem runk_put {base : Nat} {o : Oper} {l : List Oper} {st : St} {k : St → Prop} {t : Nat} {x kx v : Operand} {j kt e : Nat} {key y : A1} {ents : List (A1 × A1)} {r : Option (Nat × A1)} (h : wantA ops o st.s = some true) (hop : o.op = .mapUpdate t x kx v ∨ o.op = .insert t x kx v) (hd : o.dst = none)
    (hx : ev st.s x = .map j) (hm : st.m j = some (.map ents)) (h1 : T.map t = some (kt, e)) (hk : toKey (ev st.s kx) = some key) (hkt : keyTy T kt key = true) (hv : valA (ev st.s v) = some y) (hf : findE key ents = some r)
    (ht2 : RunK P T kp base ops l ⟨st.s, upd st.m j (some (.map (putE key y ents r)))⟩ k) : RunK P T kp base ops (o :: l) st k :=
  runk_step (.eff (eff_put hT ⟨h, hop, hd, hx, hm, h1, hk, hkt, hv, hf⟩)) ht2
end V
end Go.Proofs.YtcldeoolglhdoaaDoor
end
section
set_option linter.unusedVariables false
set_option linter.unusedSimpArgs false
namespace Go.Proofs.YtcldeoolglhdoaaDoor
namespace V
open Go.RowKit G
def cE (e : Int × Int) : List C := [.int .i64 e.1, .int .i64 e.2]
def cZ (z : Int) : List C := [.int .i64 z]
theorem idxInt_ok (l : List Int) (f : FuncId) (caps : List (List C)) (p : Int → Bool) (hlen : l.length ≤ 1000000000000) (hk : ∀ x ∈ l, ∀ m, COk Tryd.prog f (.c (.int .i64 x) :: caps.map A.rptr) m (.c (.bool (p x)))) (m : Mem) : COk Tryd.prog 47 [.c (.sl (l.map cZ)), .fnR f caps] m (.c (.int .i64 (idxB p l))) := by
  refine (ok_pure tab_ok Tryd.func47 (by kernel_rfl) rfl rfl (by rfl) (by rfl) (by rfl) (fun R hkeep => ?_) m)
  repeat (first | refine W.seq ?_ | refine W.block ?_ | refine W.skip ?_ | refine W.exit ?_ | refine W.region tab_ok 0 (by decide) (exec_run (by simp only [exa, beq_self_eq_true, ByteArray.size, Nat.reduceAdd, Nat.reduceLeDiff, Nat.reduceEqDiff, Nat.reduceMul, Int.reduceToNat, reduceIte, Int.reduceLE, Int.reduceNeg]; rfl)) ?_)
  refine W.loop (ι := Nat) (fun k => ⟨upd (upd (upd (upd (upd (fun _ => .top) 0 (.c (.sl (l.map cZ)))) 1 (.fnR f caps)) 4 (.c (.int .i64 0))) 7 (.c (.int .i64 l.length))) 8 (.c (.int .i64 k)), Mem.nil⟩) (fun k => k ≤ l.length ∧ (l.take k).any p = false) (fun k => l.length - k) 0 ?start ⟨Nat.zero_le _, rfl⟩ ?round
  case start =>
    refine le_mk ?sle ?mle ?swf ?mwf ?kept (by rfl)
    case kept => exact kept_not hkeep
    case swf => repeat (first | exact swf_top _ | refine swf_upd ?_ (by simp [A.ids, upd_app]))
    case mwf => repeat (first | exact mwf_nil _ | refine mwf_upd ?_ (by simp [A.ids, O.ids, upd_app]))
    case mle => repeat (first | exact mle_nil _ | exact mle_refl _ | refine mle_upd ?_ (by first | rfl | (simp only [upd_app, killM_app, Nat.reduceEqDiff, reduceIte]; done)))
    case sle => repeat (first | exact sle_top _ | exact sle_refl _ | refine sle_upd ?_ (by first | rfl | (simp only [upd_app, entry_zero, entry_succ, Nat.reduceEqDiff, reduceIte]; done)))
  case round =>
    rintro k ⟨hkl, hno⟩
    repeat (first | refine W.seq ?_ | refine W.block ?_ | refine W.skip ?_ | refine W.exit ?_ | refine W.region tab_ok 0 (by decide) (exec_run (by simp only [exa, beq_self_eq_true, ByteArray.size, Nat.reduceAdd, Nat.reduceLeDiff, Nat.reduceEqDiff, Nat.reduceMul, Int.reduceToNat, reduceIte, Int.reduceLE, Int.reduceNeg]; rfl)) ?_)
    refine W.cond rfl ?_ ?_
    · intro hlt
      simp only [decide_eq_true_eq, Int.ofNat_lt] at hlt
      obtain ⟨x, hx⟩ : ∃ x, l[k]? = some x := ⟨_, List.getElem?_eq_getElem hlt⟩
      repeat (first | refine W.seq ?_ | refine W.block ?_ | refine W.skip ?_ | refine W.exit ?_ | refine W.region tab_ok 0 (by decide) (exec_run (by simp only [exa, beq_self_eq_true, ByteArray.size, Nat.reduceAdd, Nat.reduceLeDiff, Nat.reduceEqDiff, Nat.reduceMul, Int.reduceToNat, reduceIte, Int.reduceLE, Int.reduceNeg]; rfl)) ?_)
      refine W.regionK tab_ok 0 (by decide) ?_
      refine runk_split 5 (by simp only [exa, beq_self_eq_true, ByteArray.size, Nat.reduceAdd, Nat.reduceLeDiff, Nat.reduceEqDiff, Nat.reduceMul, Int.reduceToNat, reduceIte, Int.reduceLE, Int.reduceNeg, at_map hx, cZ]; rfl) ?_
      refine runk_callF rfl rfl rfl rfl rfl (cvs_cons cv_refl (cvs_caps _)) (hk x (List.mem_of_getElem? hx) _) ?_
      refine runk_exec (by simp only [exa, beq_self_eq_true, ByteArray.size, Nat.reduceAdd, Nat.reduceLeDiff, Nat.reduceEqDiff, Nat.reduceMul, Int.reduceToNat, reduceIte, Int.reduceLE, Int.reduceNeg]; rfl) ?_
      refine W.cond rfl ?_ ?_
      · intro hp
        repeat (first | refine W.seq ?_ | refine W.block ?_ | refine W.skip ?_ | refine W.exit ?_ | refine W.region tab_ok 0 (by decide) (exec_run (by simp only [exa, beq_self_eq_true, ByteArray.size, Nat.reduceAdd, Nat.reduceLeDiff, Nat.reduceEqDiff, Nat.reduceMul, Int.reduceToNat, reduceIte, Int.reduceLE, Int.reduceNeg]; rfl)) ?_)
        refine W.ret ⟨.inr rfl, by rfl, ?_⟩
        simp only [Tryd.f47, resA, resOne, toT, fin, exa, beq_self_eq_true, ByteArray.size, Nat.reduceAdd, Nat.reduceLeDiff, Nat.reduceEqDiff, Nat.reduceMul, Int.reduceToNat, reduceIte, Int.reduceLE, Int.reduceNeg]
        rw [idxB_at hno hx hp]
      · intro hp
        repeat (first | refine W.seq ?_ | refine W.block ?_ | refine W.skip ?_ | refine W.exit ?_ | refine W.region tab_ok 0 (by decide) (exec_run (by simp only [exa, beq_self_eq_true, ByteArray.size, Nat.reduceAdd, Nat.reduceLeDiff, Nat.reduceEqDiff, Nat.reduceMul, Int.reduceToNat, reduceIte, Int.reduceLE, Int.reduceNeg]; rfl)) ?_)
        refine ⟨k + 1, ⟨hlt, ?_⟩, by omega, ?_⟩
        · rw [List.take_add_one, hx, List.any_append, hno]; simp [hp]
        refine le_mk ?sle ?mle ?swf ?mwf ?kept (by rfl)
        case kept => exact kept_not hkeep
        case swf => repeat (first | exact swf_top _ | refine swf_upd ?_ (by simp [A.ids, upd_app]))
        case mwf => repeat (first | exact mwf_nil _ | refine mwf_upd ?_ (by simp [A.ids, O.ids, upd_app]))
        case mle => repeat (first | exact mle_nil _ | exact mle_refl _ | refine mle_upd ?_ (by first | rfl | (simp only [upd_app, killM_app, Nat.reduceEqDiff, reduceIte, wrap_succ (show k + 1 < 9223372036854775808 by omega)]; done)))
        case sle => repeat (first | exact sle_top _ | exact sle_refl _ | refine sle_upd ?_ (by first | rfl | (simp only [upd_app, entry_zero, entry_succ, Nat.reduceEqDiff, reduceIte, wrap_succ (show k + 1 < 9223372036854775808 by omega)]; done)))
    · intro hge
      simp only [decide_eq_false_iff_not, Int.ofNat_lt] at hge
      obtain rfl : k = l.length := by omega
      rw [List.take_length] at hno
      repeat (first | refine W.seq ?_ | refine W.block ?_ | refine W.skip ?_ | refine W.exit ?_ | refine W.region tab_ok 0 (by decide) (exec_run (by simp only [exa, beq_self_eq_true, ByteArray.size, Nat.reduceAdd, Nat.reduceLeDiff, Nat.reduceEqDiff, Nat.reduceMul, Int.reduceToNat, reduceIte, Int.reduceLE, Int.reduceNeg]; rfl)) ?_)
      refine W.ret ⟨.inr rfl, by rfl, ?_⟩
      simp only [Tryd.f47, resA, resOne, toT, fin, exa, beq_self_eq_true, ByteArray.size, Nat.reduceAdd, Nat.reduceLeDiff, Nat.reduceEqDiff, Nat.reduceMul, Int.reduceToNat, reduceIte, Int.reduceLE, Int.reduceNeg]
      rw [idxB_none hno]
theorem anyInt_ok (l : List Int) (f : FuncId) (caps : List (List C)) (p : Int → Bool) (hlen : l.length ≤ 1000000000000) (hk : ∀ x ∈ l, ∀ m, COk Tryd.prog f (.c (.int .i64 x) :: caps.map A.rptr) m (.c (.bool (p x)))) (m : Mem) : COk Tryd.prog 34 [.c (.sl (l.map cZ)), .fnR f caps] m (.c (.bool (l.any p))) := by
  refine (ok_pure tab_ok Tryd.func34 (by kernel_rfl) rfl rfl (by rfl) (by rfl) (by rfl) (fun R hkeep => ?_) m)
  repeat (first | refine W.seq ?_ | refine W.block ?_ | refine W.skip ?_ | refine W.exit ?_ | refine W.region tab_ok 0 (by decide) (exec_run (by simp only [exa, beq_self_eq_true, ByteArray.size, Nat.reduceAdd, Nat.reduceLeDiff, Nat.reduceEqDiff, Nat.reduceMul, Int.reduceToNat, reduceIte, Int.reduceLE, Int.reduceNeg]; rfl)) ?_)
  refine W.regionK tab_ok 0 (by decide) ?_
  refine runk_split 2 (by simp only [exa, beq_self_eq_true, ByteArray.size, Nat.reduceAdd, Nat.reduceLeDiff, Nat.reduceEqDiff, Nat.reduceMul, Int.reduceToNat, reduceIte, Int.reduceLE, Int.reduceNeg]; rfl) ?_
  refine runk_call rfl rfl rfl rfl rfl (by simp) (cvs_cons cv_refl (cvs_cons cv_refl cvs_nil)) (idxInt_ok l f caps p hlen hk _) ?_
  refine runk_exec (by simp only [exa, beq_self_eq_true, ByteArray.size, Nat.reduceAdd, Nat.reduceLeDiff, Nat.reduceEqDiff, Nat.reduceMul, Int.reduceToNat, reduceIte, Int.reduceLE, Int.reduceNeg]; rfl) ?_
  repeat (first | refine W.seq ?_ | refine W.block ?_ | refine W.skip ?_ | refine W.exit ?_ | refine W.region tab_ok 0 (by decide) (exec_run (by simp only [exa, beq_self_eq_true, ByteArray.size, Nat.reduceAdd, Nat.reduceLeDiff, Nat.reduceEqDiff, Nat.reduceMul, Int.reduceToNat, reduceIte, Int.reduceLE, Int.reduceNeg]; rfl)) ?_)
  refine W.ret ⟨.inr rfl, by rfl, ?_⟩
  simp only [Tryd.f34, resA, resOne, toT, fin, exa, beq_self_eq_true, ByteArray.size, Nat.reduceAdd, Nat.reduceLeDiff, Nat.reduceEqDiff, Nat.reduceMul, Int.reduceToNat, reduceIte, Int.reduceLE, Int.reduceNeg]
  rw [idxB_dec p l]
end V
end Go.Proofs.YtcldeoolglhdoaaDoor
end
section
set_option linter.unusedVariables false
set_option linter.unusedSimpArgs false
namespace Go.Proofs.YtcldeoolglhdoaaDoor
namespace V
open Go.RowKit
theorem cellsAt_get {w : World} {b : Nat} : ∀ {cs : List Value} {o : Nat}, cellsAt w b o cs → ∀ (j : Nat) v, cs[j]? = some v → w.cell? ⟨b, o + j, none⟩ = some v
  | [], _, _, j, v, h => by simp at h
  | u :: cs, o, h, 0, v, hv => by simp at hv; subst hv; exact h.1
  | u :: cs, o, h, j + 1, v, hv => by
    have := cellsAt_get h.2 j v (by simpa using hv)
    rwa [show o + (j + 1) = o + 1 + j by omega]
section
variable {w : World} {I : Nat → Nat → Prop}
theorem rsl_rc {α : Type} {f : α → List C} {sz : Nat} {R : List Value → α → Prop} {J : Nat → Prop} {v : Value} {l : List α} (hI : ∀ b o, J b → I b o) (hR : ∀ cs x, x ∈ l → R cs x → cs.length = sz ∧ RCs w I cs (f x)) (h : RSl sz R w J v l) : RC w I v (.sl (l.map f)) := by
  obtain ⟨a, n, cap, rfl, h1, h2, h3, h4⟩ := h
  have hch : ∀ (i : Nat) x, l[i]? = some x → ∃ cs : List Value, ∃ b off, a = some ⟨b, off, none⟩ ∧ J b ∧ cellsAt w b (off + i * sz) cs ∧ cs.length = sz ∧ RCs w I cs (f x) := fun i x hx => by
    obtain ⟨b, off, cs, e1, e2, e3, e4⟩ := h4 i x hx
    obtain ⟨e5, e6⟩ := hR cs x (List.mem_of_getElem? hx) e4
    exact ⟨cs, b, off, e1, e2, e3, e5, e6⟩
  obtain ⟨g, hg⟩ : ∃ g : Nat → List Value, ∀ (i : Nat) x, l[i]? = some x → ∃ b off, a = some ⟨b, off, none⟩ ∧ J b ∧ cellsAt w b (off + i * sz) (g i) ∧ (g i).length = sz ∧ RCs w I (g i) (f x) := by
    have : ∀ i, ∃ g : List Value, ∀ x, l[i]? = some x → ∃ b off, a = some ⟨b, off, none⟩ ∧ J b ∧ cellsAt w b (off + i * sz) g ∧ g.length = sz ∧ RCs w I g (f x) := fun i => by
      cases hx : l[i]? with
      | none => exact ⟨[], fun x h => by cases h⟩
      | some x =>
        obtain ⟨cs, b, off, q⟩ := hch i x hx
        exact ⟨cs, fun y hy => by cases hy; exact ⟨b, off, q⟩⟩
    exact Classical.skolem.1 this
  have el : ∀ (i : Nat) y, (l.map f)[i]? = some y → ∃ x, l[i]? = some x ∧ y = f x := fun i y hy => by
    rw [List.getElem?_map] at hy
    cases hx : l[i]? with
    | none => rw [hx] at hy; cases hy
    | some x => rw [hx] at hy; exact ⟨x, rfl, (Option.some.inj hy).symm⟩
  refine .sl (e := sz) (fun i j => (g i).getD j undef) (by simpa using h1) h2 (by unfold maxLen; unfold maxS at h3; omega) (fun y hy => ?_) (fun i y hy => ?_) (fun i j y c hy hc => ?_)
  · obtain ⟨i, hi⟩ := List.getElem?_of_mem hy
    obtain ⟨x, hx, rfl⟩ := el i y hi
    obtain ⟨b, off, -, -, -, q1, q2⟩ := hg i x hx
    rw [← q2.length, q1]
  · obtain ⟨x, hx, rfl⟩ := el i y hy
    obtain ⟨b, off, q1, q2, q3, q4, -⟩ := hg i x hx
    refine ⟨b, off, q1, fun j hj => ⟨hI b _ q2, ?_⟩⟩
    have hj' : j < (g i).length := by omega
    rw [cellsAt_get q3 j _ (List.getElem?_eq_getElem hj')]
    simp [hj']
  · obtain ⟨x, hx, rfl⟩ := el i y hy
    obtain ⟨b, off, -, -, -, -, q2⟩ := hg i x hx
    obtain ⟨u, h5, h6⟩ := q2.at j c hc
    simp [h5]; exact h6
end
section
variable {H : Type} {enc : TypeId × Value → H} {w : World} {held : Bool}
theorem bulk_one (d : DataW H) : 1 ≤ Rows.uptoBulk d := by
  cases d with
  | lit l => cases l <;> simp [Rows.uptoBulk]
  | _ => simp [Rows.uptoBulk]
theorem bulk_mem {d : DataW H} {l : List (DataW H)} (h : d ∈ l) : Rows.uptoBulk d ≤ Rows.uptoBulkAll l := by
  induction l with
  | nil => cases h
  | cons x r ih =>
    simp only [Rows.uptoBulkAll]
    rcases List.mem_cons.1 h with rfl | e
    · omega
    · have := ih e; omega
theorem bulk_len (l : List (DataW H)) : l.length ≤ Rows.uptoBulkAll l := by
  induction l with
  | nil => simp [Rows.uptoBulkAll]
  | cons x r ih => have := bulk_one x; simp only [Rows.uptoBulkAll, List.length_cons]; omega
theorem cells_same {b off : Nat} {cs cs' : List Value} (h : cellsAt w b off cs) (k : ∀ i, i < cs'.length → w.cell? ⟨b, off + i, none⟩ = cs'[i]?) (hl : cs.length = cs'.length) : cs = cs' := by
  refine List.ext_getElem? fun i => ?_
  by_cases hi : i < cs.length
  · have h1 := cellsAt_get h i _ (List.getElem?_eq_getElem hi)
    have h2 := k i (by omega)
    rw [List.getElem?_eq_getElem hi, ← h2, ← h1]
  · rw [List.getElem?_eq_none (by omega), List.getElem?_eq_none (by omega)]
theorem slice_bulk {α : Type} {P : Go.Program} {t e : TypeId} {sz fuel : Nat} {v : Value} {x : DataW H × List MemPlace} {R : List Value → α → Prop} {J : Nat → Prop} {l : List α} (ht : P.underlying t = some (.slice e)) (hsz : P.cellsOf e = sz) (hpos : 0 < sz)
    (hlen : ∀ cs y, R cs y → cs.length = sz) (h : DataW.trod enc P w 0 (fun _ => true) held fuel t [v] = some x) (hR : RSl sz R w J v l) :
    l.length ≤ Rows.uptoBulk x.1 ∧ ∀ y ∈ l, ∃ n cs z, R cs y ∧ DataW.trod enc P w 0 (fun _ => true) held n e cs = some z ∧ Rows.uptoBulk z.1 ≤ Rows.uptoBulk x.1 := by
  obtain ⟨a, n, cap, rfl, hn, -, -, hel⟩ := hR
  rcases DataW.trod_slice ht h with ⟨e1, rfl⟩ | ⟨a', len, cap', elems, rest, m, -, e1, hxe, -, -, -, hlen', hall, -, -⟩
  · simp only [List.cons.injEq, Value.slice.injEq, and_true] at e1
    obtain ⟨-, rfl, -⟩ := e1
    obtain rfl : l = [] := List.length_eq_zero_iff.1 hn
    exact ⟨Nat.zero_le _, fun y hy => by cases hy⟩
  · simp only [List.cons.injEq, Value.slice.injEq, and_true] at e1
    obtain ⟨rfl, rfl, rfl⟩ := e1
    subst hxe
    have hb : Rows.uptoBulkAll (elems.map (·.1)) ≤ Rows.uptoBulk (DataW.slice (elems.map (·.1)) (rest.map (·.1))) := by simp only [Rows.uptoBulk]; omega
    refine ⟨?_, fun y hy => ?_⟩
    · refine Nat.le_trans ?_ hb
      have := bulk_len (elems.map (·.1))
      rw [List.length_map] at this
      omega
    · obtain ⟨i, hi⟩ := List.getElem?_of_mem hy
      have hil := (List.getElem?_eq_some_iff.1 hi).1
      obtain ⟨b, off, cs, ea, -, hc, hr⟩ := hel i y hi
      cases ea
      have h1 := hall i (by omega)
      rw [hsz] at h1
      have hz : ∃ z, elems[i]? = some z := ⟨elems[i]'(by omega), List.getElem?_eq_getElem (by omega)⟩
      obtain ⟨z, hz⟩ := hz
      rw [hz] at h1
      cases hcell : w.cells? 0 ((⟨b, off, none⟩ : Addr).add (i * sz)) sz with
      | none => rw [hcell] at h1; simp at h1
      | some cs' =>
        rw [hcell] at h1
        have h1' : DataW.trod enc P w 0 (fun _ => true) held m e cs' = some z := by simpa using h1
        obtain ⟨_, hlen2, hcs⟩ := World.cells?_some hcell
        have : cs = cs' := cells_same hc (fun j hj => by
          have := hcs j (by omega)
          rw [← this]
          congr 1
          have h3 : ∀ (o k : Nat), (⟨b, o, none⟩ : Addr).add k = ⟨b, o + k, none⟩ := fun o k => by
            unfold Addr.add
            by_cases hk : k = 0
            · subst hk; rfl
            · simp [hk]
          rw [h3, h3]) (by rw [hlen _ _ hr, hlen2])
        subst this
        exact ⟨m, cs, z, hr, h1', Nat.le_trans (bulk_mem (List.mem_map_of_mem (List.mem_of_getElem? hz))) hb⟩
theorem rv_int {B : Nat → Value} {z : Int} (h : (Lit.int .i64 z).wf = true) : RV B w (fun b _ => b < w.heap.size) (.c (.int .i64 z)) (.int .i64 z) := .int h
theorem ints_bulk {n : Nat} {v : Value} {x : DataW H × List MemPlace} {l : List Int} (h : DataW.trod enc Tryd.prog w 0 (fun _ => true) held n 38 [v] = some x) (hR : RSl 1 RInt w (· < w.heap.size) v l) : l.length ≤ Rows.uptoBulk x.1 :=
  (slice_bulk Tryd.underlying38 c_int (by decide) (fun cs y hy => by obtain ⟨rfl, -⟩ := hy; rfl) h hR).1
end
end V
end Go.Proofs.YtcldeoolglhdoaaDoor
end
section
set_option linter.unusedVariables false
set_option linter.unusedSimpArgs false
namespace Go.Proofs.YtcldeoolglhdoaaDoor
open C17
section
variable {H : Type} {enc : TypeId × Value → H} {w : World} {held : Bool}
def wfI (z : Int) : Prop := (Lit.int .i64 z).wf = true
def RIns (w : World) (J : Nat → Prop) (cs : List Value) (x : Ins) : Prop :=
  ∃ v, cs = [.int .i64 x.kind, .int .i64 x.dst, .int .i64 x.a, .int .i64 x.b, .int .i64 x.c, .int .i64 x.tt, .int .i64 x.els, .int .i64 x.num, .string x.name, v] ∧
    (wfI x.kind ∧ wfI x.dst ∧ wfI x.a ∧ wfI x.b ∧ wfI x.c ∧ wfI x.tt ∧ wfI x.els ∧ wfI x.num) ∧ x.name.size ≤ maxS ∧ RSl 1 RInt w J v x.args
theorem fieldsIns : (Tryd.prog.underlying 41).map (fun d => match d with | .struct fs => fs.toList.map (fun f => (f.type, f.offset)) | _ => []) = some [(3, 0), (3, 1), (3, 2), (3, 3), (3, 4), (3, 5), (3, 6), (2, 7), (9, 8), (38, 9)] := by kernel_rfl
theorem c_ins : Tryd.prog.cellsOf 41 = 10 := by kernel_rfl
theorem c_i64 : Tryd.prog.cellsOf 2 = 1 := by kernel_rfl
theorem c_str : Tryd.prog.cellsOf 9 = 1 := by kernel_rfl
theorem c_intsP : Tryd.prog.cellsOf 38 = 1 := by kernel_rfl
theorem len10 {l : List Value} (h : l.length = 10) : ∃ v0 v1 v2 v3 v4 v5 v6 v7 v8 v9, l = [v0, v1, v2, v3, v4, v5, v6, v7, v8, v9] := by
  match l, h with
  | [v0, v1, v2, v3, v4, v5, v6, v7, v8, v9], _ => exact ⟨v0, v1, v2, v3, v4, v5, v6, v7, v8, v9, rfl⟩
theorem len5 {l : List Value} (h : l.length = 5) : ∃ v0 v1 v2 v3 v4, l = [v0, v1, v2, v3, v4] := by
  match l, h with
  | [v0, v1, v2, v3, v4], _ => exact ⟨v0, v1, v2, v3, v4, rfl⟩
theorem read_ins {n : Nat} {cs : List Value} {y : DataW H × List MemPlace} (hfit : Fits Tryd.prog 41 y.1) (h : DataW.trod enc Tryd.prog w 0 (fun _ => true) held n 41 cs = some y) : ∃ x : Ins, RIns w (· < w.heap.size) cs x := by
  obtain ⟨hl, m, _, hall⟩ := read_struct fieldsIns (by simp) hfit h
  rw [c_ins] at hl
  obtain ⟨v0, v1, v2, v3, v4, v5, v6, v7, v8, v9, rfl⟩ := len10 hl
  obtain ⟨y0, h0, f0⟩ := hall (3, 0) (by simp)
  obtain ⟨y1, h1, f1⟩ := hall (3, 1) (by simp)
  obtain ⟨y2, h2, f2⟩ := hall (3, 2) (by simp)
  obtain ⟨y3, h3, f3⟩ := hall (3, 3) (by simp)
  obtain ⟨y4, h4, f4⟩ := hall (3, 4) (by simp)
  obtain ⟨y5, h5, f5⟩ := hall (3, 5) (by simp)
  obtain ⟨y6, h6, f6⟩ := hall (3, 6) (by simp)
  obtain ⟨y7, h7, f7⟩ := hall (2, 7) (by simp)
  obtain ⟨y8, h8, f8⟩ := hall (9, 8) (by simp)
  obtain ⟨y9, h9, f9⟩ := hall (38, 9) (by simp)
  rw [cellsOf_one _ c_int _ _ _ rfl] at h0 h1 h2 h3 h4 h5 h6
  rw [cellsOf_one _ c_i64 _ _ _ rfl] at h7
  rw [cellsOf_one _ c_str _ _ _ rfl] at h8
  rw [cellsOf_one _ c_intsP _ _ _ rfl] at h9
  obtain ⟨s0, e0, -, l0⟩ := DataW.trod_int Tryd.underlying3 h0
  obtain ⟨s1, e1, -, l1⟩ := DataW.trod_int Tryd.underlying3 h1
  obtain ⟨s2, e2, -, l2⟩ := DataW.trod_int Tryd.underlying3 h2
  obtain ⟨s3, e3, -, l3⟩ := DataW.trod_int Tryd.underlying3 h3
  obtain ⟨s4, e4, -, l4⟩ := DataW.trod_int Tryd.underlying3 h4
  obtain ⟨s5, e5, -, l5⟩ := DataW.trod_int Tryd.underlying3 h5
  obtain ⟨s6, e6, -, l6⟩ := DataW.trod_int Tryd.underlying3 h6
  obtain ⟨s7, e7, -, l7⟩ := DataW.trod_int Tryd.underlying2 h7
  obtain ⟨s8, e8, g8, -⟩ := DataW.trod_string Tryd.underlying9 h8
  have l8 : s8.size ≤ maxS := fit_string g8 f8
  obtain ⟨v, l, e9, hr⟩ := read_ints f9 h9
  simp only [List.cons.injEq, and_true] at e0 e1 e2 e3 e4 e5 e6 e7 e8 e9
  subst e0 e1 e2 e3 e4 e5 e6 e7 e8 e9
  exact ⟨⟨s0, s1, s2, s3, s4, s5, s6, s7, s8, l⟩, _, rfl, ⟨l0, l1, l2, l3, l4, l5, l6, l7⟩, l8, hr⟩
def RProc (w : World) (J : Nat → Prop) (cs : List Value) (p : Prc) : Prop :=
  ∃ v, cs = [.string p.cls, .string p.name, .int .i64 p.params, .int .i64 p.regs, v] ∧ p.cls.size ≤ maxS ∧ p.name.size ≤ maxS ∧ wfI p.params ∧ wfI p.regs ∧ RSl 10 (RIns w J) w J v p.code
theorem fieldsPrc : (Tryd.prog.underlying 24).map (fun d => match d with | .struct fs => fs.toList.map (fun f => (f.type, f.offset)) | _ => []) = some [(9, 0), (9, 1), (3, 2), (3, 3), (22, 4)] := by kernel_rfl
theorem c_prc : Tryd.prog.cellsOf 24 = 5 := by kernel_rfl
theorem c_inss : Tryd.prog.cellsOf 22 = 1 := by kernel_rfl
theorem read_proc {n : Nat} {cs : List Value} {y : DataW H × List MemPlace} (hfit : Fits Tryd.prog 24 y.1) (h : DataW.trod enc Tryd.prog w 0 (fun _ => true) held n 24 cs = some y) : ∃ p : Prc, RProc w (· < w.heap.size) cs p := by
  obtain ⟨hl, m, _, hall⟩ := read_struct fieldsPrc (by simp) hfit h
  rw [c_prc] at hl
  obtain ⟨v0, v1, v2, v3, v4, rfl⟩ := len5 hl
  obtain ⟨y0, h0, f0⟩ := hall (9, 0) (by simp)
  obtain ⟨y1, h1, f1⟩ := hall (9, 1) (by simp)
  obtain ⟨y2, h2, f2⟩ := hall (3, 2) (by simp)
  obtain ⟨y3, h3, f3⟩ := hall (3, 3) (by simp)
  obtain ⟨y4, h4, f4⟩ := hall (22, 4) (by simp)
  rw [cellsOf_one _ c_str _ _ _ rfl] at h0 h1
  rw [cellsOf_one _ c_int _ _ _ rfl] at h2 h3
  rw [cellsOf_one _ c_inss _ _ _ rfl] at h4
  obtain ⟨s0, e0, g0, -⟩ := DataW.trod_string Tryd.underlying9 h0
  have l0 : s0.size ≤ maxS := fit_string g0 f0
  obtain ⟨s1, e1, g1, -⟩ := DataW.trod_string Tryd.underlying9 h1
  have l1 : s1.size ≤ maxS := fit_string g1 f1
  obtain ⟨s2, e2, -, l2⟩ := DataW.trod_int Tryd.underlying3 h2
  obtain ⟨s3, e3, -, l3⟩ := DataW.trod_int Tryd.underlying3 h3
  obtain ⟨v, l, e4, hr⟩ := read_slice (R := RIns w (· < w.heap.size)) Tryd.underlying22 c_ins (by decide) (of_decide_eq_true (by kernel_rfl)) f4 (fun _ _ _ _ h f => read_ins f h) h4
  simp only [List.cons.injEq, and_true] at e0 e1 e2 e3 e4
  subst e0 e1 e2 e3 e4
  exact ⟨⟨s0, s1, s2, s3, l⟩, _, rfl, l0, l1, l2, l3, hr⟩
def RBool (cs : List Value) (b : Bool) : Prop := cs = [.bool b]
theorem c_bool : Tryd.prog.cellsOf 4 = 1 := by kernel_rfl
theorem read_bools {n : Nat} {cs : List Value} {y : DataW H × List MemPlace} (hfit : Fits Tryd.prog 34 y.1) (h : DataW.trod enc Tryd.prog w 0 (fun _ => true) held n 34 cs = some y) : ∃ v l, cs = [v] ∧ RSl 1 RBool w (· < w.heap.size) v l :=
  read_slice Tryd.underlying34 c_bool (by decide) (of_decide_eq_true (by kernel_rfl)) hfit (fun _ _ _ _ h _ => by
    obtain ⟨b, e, -⟩ := DataW.trod_bool Tryd.underlying4 h
    exact ⟨b, e⟩) h
namespace V
open Go.RowKit
theorem rv_bools {B : Nat → Value} {v : Value} {l : List Bool} (h : RSl 1 RBool w (· < w.heap.size) v l) : RV B w (fun b _ => b < w.heap.size) (.c (.sl (l.map fun b => [C.bool b]))) v :=
  rsl_rc (sz := 1) (fun _ _ h => h) (fun cs x _ hx => by obtain rfl := hx; exact ⟨rfl, .bool, trivial⟩) h
theorem ins_rcs {cs : List Value} {x : Ins} (h : RIns w (· < w.heap.size) cs x) : cs.length = 10 ∧ RCs w (fun b _ => b < w.heap.size) cs (cIns x) := by
  obtain ⟨v, rfl, ⟨h1, h2, h3, h4, h5, h6, h7, h8⟩, h9, hr⟩ := h
  refine ⟨rfl, .int h1, .int h2, .int h3, .int h4, .int h5, .int h6, .int h7, .int h8, .str h9, ?_, trivial⟩
  exact rsl_rc (sz := 1) (fun _ _ h => h) (fun cs x _ hx => by obtain ⟨rfl, hw⟩ := hx; exact ⟨rfl, .int hw, trivial⟩) hr
theorem rv_proc {B : Nat → Value} {cs : List Value} {p : Prc} (h : RProc w (· < w.heap.size) cs p) : RV B w (fun b _ => b < w.heap.size) (.agg (cP p)) (.agg cs.toArray) := by
  obtain ⟨v, rfl, h1, h2, h3, h4, hr⟩ := h
  refine ⟨_, rfl, .str h1, .str h2, .int h3, .int h4, ?_, trivial⟩
  exact rsl_rc (sz := 10) (fun _ _ h => h) (fun cs x _ hx => ins_rcs hx) hr
end V
theorem proc_len {J : Nat → Prop} {cs : List Value} {p : Prc} (h : RProc w J cs p) : p.code.length ≤ 1000000000000000 := by
  obtain ⟨v, -, -, -, -, -, a, n, cap, -, h1, h2, h3, -⟩ := h
  unfold maxS at h3
  omega
end
end Go.Proofs.YtcldeoolglhdoaaDoor
end
section
set_option linter.unusedVariables false
set_option linter.unusedSimpArgs false
namespace Go.Proofs.YtcldeoolglhdoaaDoor
open Go.ChangeShapes Go.WideShapes Go.ChangeAt Go.RowKit
open V
theorem gTab : Tryd.prog.globalNamed "math/bits.deBruijn64tab" = some 0 := by kernel_rfl
theorem gTabType : (Tryd.prog.globals[0]?).map (·.type) = some 80 := by kernel_rfl
theorem cellsTab : Tryd.prog.cellsOf 80 = 64 := by kernel_rfl
theorem cellsByte : Tryd.prog.cellsOf 5 = 1 := by kernel_rfl
def tabZ : List Int := Lib.deBruijn64tab.map fun k : Nat => (k : Int)
theorem tabZ_get : ∀ j, j < 64 → tabZ.getD j 0 = ((Lib.deBruijn64tab.getD j 0 : Nat) : Int) := by decide +kernel
theorem table {W : World} (h : laidMetH Tryd.prog Rows.defsUsesRow.laid W) : V.GlobOk W := fun j hj => by
  have h1 : Lib.TabIs Tryd.prog W "math/bits.deBruijn64tab" .u8 tabZ := Lib.tabIs_of_head (rest := []) (zs := tabZ) gTab gTabType Tryd.underlying80 Tryd.underlying5 cellsByte cellsTab h
  have h2 := h1.cell gTab j hj
  rw [tabZ_get j hj] at h2
  exact h2
noncomputable def laidWorld (os : Os) : World :=
  { World.holding Tryd.prog os ⟨#[], #[], []⟩ with heap := (World.holding Tryd.prog os ⟨#[], #[], []⟩).heap.modify 0 fun
      | .cells _ t frozen => .cells (Lib.deBruijn64tab.map fun k : Nat => Value.int .u8 (k : Int)).toArray t frozen
      | o => o }
end Go.Proofs.YtcldeoolglhdoaaDoor
end
section
set_option linter.unusedVariables false
set_option linter.unusedSimpArgs false
namespace Go.Proofs.YtcldeoolglhdoaaDoor
namespace V
open Go.RowKit G C17 D18
def shpC (k : Int) : List C := [.bool (hasD k), .bool (hasA k), .bool (hasB k), .bool (hasC k), .bool (hasR k), .bool ([16, 17].contains k), .bool (decide (k = 16)), .bool ([13, 1, 4, 15, 14].contains k), .bool ([12, 7, 5, 8].contains k)]
theorem kind_cases (k : Int) : (k = 1 ∨ k = 2 ∨ k = 3 ∨ k = 4 ∨ k = 5 ∨ k = 6 ∨ k = 7 ∨ k = 8 ∨ k = 9 ∨ k = 10 ∨ k = 11 ∨ k = 12 ∨ k = 13 ∨ k = 14 ∨ k = 15 ∨ k = 16 ∨ k = 17 ∨ k = 18 ∨ k = 19) ∨ (k < 1 ∨ 19 < k) := by omega
set_option maxHeartbeats 4000000 in
theorem of_ok (k : Int) (m : Mem) : COk Tryd.prog 38 [.c (.int .i64 k)] m (.tup [(true, shpC k), (false, [.bool (decide (1 ≤ k ∧ k ≤ 19))])]) := by
  refine (ok_pure tab_ok Tryd.func38 (by kernel_rfl) rfl rfl (by rfl) (by rfl) (by rfl) (fun R hkeep => ?_) m)
  rcases kind_cases k with (rfl | rfl | rfl | rfl | rfl | rfl | rfl | rfl | rfl | rfl | rfl | rfl | rfl | rfl | rfl | rfl | rfl | rfl | rfl) | h
  case inr =>
    have e : ∀ c, 1 ≤ c → c ≤ 19 → (k = c) = False := fun c h1 h2 => eq_false (by omega)
    have e1 := e 1 (by decide) (by decide)
    have e2 := e 2 (by decide) (by decide)
    have e3 := e 3 (by decide) (by decide)
    have e4 := e 4 (by decide) (by decide)
    have e5 := e 5 (by decide) (by decide)
    have e6 := e 6 (by decide) (by decide)
    have e7 := e 7 (by decide) (by decide)
    have e8 := e 8 (by decide) (by decide)
    have e9 := e 9 (by decide) (by decide)
    have e10 := e 10 (by decide) (by decide)
    have e11 := e 11 (by decide) (by decide)
    have e12 := e 12 (by decide) (by decide)
    have e13 := e 13 (by decide) (by decide)
    have e14 := e 14 (by decide) (by decide)
    have e15 := e 15 (by decide) (by decide)
    have e16 := e 16 (by decide) (by decide)
    have e17 := e 17 (by decide) (by decide)
    have e18 := e 18 (by decide) (by decide)
    have e19 := e 19 (by decide) (by decide)
    have hs : shpC k = [.bool false, .bool false, .bool false, .bool false, .bool false, .bool false, .bool false, .bool false, .bool false] := by
      simp [shpC, hasD, hasA, hasB, hasC, hasR, e1, e2, e3, e4, e5, e6, e7, e8, e9, e10, e11, e12, e13, e14, e15, e16, e17, e18, e19]
    have hd : decide (1 ≤ k ∧ k ≤ 19) = false := decide_eq_false (by omega)
    (repeat (first | refine W.seq ?_ | refine W.block ?_ | refine W.skip ?_ | refine W.exit ?_ | refine W.cond (b := true) rfl (fun _ => ?_) (fun h => absurd h (by simp)) | refine W.cond (b := false) rfl (fun h => absurd h (by simp)) (fun _ => ?_) | refine W.region tab_ok 0 (by decide) (exec_run (by simp only [exa, beq_self_eq_true, ByteArray.size, Nat.reduceAdd, Nat.reduceLeDiff, Nat.reduceEqDiff, Nat.reduceMul, Int.reduceToNat, reduceIte, Int.reduceLE, Int.reduceNeg, e1, e2, e3, e4, e5, e6, e7, e8, e9, e10, e11, e12, e13, e14, e15, e16, e17, e18, e19, decide_false]; rfl)) ?_))
    refine W.ret ⟨.inr rfl, by rfl, ?_⟩
    simp only [Tryd.f38, resA, resOne, toT, fin, exa, beq_self_eq_true, ByteArray.size, Nat.reduceAdd, Nat.reduceLeDiff, Nat.reduceEqDiff, Nat.reduceMul, Int.reduceToNat, reduceIte, Int.reduceLE, Int.reduceNeg]
    rw [hs, hd]
  all_goals
    (repeat (first | refine W.seq ?_ | refine W.block ?_ | refine W.skip ?_ | refine W.exit ?_ | refine W.cond (b := true) rfl (fun _ => ?_) (fun h => absurd h (by simp)) | refine W.cond (b := false) rfl (fun h => absurd h (by simp)) (fun _ => ?_) | refine W.region tab_ok 0 (by decide) (exec_run (by simp only [exa, beq_self_eq_true, ByteArray.size, Nat.reduceAdd, Nat.reduceLeDiff, Nat.reduceEqDiff, Nat.reduceMul, Int.reduceToNat, reduceIte, Int.reduceLE, Int.reduceNeg, Int.reduceEq, decide_true, decide_false, eq_self]; rfl)) ?_))
    refine W.ret ⟨.inr rfl, by rfl, ?_⟩
    simp only [Tryd.f38, resA, resOne, toT, fin, exa, beq_self_eq_true, ByteArray.size, Nat.reduceAdd, Nat.reduceLeDiff, Nat.reduceEqDiff, Nat.reduceMul, Int.reduceToNat, reduceIte, Int.reduceLE, Int.reduceNeg]
    rfl
end V
end Go.Proofs.YtcldeoolglhdoaaDoor
end
section
set_option linter.unusedVariables false
set_option linter.unusedSimpArgs false
namespace Go.Proofs.YtcldeoolglhdoaaDoor
namespace V
open Go.RowKit G C17 D18
section
structure HIndex (T : Tab) (ops : Array Oper) (o : Oper) (st : St) (t : TypeId) (x y : Operand) (d : Nat) (k : IntKind) (s : ByteArray) (i : Nat) (z : Nat) : Prop where
  want : wantA ops o st.s = some true
  op : o.op = .index t x y
  dst : o.dst = some d
  str : T.str t = true
  at_ : ev st.s x = .c (.str s)
  idx : ev st.s y = .c (.int k i)
  lt : i < s.size
  byte : (s[i]'lt).toNat = z
variable {P : Go.Program} {T : Tab} (hT : T.Ok P) {kp : Nat → Prop} {ops : Array Oper}
include hT
theorem eff_index {o : Oper} {st : St} {t : TypeId} {x y : Operand} {d : Nat} {k : IntKind} {s : ByteArray} {i z : Nat} (h : HIndex T ops o st t x y d k s i z) :
    Eff P T kp ops o st ⟨upd st.s d (.c (.int .u8 z)), st.m⟩ := by
  have wf : WF st → WF ⟨upd st.s d (.c (.int .u8 z)), st.m⟩ := fun hw => ⟨fun u j hj => by
    have hj : j ∈ (upd st.s d (A.c (.int .u8 z)) u).ids := hj
    unfold upd at hj
    split at hj
    · simp [A.ids] at hj
    · exact hw.ids u j hj, hw.live⟩
  refine ⟨by rw [h.op]; rfl, wf, fun R n0 ds a w K Q hR hr hd hK => ?_⟩
  obtain ⟨B, I, hm, hx0, hkp0, hs⟩ := hr.ex
  rw [want_snd hs h.want, if_pos rfl]
  have hx := ev_rv hs x
  rw [h.at_] at hx
  obtain ⟨ex, -⟩ := RC.toStr hx
  have hy := ev_rv hs y
  rw [h.idx] at hy
  obtain ⟨ey, -⟩ := RC.toInt hy
  have hlt := h.lt
  have hrun : (execOp a.eval o).run P w = .ok (.value (.int .u8 z)) w := by
    simp only [execOp, h.op, Sem.run_bind, ex, ey, run_index_string w t s k i (hT.str _ h.str)]
    rw [dif_pos (by omega)]
    have e : (s[(i : Int).toNat]'(by simpa using hlt)).toNat = z := by simpa using h.byte
    simp only [e, Result.andThen_ok]
    rfl
  unfold Oper.wp Oper.upon
  rw [hrun]
  have hdlt : ∀ q, o.dst = some q → q < a.tmps.size := fun q hq => by rw [hr.size]; exact hd q hq
  have hz : (Lit.int .u8 (z : Int)).wf = true := by
    have := (s[i]'hlt).toNat_lt
    rw [h.byte] at this
    rw [lit_wf]; simp [IntKind.min, IntKind.max, IntKind.bits, IntKind.signed]; omega
  have hput := putS_rv (dst := o.dst) (r := A.c (.int .u8 z)) (v := .int .u8 z) hs (show RV B w I (.c (.int .u8 z)) _ from .int hz) hdlt
  rw [h.dst] at hput
  refine hK _ _ ⟨⟨B, I, hm, hx0, hkp0, by rw [h.dst]; exact hput⟩, (wf hr.wf).ids, by rw [(put_dst_size _ _ _).1]; exact hr.size, hr.nn, by
    rw [(put_dst_size _ _ _).2]
    have hdd : DID ≠ d := fun q => absurd (hd d h.dst) (Nat.not_lt.2 (q ▸ hr.nn))
    show a.defers = dfs (upd st.s d _ DID) ++ ds
    rw [upd_ne _ _ hdd]; exact hr.defs, hr.kept⟩
theorem runk_index {base : Nat} {o : Oper} {l : List Oper} {st : St} {kk : St → Prop} {t : TypeId} {x y : Operand} {d : Nat} {k : IntKind} {s : ByteArray} {i z : Nat} (h : wantA ops o st.s = some true) (hop : o.op = .index t x y) (hd : o.dst = some d) (h1 : T.str t = true)
    (hx : ev st.s x = .c (.str s)) (hy : ev st.s y = .c (.int k i)) (hl : i < s.size) (hb : (s[i]'hl).toNat = z)
    (ht2 : RunK P T kp base ops l ⟨upd st.s d (.c (.int .u8 z)), st.m⟩ kk) : RunK P T kp base ops (o :: l) st kk :=
  runk_step (.eff (eff_index hT ⟨h, hop, hd, h1, hx, hy, hl, hb⟩)) ht2
end
def prtS (k : Int) : ByteArray :=
  if k = 1 ∨ k = 13 then ⟨#[100, 110]⟩ else if k = 2 then ⟨#[100]⟩ else if k = 3 ∨ k = 6 ∨ k = 11 then ⟨#[100, 97]⟩ else if k = 4 then ⟨#[100, 97, 98, 110]⟩ else if k = 5 then ⟨#[100, 109]⟩ else if k = 7 then ⟨#[100, 97, 109]⟩ else
  if k = 8 then ⟨#[97, 98, 109]⟩ else if k = 9 then ⟨#[100, 97, 98]⟩ else if k = 10 then ⟨#[97, 98, 99]⟩ else if k = 12 then ⟨#[100, 97, 114, 109]⟩ else if k = 14 then ⟨#[97, 110]⟩ else if k = 15 then ⟨#[100, 97, 110]⟩ else
  if k = 16 then ⟨#[97, 116, 101]⟩ else if k = 17 then ⟨#[116]⟩ else if k = 18 then ⟨#[97]⟩ else ⟨#[]⟩
def hasBy (s : ByteArray) (b : Nat) : Bool := (List.range s.size).any fun i => (s.get! i).toNat == b
set_option maxHeartbeats 4000000 in
theorem parts_ok (k : Int) (m : Mem) : COk Tryd.prog 46 [.c (.int .i64 k)] m (.c (.str (prtS k))) := by
  refine (ok_pure tab_ok Tryd.func46 (by kernel_rfl) rfl rfl (by rfl) (by rfl) (by rfl) (fun R hkeep => ?_) m)
  rcases kind_cases k with (rfl | rfl | rfl | rfl | rfl | rfl | rfl | rfl | rfl | rfl | rfl | rfl | rfl | rfl | rfl | rfl | rfl | rfl | rfl) | h
  case inr =>
    have e : ∀ c, 1 ≤ c → c ≤ 19 → (k = c) = False := fun c h1 h2 => eq_false (by omega)
    have e1 := e 1 (by decide) (by decide)
    have e2 := e 2 (by decide) (by decide)
    have e3 := e 3 (by decide) (by decide)
    have e4 := e 4 (by decide) (by decide)
    have e5 := e 5 (by decide) (by decide)
    have e6 := e 6 (by decide) (by decide)
    have e7 := e 7 (by decide) (by decide)
    have e8 := e 8 (by decide) (by decide)
    have e9 := e 9 (by decide) (by decide)
    have e10 := e 10 (by decide) (by decide)
    have e11 := e 11 (by decide) (by decide)
    have e12 := e 12 (by decide) (by decide)
    have e13 := e 13 (by decide) (by decide)
    have e14 := e 14 (by decide) (by decide)
    have e15 := e 15 (by decide) (by decide)
    have e16 := e 16 (by decide) (by decide)
    have e17 := e 17 (by decide) (by decide)
    have e18 := e 18 (by decide) (by decide)
    have e19 := e 19 (by decide) (by decide)
    have hs : prtS k = ⟨#[]⟩ := by
      simp [prtS, e1, e2, e3, e4, e5, e6, e7, e8, e9, e10, e11, e12, e13, e14, e15, e16, e17, e18, e19]
    (repeat (first | refine W.seq ?_ | refine W.block ?_ | refine W.skip ?_ | refine W.exit ?_ | refine W.cond (b := true) rfl (fun _ => ?_) (fun h => absurd h (by simp)) | refine W.cond (b := false) rfl (fun h => absurd h (by simp)) (fun _ => ?_) | refine W.region tab_ok 0 (by decide) (exec_run (by simp only [exa, beq_self_eq_true, ByteArray.size, Nat.reduceAdd, Nat.reduceLeDiff, Nat.reduceEqDiff, Nat.reduceMul, Int.reduceToNat, reduceIte, Int.reduceLE, Int.reduceNeg, e1, e2, e3, e4, e5, e6, e7, e8, e9, e10, e11, e12, e13, e14, e15, e16, e17, e18, e19, decide_false]; rfl)) ?_))
    refine W.ret ⟨.inr rfl, by rfl, ?_⟩
    simp only [Tryd.f46, resA, resOne, toT, fin, exa, beq_self_eq_true, ByteArray.size, Nat.reduceAdd, Nat.reduceLeDiff, Nat.reduceEqDiff, Nat.reduceMul, Int.reduceToNat, reduceIte, Int.reduceLE, Int.reduceNeg]
    rw [hs]
  all_goals
    (repeat (first | refine W.seq ?_ | refine W.block ?_ | refine W.skip ?_ | refine W.exit ?_ | refine W.cond (b := true) rfl (fun _ => ?_) (fun h => absurd h (by simp)) | refine W.cond (b := false) rfl (fun h => absurd h (by simp)) (fun _ => ?_) | refine W.region tab_ok 0 (by decide) (exec_run (by simp only [exa, beq_self_eq_true, ByteArray.size, Nat.reduceAdd, Nat.reduceLeDiff, Nat.reduceEqDiff, Nat.reduceMul, Int.reduceToNat, reduceIte, Int.reduceLE, Int.reduceNeg, Int.reduceEq, decide_true, decide_false, eq_self]; rfl)) ?_))
    refine W.ret ⟨.inr rfl, by rfl, ?_⟩
    simp only [Tryd.f46, resA, resOne, toT, fin, exa, beq_self_eq_true, ByteArray.size, Nat.reduceAdd, Nat.reduceLeDiff, Nat.reduceEqDiff, Nat.reduceMul, Int.reduceToNat, reduceIte, Int.reduceLE, Int.reduceNeg]
    rfl
theorem prt_size (k : Int) : (prtS k).size ≤ 4 := by
  rcases kind_cases k with (rfl | rfl | rfl | rfl | rfl | rfl | rfl | rfl | rfl | rfl | rfl | rfl | rfl | rfl | rfl | rfl | rfl | rfl | rfl) | h
  case inr =>
    have e : ∀ c, 1 ≤ c → c ≤ 19 → (k = c) = False := fun c h1 h2 => eq_false (by omega)
    have e1 := e 1 (by decide) (by decide)
    have e2 := e 2 (by decide) (by decide)
    have e3 := e 3 (by decide) (by decide)
    have e4 := e 4 (by decide) (by decide)
    have e5 := e 5 (by decide) (by decide)
    have e6 := e 6 (by decide) (by decide)
    have e7 := e 7 (by decide) (by decide)
    have e8 := e 8 (by decide) (by decide)
    have e9 := e 9 (by decide) (by decide)
    have e10 := e 10 (by decide) (by decide)
    have e11 := e 11 (by decide) (by decide)
    have e12 := e 12 (by decide) (by decide)
    have e13 := e 13 (by decide) (by decide)
    have e14 := e 14 (by decide) (by decide)
    have e15 := e 15 (by decide) (by decide)
    have e16 := e 16 (by decide) (by decide)
    have e17 := e 17 (by decide) (by decide)
    have e18 := e 18 (by decide) (by decide)
    have e19 := e 19 (by decide) (by decide)
    have hs : prtS k = ⟨#[]⟩ := by
      simp [prtS, e1, e2, e3, e4, e5, e6, e7, e8, e9, e10, e11, e12, e13, e14, e15, e16, e17, e18, e19]
    rw [hs]; decide
  all_goals decide
theorem has_letter (k : Int) : hasBy (prtS k) 100 = hasD k ∧ hasBy (prtS k) 97 = hasA k ∧ hasBy (prtS k) 98 = hasB k ∧ hasBy (prtS k) 99 = hasC k ∧ hasBy (prtS k) 114 = hasR k := by
  rcases kind_cases k with (rfl | rfl | rfl | rfl | rfl | rfl | rfl | rfl | rfl | rfl | rfl | rfl | rfl | rfl | rfl | rfl | rfl | rfl | rfl) | h
  case inr =>
    have e : ∀ c, 1 ≤ c → c ≤ 19 → (k = c) = False := fun c h1 h2 => eq_false (by omega)
    have e1 := e 1 (by decide) (by decide)
    have e2 := e 2 (by decide) (by decide)
    have e3 := e 3 (by decide) (by decide)
    have e4 := e 4 (by decide) (by decide)
    have e5 := e 5 (by decide) (by decide)
    have e6 := e 6 (by decide) (by decide)
    have e7 := e 7 (by decide) (by decide)
    have e8 := e 8 (by decide) (by decide)
    have e9 := e 9 (by decide) (by decide)
    have e10 := e 10 (by decide) (by decide)
    have e11 := e 11 (by decide) (by decide)
    have e12 := e 12 (by decide) (by decide)
    have e13 := e 13 (by decide) (by decide)
    have e14 := e 14 (by decide) (by decide)
    have e15 := e 15 (by decide) (by decide)
    have e16 := e 16 (by decide) (by decide)
    have e17 := e 17 (by decide) (by decide)
    have e18 := e 18 (by decide) (by decide)
    have e19 := e 19 (by decide) (by decide)
    have hs : prtS k = ⟨#[]⟩ := by
      simp [prtS, e1, e2, e3, e4, e5, e6, e7, e8, e9, e10, e11, e12, e13, e14, e15, e16, e17, e18, e19]
    rw [hs]
    simp [hasBy, hasD, hasA, hasB, hasC, hasR, e1, e2, e3, e4, e5, e6, e7, e8, e9, e10, e11, e12, e13, e14, e15, e16, e17, e18, e19]
    decide
  all_goals decide
theorem hasp_ok (k : Int) (b : Nat) (hb : b < 256) (m : Mem) : COk Tryd.prog 30 [.c (.int .i64 k), .c (.int .u8 b)] m (.c (.bool (hasBy (prtS k) b))) := by
  have hp := fun m => parts_ok k m
  have hsz := prt_size k
  obtain ⟨s, hs⟩ : ∃ s, s = prtS k := ⟨_, rfl⟩
  rw [← hs] at hp hsz ⊢
  refine (ok_pure tab_ok Tryd.func30 (by kernel_rfl) rfl rfl (by rfl) (by rfl) (by rfl) (fun R hkeep => ?_) m)
  repeat (first | refine W.seq ?_ | refine W.block ?_ | refine W.skip ?_ | refine W.exit ?_ | refine W.region tab_ok 0 (by decide) (exec_run (by simp only [exa, beq_self_eq_true, ByteArray.size, Nat.reduceAdd, Nat.reduceLeDiff, Nat.reduceEqDiff, Nat.reduceMul, Int.reduceToNat, reduceIte, Int.reduceLE, Int.reduceNeg]; rfl)) ?_)
  refine W.regionK tab_ok 0 (by decide) ?_
  refine runk_split 1 (by simp only [exa, beq_self_eq_true, ByteArray.size, Nat.reduceAdd, Nat.reduceLeDiff, Nat.reduceEqDiff, Nat.reduceMul, Int.reduceToNat, reduceIte, Int.reduceLE, Int.reduceNeg]; rfl) ?_
  refine runk_call rfl rfl rfl rfl rfl (by simp) (cvs_cons cv_refl cvs_nil) (hp _) ?_
  refine runk_exec (by simp only [exa, beq_self_eq_true, ByteArray.size, Nat.reduceAdd, Nat.reduceLeDiff, Nat.reduceEqDiff, Nat.reduceMul, Int.reduceToNat, reduceIte, Int.reduceLE, Int.reduceNeg]; rfl) ?_
  repeat (first | refine W.seq ?_ | refine W.block ?_ | refine W.skip ?_ | refine W.exit ?_ | refine W.region tab_ok 0 (by decide) (exec_run (by simp only [exa, beq_self_eq_true, ByteArray.size, Nat.reduceAdd, Nat.reduceLeDiff, Nat.reduceEqDiff, Nat.reduceMul, Int.reduceToNat, reduceIte, Int.reduceLE, Int.reduceNeg]; rfl)) ?_)
  refine W.loop (ι := Nat) (fun j => ⟨upd (upd (upd (fun _ => .top) 1 (.c (.int .u8 b))) 5 (.c (.str s))) 6 (.c (.int .i64 j)), Mem.nil⟩) (fun j => j ≤ s.size ∧ ∀ i, i < j → (s.get! i).toNat ≠ b) (fun j => s.size - j) 0 ?start ⟨Nat.zero_le _, fun i hi => absurd hi (by omega)⟩ ?round
  case start =>
    refine le_mk ?sle ?mle ?swf ?mwf ?kept (by rfl)
    case kept => exact kept_not hkeep
    case swf => repeat (first | exact swf_top _ | refine swf_upd ?_ (by simp [A.ids, upd_app]))
    case mwf => repeat (first | exact mwf_nil _ | refine mwf_upd ?_ (by simp [A.ids, O.ids, upd_app]))
    case mle => repeat (first | exact mle_nil _ | exact mle_refl _ | refine mle_upd ?_ (by first | rfl | (simp only [upd_app, killM_app, Nat.reduceEqDiff, reduceIte]; done)))
    case sle => repeat (first | exact sle_top _ | exact sle_refl _ | refine sle_upd ?_ (by first | rfl | (simp only [upd_app, entry_zero, entry_succ, Nat.reduceEqDiff, reduceIte]; done)))
  case round =>
    rintro j ⟨hjl, hno⟩
    repeat (first | refine W.seq ?_ | refine W.block ?_ | refine W.skip ?_ | refine W.exit ?_ | refine W.region tab_ok 0 (by decide) (exec_run (by simp only [exa, beq_self_eq_true, ByteArray.size, Nat.reduceAdd, Nat.reduceLeDiff, Nat.reduceEqDiff, Nat.reduceMul, Int.reduceToNat, reduceIte, Int.reduceLE, Int.reduceNeg]; rfl)) ?_)
    refine W.cond rfl ?_ ?_
    · intro hlt
      have hlt : j < s.size := by have h := of_decide_eq_true hlt; show j < s.data.size; omega
      obtain ⟨z, hz⟩ : ∃ z, z = (s[j]'hlt).toNat := ⟨_, rfl⟩
      have hg : (s.get! j).toNat = z := by
        rw [hz]
        exact congrArg UInt8.toNat (by cases s with | mk d => simp only [ByteArray.get!]; exact getElem!_pos d j hlt)
      (repeat (first | refine W.seq ?_ | refine W.block ?_ | refine W.skip ?_ | refine W.exit ?_))
      refine W.regionK tab_ok 0 (by decide) ?_
      refine runk_split 2 (by simp only [exa, beq_self_eq_true, ByteArray.size, Nat.reduceAdd, Nat.reduceLeDiff, Nat.reduceEqDiff, Nat.reduceMul, Int.reduceToNat, reduceIte, Int.reduceLE, Int.reduceNeg]; rfl) ?_
      refine runk_index tab_ok (s := s) (i := j) (z := z) (k := .i64) rfl rfl rfl (by decide) (by first | rfl | (simp only [exa, beq_self_eq_true, ByteArray.size, Nat.reduceAdd, Nat.reduceLeDiff, Nat.reduceEqDiff, Nat.reduceMul, Int.reduceToNat, reduceIte, Int.reduceLE, Int.reduceNeg]; done) | (simp only [exa, beq_self_eq_true, ByteArray.size, Nat.reduceAdd, Nat.reduceLeDiff, Nat.reduceEqDiff, Nat.reduceMul, Int.reduceToNat, reduceIte, Int.reduceLE, Int.reduceNeg]; rfl)) (by first | rfl | (simp only [exa, beq_self_eq_true, ByteArray.size, Nat.reduceAdd, Nat.reduceLeDiff, Nat.reduceEqDiff, Nat.reduceMul, Int.reduceToNat, reduceIte, Int.reduceLE, Int.reduceNeg]; done) | (simp only [exa, beq_self_eq_true, ByteArray.size, Nat.reduceAdd, Nat.reduceLeDiff, Nat.reduceEqDiff, Nat.reduceMul, Int.reduceToNat, reduceIte, Int.reduceLE, Int.reduceNeg]; rfl)) hlt hz.symm ?_
      by_cases hq : z = b
      · have he := eq_true (show (z : Int) = (b : Int) by omega)
        refine runk_exec (by simp only [exa, beq_self_eq_true, ByteArray.size, Nat.reduceAdd, Nat.reduceLeDiff, Nat.reduceEqDiff, Nat.reduceMul, Int.reduceToNat, reduceIte, Int.reduceLE, Int.reduceNeg, he, decide_true]; rfl) ?_
        refine W.cond rfl (fun _ => ?_) (fun h => absurd h (by simp))
        repeat (first | refine W.seq ?_ | refine W.block ?_ | refine W.skip ?_ | refine W.exit ?_ | refine W.region tab_ok 0 (by decide) (exec_run (by simp only [exa, beq_self_eq_true, ByteArray.size, Nat.reduceAdd, Nat.reduceLeDiff, Nat.reduceEqDiff, Nat.reduceMul, Int.reduceToNat, reduceIte, Int.reduceLE, Int.reduceNeg]; rfl)) ?_)
        refine W.ret ⟨.inr rfl, by rfl, ?_⟩
        simp only [Tryd.f30, resA, resOne, toT, fin, exa, beq_self_eq_true, ByteArray.size, Nat.reduceAdd, Nat.reduceLeDiff, Nat.reduceEqDiff, Nat.reduceMul, Int.reduceToNat, reduceIte, Int.reduceLE, Int.reduceNeg]
        have : hasBy s b = true := List.any_eq_true.2 ⟨j, List.mem_range.2 hlt, by rw [hg, hq]; simp⟩
        rw [this]
      · have he := eq_false (show ¬ (z : Int) = (b : Int) by omega)
        refine runk_exec (by simp only [exa, beq_self_eq_true, ByteArray.size, Nat.reduceAdd, Nat.reduceLeDiff, Nat.reduceEqDiff, Nat.reduceMul, Int.reduceToNat, reduceIte, Int.reduceLE, Int.reduceNeg, he, decide_false]; rfl) ?_
        refine W.cond rfl (fun h => absurd h (by simp)) (fun _ => ?_)
        repeat (first | refine W.seq ?_ | refine W.block ?_ | refine W.skip ?_ | refine W.exit ?_ | refine W.region tab_ok 0 (by decide) (exec_run (by simp only [exa, beq_self_eq_true, ByteArray.size, Nat.reduceAdd, Nat.reduceLeDiff, Nat.reduceEqDiff, Nat.reduceMul, Int.reduceToNat, reduceIte, Int.reduceLE, Int.reduceNeg]; rfl)) ?_)
        refine ⟨j + 1, ⟨hlt, fun i hi => ?_⟩, by omega, ?_⟩
        · by_cases e : i = j
          · subst e; rw [hg]; exact hq
          · exact hno i (by omega)
        refine le_mk ?sle ?mle ?swf ?mwf ?kept (by rfl)
        case kept => exact kept_not hkeep
        case swf => repeat (first | exact swf_top _ | refine swf_upd ?_ (by simp [A.ids, upd_app]))
        case mwf => repeat (first | exact mwf_nil _ | refine mwf_upd ?_ (by simp [A.ids, O.ids, upd_app]))
        case mle => repeat (first | exact mle_nil _ | exact mle_refl _ | refine mle_upd ?_ (by first | rfl | (simp only [upd_app, killM_app, Nat.reduceEqDiff, reduceIte, wrap_succ (show j + 1 < 9223372036854775808 by omega)]; done)))
        case sle => repeat (first | exact sle_top _ | exact sle_refl _ | refine sle_upd ?_ (by first | rfl | (simp only [upd_app, entry_zero, entry_succ, Nat.reduceEqDiff, reduceIte, wrap_succ (show j + 1 < 9223372036854775808 by omega)]; done)))
    · intro hge
      have hge : ¬ j < s.size := by have h := of_decide_eq_false hge; show ¬ j < s.data.size; omega
      repeat (first | refine W.seq ?_ | refine W.block ?_ | refine W.skip ?_ | refine W.exit ?_ | refine W.region tab_ok 0 (by decide) (exec_run (by simp only [exa, beq_self_eq_true, ByteArray.size, Nat.reduceAdd, Nat.reduceLeDiff, Nat.reduceEqDiff, Nat.reduceMul, Int.reduceToNat, reduceIte, Int.reduceLE, Int.reduceNeg]; rfl)) ?_)
      refine W.ret ⟨.inr rfl, by rfl, ?_⟩
      simp only [Tryd.f30, resA, resOne, toT, fin, exa, beq_self_eq_true, ByteArray.size, Nat.reduceAdd, Nat.reduceLeDiff, Nat.reduceEqDiff, Nat.reduceMul, Int.reduceToNat, reduceIte, Int.reduceLE, Int.reduceNeg]
      have : hasBy s b = false := by
        unfold hasBy
        rw [List.any_eq_false]
        intro i hi
        have := hno i (by have := List.mem_range.1 hi; omega)
        simpa using this
      rw [this]
end V
end Go.Proofs.YtcldeoolglhdoaaDoor
end
section
set_option linter.unusedVariables false
set_option linter.unusedSimpArgs false
namespace Go.Proofs.YtcldeoolglhdoaaDoor
open Go.RowKit
namespace V
section
variable {w0 w w' : World} {I0 I I' : Nat → Nat → Prop} {B : Nat → Value} {M : Mem}
theorem foot_congr {B B' : Nat → Value} {j : Nat} {o : O} {k : Nat} (h : B' j = B j) : foot B' j o k = foot B j o k := by
  cases o <;> simp only [foot, h]
end
end V
end Go.Proofs.YtcldeoolglhdoaaDoor
end
section
set_option linter.unusedVariables false
set_option linter.unusedSimpArgs false
namespace Go.Proofs.YtcldeoolglhdoaaDoor
namespace V
open Go.RowKit
section
variable {w0 w : World} {I0 I : Nat → Nat → Prop} {B : Nat → Value} {m : Mem}
theorem MR.moreI (h : MR w0 I0 B I m w) {N : Nat → Nat → Prop} (hN : ∀ b o, N b o → w0.heap.size ≤ b ∧ b < w.heap.size ∧ ∀ j z, m j = some z → ¬ foot B j z b) : MR w0 I0 B (fun b o => I b o ∨ N b o) m w :=
  ⟨h.below, h.glob, fun b o k => .inl (h.base b o k), fun b o k => k.elim (h.old b o) fun k => .inr (hN b o k).1, fun b o k => k.elim (h.there b o) fun k => (hN b o k).2.1,
    fun j z hz => RO.mono ⟨fun _ _ k => .inl k, fun _ _ _ => rfl⟩ rfl (fun _ _ => rfl) (fun _ _ => rfl) (fun k hk p hp => hp.elim id fun hp => absurd hk ((hN k p hp).2.2 j z hz)) (h.objs j z hz), h.low, h.apart, h.live⟩
theorem MR.freeze (h : MR w0 I0 B I m w) {id : Nat} {ty : TypeId} {e : Nat} {xs : List (List C)} (hid : m id = some (.mrow ty e xs)) :
    ∃ I', MR w0 I0 (upd B id (.slice none 0 0)) I' (upd (killM id m) id (some (.arr ty e []))) w ∧ Ext w w I I' ∧ RC w I' (B id) (.sl xs) := by
  have hob := h.objs id _ hid
  obtain ⟨vs, hrow, hvs, hlx, hnI⟩ := hob
  have hnew : RO (upd B id (.slice none 0 0)) w I id (.arr ty e []) := ⟨[], ⟨by simp, .inl ⟨upd_same .., rfl⟩⟩, trivial, (fun x hx => by cases hx), (fun b hb o => by rw [upd_same] at hb; cases hb)⟩
  have h1 := h.reval (v' := .slice none 0 0) (o' := .arr ty e []) (w' := w) (I' := I) hid rfl rfl rfl (Nat.le_refl _) (fun _ _ _ => rfl) (fun k hk => by
      have hk : (upd B id (.slice none 0 0) id).ownBlock = some k := hk
      rw [upd_same] at hk; cases hk) (Ext.refl _ _) (fun b p k => .inl k)
    hnew (fun i hi => by simp [O.ids] at hi)
  have h2 := h1.moreI (N := fun b o => (B id).ownBlock = some b) (fun b o hb => by
    have hf : foot B id (.mrow ty e xs) b := hb
    refine ⟨(h.low id _ hid b hf).1, (h.low id _ hid b hf).2, fun j z hz hk => ?_⟩
    unfold upd at hz
    split at hz
    · rename_i ej
      cases hz
      subst ej
      have hk : (upd B j (.slice none 0 0) j).ownBlock = some b := hk
      rw [upd_same] at hk; cases hk
    · rename_i ej
      rw [killM_app] at hz
      cases hmj : m j with
      | none => rw [hmj] at hz; cases hz
      | some z0 =>
        rw [hmj] at hz
        cases hz
        exact h.apart j z0 id _ hmj hid ej b ((foot_kill (upd_ne _ _ ej)).1 hk) hf)
  refine ⟨_, h2, ⟨fun _ _ k => .inl k, fun _ _ _ => rfl⟩, ?_⟩
  have hvs' : RCs w (fun b o => I b o ∨ (B id).ownBlock = some b) vs (flat xs) := hvs.mono ⟨fun _ _ k => .inl k, fun _ _ _ => rfl⟩
  obtain ⟨hl, ho⟩ := hrow
  rcases ho with ⟨ev, hn⟩ | ⟨g, off, cap, cur, ev, hcell, q1, q2, q3, q4⟩
  · obtain rfl : xs = [] := List.length_eq_zero_iff.1 hn
    rw [ev]
    exact RC.sl (e := 0) (fun _ _ => undef) rfl (Nat.le_refl _) (Nat.zero_le _) (fun x hx => by cases hx) (fun i x hx => by simp at hx) (fun i j x c hx _ => by simp at hx)
  · have hat : ∀ i j x, xs[i]? = some x → j < e → i * e + j < xs.length * e := fun i j x hx hj => by
      have hi := (List.getElem?_eq_some_iff.1 hx).1
      have : (i + 1) * e ≤ xs.length * e := Nat.mul_le_mul_right _ hi
      rw [Nat.add_mul] at this
      omega
    rw [ev] at hvs' ⊢
    refine RC.sl (e := e) (fun i j => vs.getD (i * e + j) undef) rfl q1 q2 hlx (fun i x hx => ⟨g, off, rfl, fun j hj => ⟨.inr rfl, ?_⟩⟩) (fun i j x c hx hc => ?_)
    · have hlt := hat i j x hx hj
      have hcur : cur[off + (i * e + j)]? = vs[i * e + j]? := by
        rw [← q4, List.getElem?_take, if_pos hlt, List.getElem?_drop, Array.getElem?_toList]
      rw [Nat.add_assoc]
      have hv : vs[i * e + j]? = some (vs.getD (i * e + j) undef) := by
        rw [List.getD_eq_getElem?_getD, List.getElem?_eq_getElem (by omega)]; rfl
      rw [← hv, ← hcur]
      simp [World.cell?, hcell]
    · have hj : j < e := by rw [← hlx x (List.mem_of_getElem? hx)]; exact (List.getElem?_eq_some_iff.1 hc).1
      have hfl := flat_at hlx i j x hx hj
      rw [hc] at hfl
      obtain ⟨u, hu, hr⟩ := hvs'.at _ _ hfl
      rw [List.getD_eq_getElem?_getD, hu]
      exact hr
end
section
variable {P : Go.Program}
theorem W.freeze {R : Ref} {n : Nat} {ds : List Deferred} {st : St} {c : Code} {K : Exit → St → Prop} (t id : Nat) {ty : TypeId} {e : Nat} {xs : List (List C)} (ht : st.s t = .own id) (hid : st.m id = some (.mrow ty e xs)) (hkp : ¬ R.keep id)
    (h : W P R n ds ⟨upd (killS id st.s) t (.c (.sl xs)), upd (killM id st.m) id (some (.arr ty e []))⟩ c K) : W P R n ds st c K := by
  intro a w hr
  refine h a w ?_
  obtain ⟨⟨B, I, hm, hx0, hkp0, hs⟩, h2, h3, hnn, h4, h5⟩ := hr
  obtain ⟨I', hm', hE, hrc⟩ := hm.freeze hid
  have hBne : ∀ j, j ≠ id → upd B id (.slice none 0 0) j = B j := fun j hj => upd_ne _ _ hj
  have liv : ∀ i, (st.m i).isSome = true → (upd (killM id st.m) id (some (.arr ty e [])) i).isSome = true := fun i hi => by
    unfold upd; split
    · rfl
    · rw [killM_app]; simpa using hi
  have hown : RV B w I (.own id) (a.tmps.getD t undef) := ht ▸ hs t
  have hval : a.tmps.getD t undef = B id := hown.1
  refine ⟨⟨_, I', hm', hx0.trans hE, fun j hj => (hBne j (fun e => hkp (e ▸ hj))).trans (hkp0 j hj), fun u => ?_⟩, fun u j hj => ?_, h3, hnn, ?_, fun i hi => liv i (h5 i hi)⟩
  · show RV _ w I' (upd (killS id st.s) t (.c (.sl xs)) u) _
    by_cases hu : u = t
    · subst hu
      rw [upd_same, hval]
      exact hrc
    · rw [upd_ne _ _ hu, killS_app]
      rcases (A.kill_ids (id := id) (a := st.s u)).2 with k | ⟨k, hn⟩
      · rw [k]; trivial
      · rw [k]
        exact (hs u).mono hE fun i hi => hBne i (fun e => hn (e ▸ hi))
  · have hj : j ∈ (upd (killS id st.s) t (.c (.sl xs)) u).ids := hj
    by_cases hu : u = t
    · subst hu; rw [upd_same] at hj; simp [A.ids] at hj
    · rw [upd_ne _ _ hu, killS_app] at hj
      exact liv j (h2 u j ((A.kill_ids (id := id) (a := st.s u)).1 j hj).1)
  · show _ = dfs (upd (killS id st.s) t (.c (.sl xs)) DID) ++ ds
    by_cases e : DID = t
    · rw [← e, upd_same]
      rw [← e] at ht
      rw [ht] at h4
      exact h4
    · rw [upd_ne _ _ e, killS_app, dfs_kill]
      exact h4
end
end V
end Go.Proofs.YtcldeoolglhdoaaDoor
end
section
set_option linter.unusedVariables false
set_option linter.unusedSimpArgs false
namespace Go.Proofs.YtcldeoolglhdoaaDoor
namespace V
open Go.RowKit
theorem mle_refl' {m m' : Mem} (h : m = m') : MLe m m' := h ▸ mle_refl m
theorem mle_skip {m m' : Mem} {j : Nat} {x : Option O} (h : MLe m m') (hj : m' j = none) : MLe (upd m j x) m' := fun u => by
  unfold upd; split
  · rename_i e; subst e; exact .inl hj
  · exact h u
theorem upd_upd {α : Type} (f : Nat → α) (t : Nat) (x y : α) : upd (upd f t x) t y = upd f t y := by
  funext u; unfold upd; split <;> rfl
theorem upd_comm {α : Type} (f : Nat → α) {s t : Nat} (x y : α) (h : s ≠ t) : upd (upd f s x) t y = upd (upd f t y) s x := by
  funext u; unfold upd
  by_cases e1 : u = t
  · by_cases e2 : u = s
    · exact absurd (e2.symm.trans e1) h
    · simp [e1, Ne.symm h]
  · simp [e1]
theorem upd_id {α : Type} (f : Nat → α) {t : Nat} {x : α} (h : f t = x) : upd f t x = f := by
  funext u; unfold upd; split
  · rename_i e; subst e; exact h.symm
  · rfl
theorem base_ne {M : Mem} {b0 : Nat} (hM : ∀ d, M (b0 + d) = none) {p : Nat} {o : O} (h : M p = some o) (d : Nat) : (p = b0 + d) = False := by
  refine eq_false fun e => ?_
  subst e; rw [hM] at h; cases h
theorem base_more {M : Mem} {b0 : Nat} (hM : ∀ d, M (b0 + d) = none) (k : Nat) : ∀ d, M (b0 + k + d) = none := fun d => by rw [Nat.add_assoc]; exact hM _
theorem mwf_some {M : Mem} {j : Nat} {o : O} (hw : WFm M) (ho : ∀ i ∈ o.ids, (upd M j (some o) i).isSome = true) : WFm (upd M j (some o)) := fun id z hz i hi => by
  unfold upd at hz
  split at hz
  · cases hz; exact ho i hi
  · have := hw id z hz i hi
    unfold upd; split
    · rfl
    · exact this
theorem live_upd {M : Mem} {j : Nat} {o : O} : ∀ i, (M i).isSome = true → (upd M j (some o) i).isSome = true := fun i hi => by
  unfold upd; split
  · rfl
  · exact hi
theorem ren1_id : A1.ren (fun j => j) = id := funext fun a => by cases a <;> rfl
theorem ren_id : A.ren (fun j => j) = id := funext fun a => by cases a <;> simp [A.ren, ren1_id]
theorem renO_id (o : O) : O.ren (fun j => j) o = o := by cases o <;> simp [O.ren, ren1_id, ren_id]
theorem ok_eff {P : Go.Program} {T : Tab} (hT : T.Ok P) {f : FuncId} {fn : Func} {c : Code} {l : List ResultVar} {args : List A} {M : Mem} (D : List Nat) {r : A} {M' : Mem} (hf : P.funcs[f]? = some fn) (hn : (fn.name == "runtime.NumGoroutine") = false) (hb : fn.body = some c) (hl : fn.results.toList = l)
    (hle : decide (args.length ≤ fn.ntmps ∧ fn.ntmps ≤ DID) = true) (hdf : args.all (fun a => !(match a with | .defs _ => true | _ => false)) = true) (hids : ∀ a ∈ args, ∀ j ∈ a.ids, (M j).isSome = true) (hr : ∀ j ∈ r.ids, (M' j).isSome = true) (hsub : ∀ j, (M j).isSome = true → (M' j).isSome = true) (hwm : WFm M → WFm M')
    (hW : WFm M → ∀ R : Ref, R.keep = (fun j => (M j).isSome = true ∧ j ∉ D) → W P R fn.ntmps [] ⟨entry args, M⟩ c (fun e st => (e = .normal ∨ e = .ret) ∧ dfs (st.s DID) = [] ∧ resE T st l = some r ∧ MLe st.m M')) : CallE P f args M D r M' := by
  refine ⟨enters_of hf hn hb, hr, hsub, hwm, ?_⟩
  intro w0 I0 B I w vals hm hv
  have hWF : WFm M := hm.live
  refine (call_eff hT (D := D) hf hb hl (of_decide_eq_true hle).1 (of_decide_eq_true hle).2 hids (fun a ha l e => by have := List.all_eq_true.1 hdf a ha; subst e; simp at this) (enters_of hf hn hb) hr hsub hwm (fun R hR => ?_)).2.2.2.2 w0 I0 B I w vals hm hv
  refine W.mono (hW hWF R hR) fun e st ⟨h1, h2, h3, h4⟩ => ⟨h1, h2, fun j => j, r, h3, ?_⟩
  have hwf' : WFm M' := hwm hWF
  refine ⟨fun t => .inr ?_, fun j o ho => ?_, fun i j _ _ e => e, ⟨fun t j hj => ?_, hwf'⟩, fun j hj => ?_, ?_⟩
  · show (upd (fun _ => A.top) 0 r t).ren (fun j => j) = _
    rw [ren_id]; rfl
  · rw [renO_id]
    rcases h4 j with q | q
    · rw [show (⟨upd (fun _ => A.top) 0 r, M'⟩ : St).m j = M' j from rfl, q] at ho; cases ho
    · exact q.symm.trans ho
  · show (M' j).isSome = true
    have hj : j ∈ (upd (fun _ => A.top) 0 r t).ids := hj
    unfold upd at hj
    split at hj
    · exact hr j hj
    · simp [A.ids] at hj
  · rw [hR] at hj
    exact ⟨rfl, hsub j hj.1⟩
  · show dfs (upd (fun _ => A.top) 0 r DID) = dfs (upd (fun _ => A.top) 0 r DID)
    rfl
theorem kill_free {M : Mem} {id : Nat} (hw : WFm M) (hM : M id = none) : killM id M = M := by
  funext j
  rw [killM_app]
  cases hj : M j with
  | none => rfl
  | some o =>
    rw [Option.map_some]
    congr 1
    have hno : id ∉ o.ids := fun h => by have := hw j o hj id h; rw [hM] at this; cases this
    cases o with
    | box ty cells =>
      simp only [O.kill, O.box.injEq, true_and]
      refine (List.map_congr_left fun a ha => ?_).trans (List.map_id _)
      rcases (A.kill_ids (id := id) (a := a)).2 with e | ⟨e, -⟩
      · have hn : id ∉ a.ids := fun h => hno (List.mem_flatMap.2 ⟨a, ha, h⟩)
        have : ∀ a : A, id ∉ a.ids → a.kill id = a := fun a hn => by
          cases a with
          | ptr j off => simp only [A.ids, List.mem_singleton] at hn; simp [A.kill, Ne.symm hn]
          | own j => simp only [A.ids, List.mem_singleton] at hn; simp [A.kill, Ne.symm hn]
          | fn f ids => simp only [A.ids] at hn; simp [A.kill, hn]
          | pinP v j off => simp only [A.ids, List.mem_singleton] at hn; simp [A.kill, Ne.symm hn]
          | eptr j e i f => simp only [A.ids, List.mem_singleton] at hn; simp [A.kill, Ne.symm hn]
          | win j e lo hi => simp only [A.ids, List.mem_singleton] at hn; simp [A.kill, Ne.symm hn]
          | map j => simp only [A.ids, List.mem_singleton] at hn; simp [A.kill, Ne.symm hn]
          | tupA xs => simp only [A.ids] at hn; simp only [A.kill]; rw [if_neg (by simpa using hn)]
          | aggA xs => simp only [A.ids] at hn; simp only [A.kill]; rw [if_neg (by simpa using hn)]
          | _ => rfl
        exact this a hn
      · exact e
    | rows ty xs =>
      simp only [O.kill, O.rows.injEq, true_and]
      refine (List.map_congr_left fun a ha => ?_).trans (List.map_id _)
      have hn : id ∉ a.ids := fun h => hno (List.mem_flatMap.2 ⟨a, ha, h⟩)
      unfold A1.kill
      rw [if_neg (by simpa using hn)]; rfl
    | map ents =>
      simp only [O.kill, O.map.injEq]
      refine (List.map_congr_left fun p hp => ?_).trans (List.map_id _)
      have hn : id ∉ p.1.ids ++ p.2.ids := fun h => hno (List.mem_flatMap.2 ⟨p, hp, h⟩)
      rw [List.mem_append, not_or] at hn
      unfold A1.kill
      rw [if_neg (by simpa using hn.1), if_neg (by simpa using hn.2)]; rfl
    | _ => rfl
theorem kill_own {M : Mem} {id : Nat} {x y : Option O} (hw : WFm M) (hM : M id = none) : upd (killM id (upd M id x)) id y = upd M id y := by
  funext j
  unfold upd
  split
  · rfl
  · rename_i e
    show ((if j = id then x else M j).map (O.kill id)) = M j
    rw [if_neg e]
    exact congrFun (kill_free hw hM) j
theorem W.asData {P : Go.Program} {R : Ref} {n : Nat} {ds : List Deferred} {st : St} {c : Code} {K : Exit → St → Prop} (t : Nat) {x : C} (h : asC st.m (st.s t) = some x) (hc : W P R n ds ⟨upd st.s t (.c x), st.m⟩ c K) (htd : t ≠ DID) : W P R n ds st c K := by
  intro a w hr
  refine hc a w ?_
  obtain ⟨⟨B, I, hm, hx0, hkp0, hs⟩, h2, h3, hnn, h4, h5⟩ := hr
  refine ⟨⟨B, I, hm, hx0, hkp0, fun u => ?_⟩, fun u j hj => ?_, h3, hnn, ?_, h5⟩
  · show RV B w I (upd st.s t (.c x) u) _
    by_cases hu : u = t
    · subst hu; rw [upd_same]; exact asC_rc hm h (hs u)
    · rw [upd_ne _ _ hu]; exact hs u
  · replace hj : j ∈ (upd st.s t (.c x) u).ids := hj
    by_cases hu : u = t
    · subst hu; rw [upd_same] at hj; simp [A.ids] at hj
    · rw [upd_ne _ _ hu] at hj; exact h2 u j hj
  · show _ = dfs (upd st.s t (.c x) DID) ++ ds
    rw [upd_ne _ _ (fun e => htd e.symm)]; exact h4
end V
end Go.Proofs.YtcldeoolglhdoaaDoor
end
section
set_option linter.unusedVariables false
set_option linter.unusedSimpArgs false
namespace Go.Proofs.YtcldeoolglhdoaaDoor
namespace V
open Go.RowKit
structure HAppendNil (T : Tab) (ops : Array Oper) (o : Oper) (st : St) (c : Call) (x y : Operand) (t d id e n b : Nat) (zs : List Value) (ys : List (List C)) : Prop where
  want : wantA ops o st.s = some true
  op : o.op = .call c
  callee : c.callee = .builtin .append
  args : c.args = #[x, y]
  tys : c.argTypes = #[t, t]
  dst : o.dst = some d
  at_ : ev st.s x = .nil
  free : st.m id = none
  val : asC st.m (ev st.s y) = some (.sl ys)
  elem : T.elem t = some (e, n)
  bytes : T.bytes e = some b
  zero : T.zero e = some zs
  zlen : zs.length = n
  lens : ∀ z ∈ ys, z.length = n
  bound : ys.length * b ≤ 140737488355328
  small : ys.length ≤ maxLen
section
variable {P : Go.Program} {T : Tab} (hT : T.Ok P) {kp : Nat → Prop} {ops : Array Oper}
include hT
end
def tabL : Tab := { tab with lit := true }
namespace L
theorem tab_ok : tabL.Ok Tryd.prog := ⟨V.tab_ok.ty, V.tab_ok.zero, V.tab_ok.elem, V.tab_ok.off, V.tab_ok.bool, V.tab_ok.fields, V.tab_ok.bytes, V.tab_ok.nilk, V.tab_ok.int, V.tab_ok.map, V.tab_ok.str, V.tab_ok.one, V.tab_ok.seq⟩
theorem tabs : tabL.ty = tab.ty ∧ tabL.zero = tab.zero ∧ tabL.elem = tab.elem ∧ tabL.off = tab.off ∧ tabL.bool = tab.bool ∧ tabL.fields = tab.fields ∧ tabL.bytes = tab.bytes ∧ tabL.nilk = tab.nilk ∧ tabL.int = tab.int ∧ tabL.map = tab.map ∧ tabL.str = tab.str ∧ tabL.one = tab.one ∧ tabL.seq = tab.seq ∧ tabL.eff = tab.eff ∧ tabL.lit = true := ⟨rfl, rfl, rfl, rfl, rfl, rfl, rfl, rfl, rfl, rfl, rfl, rfl, rfl, rfl, rfl⟩
end L
end V
end Go.Proofs.YtcldeoolglhdoaaDoor
end
section
set_option linter.unusedVariables false
set_option linter.unusedSimpArgs false
namespace Go.Proofs.YtcldeoolglhdoaaDoor
namespace V
open Go.RowKit
theorem MR.rewin {w0 w : World} {I0 I : Nat → Nat → Prop} {B : Nat → Value} {m : Mem} (hm : MR w0 I0 B I m w) {id : Nat} {ty e lo hi : Nat} {xs : List (List C)} (hj : m id = some (.mrow ty e xs)) (hh : hi ≤ xs.length) {v' : Value} (hx : RV B w I (.win id e lo hi) v') :
    MR w0 I0 (upd B id v') I (upd (killM id m) id (some (.mrow ty e ((xs.take hi).drop lo)))) w ∧ ∃ ad n cap, v' = .slice ad n cap := by
  obtain ⟨ad, n0, cap, hB, hlo, hhi, hv⟩ := hx
  obtain ⟨vs, hrow, hvs, hlx, hno⟩ := hm.objs id _ hj
  have hn0 : n0 = xs.length ∧ xs.length ≤ cap := by
    obtain ⟨ad', cp, e5, e6⟩ := hrow.shape
    rw [hB] at e5; cases e5; exact ⟨rfl, e6⟩
  obtain ⟨rfl, hnc⟩ := hn0
  have hvl := hvs.length
  have hfl := flat_len hlx
  have hlen : ((xs.take hi).drop lo).length = hi - lo := by simp; omega
  have hl1 : vs.length = xs.length * e := hrow.1
  have hle1 : hi * e ≤ xs.length * e := Nat.mul_le_mul_right e hh
  have hle2 : lo * e ≤ hi * e := Nat.mul_le_mul_right e hlo
  have hsub : (hi - lo) * e = hi * e - lo * e := Nat.sub_mul ..
  have hvl' : ((vs.take (hi * e)).drop (lo * e)).length = (hi - lo) * e := by simp; omega
  have hrow' : rowAt w ty e v' (hi - lo) ((vs.take (hi * e)).drop (lo * e)) := by
    refine ⟨hvl', ?_⟩
    rcases hrow.2 with ⟨e1, e2⟩ | ⟨g, off, c, cur, e1, hg, hnc', hm', hsz, htk⟩
    · rw [hB] at e1
      simp only [Value.slice.injEq] at e1
      obtain ⟨rfl, -, rfl⟩ := e1
      obtain rfl : hi = 0 := by omega
      obtain rfl : lo = 0 := by omega
      exact .inl ⟨by rw [hv]; rfl, rfl⟩
    · rw [hB] at e1
      cases e1
      by_cases hcl : cap = lo
      · subst hcl
        obtain rfl : hi = cap := by omega
        refine .inr ⟨g, off, 0, cur, by rw [hv]; simp, hg, by omega, by omega, by omega, ?_⟩
        rw [Nat.sub_self, Nat.zero_mul, List.take_zero]
        exact (List.eq_nil_of_length_eq_zero (by rw [hvl']; simp)).symm
      · have hcs : (cap - lo) * e = cap * e - lo * e := Nat.sub_mul ..
        have hle3 : lo * e ≤ cap * e := Nat.mul_le_mul_right e (by omega)
        refine .inr ⟨g, off + lo * e, cap - lo, cur, by rw [hv, if_neg hcl]; simp [Addr.add], hg, by omega, by omega, by omega, ?_⟩
        rw [← htk, List.take_take, Nat.min_eq_left (by omega), List.drop_take, List.drop_drop, ← hsub]
  have hob : v'.ownBlock = (B id).ownBlock ∨ v'.ownBlock = none := by
    rw [hv, hB]
    cases ad with
    | none => right; split <;> rfl
    | some z =>
      left
      split
      · rfl
      · obtain ⟨zb, zo, zs⟩ := z
        simp only [Value.ownBlock, Addr.add, Option.map_some]
        split <;> rfl
  have hflat : flat ((xs.take hi).drop lo) = ((flat xs).take (hi * e)).drop (lo * e) := by
    have ft : ∀ (k : Nat) (l : List (List C)), (∀ x ∈ l, x.length = e) → flat (l.take k) = (flat l).take (k * e) := by
      intro k
      induction k with
      | zero => intro l _; simp [flat]
      | succ k ih =>
        intro l hl
        cases l with
        | nil => simp [flat]
        | cons x l =>
          have hx := hl x (by simp)
          have := ih l (fun y hy => hl y (List.mem_cons_of_mem _ hy))
          have hk : (k + 1) * e = e + k * e := by rw [Nat.add_mul]; omega
          simp only [flat, List.take_succ_cons, List.flatten_cons] at this ⊢
          have h1 : x.length ≤ e + k * e := by omega
          have h2 : e + k * e - x.length = k * e := by omega
          rw [this, hk, List.take_append, List.take_of_length_le h1, h2]
    have fd : ∀ (k : Nat) (l : List (List C)), (∀ x ∈ l, x.length = e) → flat (l.drop k) = (flat l).drop (k * e) := by
      intro k
      induction k with
      | zero => intro l _; simp [flat]
      | succ k ih =>
        intro l hl
        cases l with
        | nil => simp [flat]
        | cons x l =>
          have hx := hl x (by simp)
          have := ih l (fun y hy => hl y (List.mem_cons_of_mem _ hy))
          have hk : (k + 1) * e = e + k * e := by rw [Nat.add_mul]; omega
          simp only [flat, List.drop_succ_cons, List.flatten_cons] at this ⊢
          have h1 : x.length ≤ e + k * e := by omega
          have h2 : e + k * e - x.length = k * e := by omega
          rw [this, hk, List.drop_append, List.drop_eq_nil_of_le h1, h2, List.nil_append]
    rw [fd _ _ (fun x hx => hlx x (List.mem_of_mem_take hx)), ft _ _ hlx]
  have hm' := hm.reval (id := id) (o' := .mrow ty e ((xs.take hi).drop lo)) (v' := v') (w' := w) (I' := I) hj rfl rfl rfl (Nat.le_refl _) (fun _ _ _ => rfl)
    (fun k hk => by
      have hk : (upd B id v' id).ownBlock = some k := hk
      rw [upd_same] at hk
      rcases hob with q | q
      · rw [q] at hk; exact ⟨(hm.low id _ hj k hk).2, .inl hk⟩
      · rw [q] at hk; cases hk)
    (Ext.refl _ _) (fun b p hp => .inl hp)
    ⟨_, by rw [upd_same, hlen]; exact hrow', by rw [hflat]; exact (hvs.take _).drop _, fun x hx => hlx x (List.mem_of_mem_take (List.mem_of_mem_drop hx)), fun b hb p hp => by
      rw [upd_same] at hb
      rcases hob with q | q
      · rw [q] at hb; exact hno b hb p hp
      · rw [q] at hb; cases hb⟩ (fun i hi => by simp [O.ids] at hi)
  obtain ⟨ad', cp', q, -⟩ := hrow'.shape
  exact ⟨hm', _, _, _, q⟩
theorem SR.rewinBox {R : Ref} {n : Nat} {ds : List Deferred} {st : St} {a : Act} {w : World} (j k id : Nat) {tyb ty e lo hi : Nat} {cells : List A} {xs : List (List C)} (hr : SR R n ds st a w) (hjb : st.m j = some (.box tyb cells)) (hk : cells[k]? = some (.win id e lo hi)) (hid : st.m id = some (.mrow ty e xs)) (hh : hi ≤ xs.length) (hji : j ≠ id) (hkp : ¬ R.keep id) :
    SR R n ds ⟨killS id st.s, upd (upd (killM id st.m) id (some (.mrow ty e ((xs.take hi).drop lo)))) j (some (.box tyb ((cells.map (A.kill id)).set k (.own id))))⟩ a w := by
  obtain ⟨⟨B, I, hm, hx0, hkp0, hs⟩, h2, h3, hnn, h4, h5⟩ := hr
  obtain ⟨b0, vs0, p1, p2, p3, p4⟩ := hm.objs j _ hjb
  obtain ⟨v', u1, u2, u3⟩ := p3.at k _ hk
  obtain ⟨hm', ad, nn, cap, hsh⟩ := hm.rewin hid hh u2
  have hBne : ∀ i, i ≠ id → upd B id v' i = B i := fun i hi => upd_ne _ _ hi
  have hj' : upd (killM id st.m) id (some (.mrow ty e ((xs.take hi).drop lo))) j = some (.box tyb (cells.map (A.kill id))) := by
    rw [upd_ne _ _ hji, killM_app, hjb]; rfl
  obtain ⟨b, vs, q1, q2, q3, q4⟩ := hm'.objs j _ hj'
  have hbb : b0 = b := by
    rw [hBne j hji, p1] at q1; cases q1; rfl
  subst hbb
  have hvv : vs0 = vs := by
    rw [p2] at q2
    have := Option.some.inj q2
    simp at this; exact this
  subst hvv
  have liv0 : ∀ i, (st.m i).isSome = true → (upd (killM id st.m) id (some (.mrow ty e ((xs.take hi).drop lo))) i).isSome = true := fun i hi => by
    unfold upd; split
    · rfl
    · rw [killM_app]; simpa using hi
  obtain ⟨hm2, hE2⟩ := hm'.turn (w' := w) (o' := .box tyb ((cells.map (A.kill id)).set k (.own id))) hj' ⟨0, q1⟩ (fun q hq => by obtain ⟨off, hq⟩ := hq; rw [q1] at hq; cases hq; rfl) q4 rfl rfl rfl rfl (fun _ _ => rfl) (fun i hi => by
    obtain ⟨a', ha', hi'⟩ := List.mem_flatMap.1 hi
    rcases List.mem_or_eq_of_mem_set ha' with ha' | rfl
    · exact hm'.live j _ hj' i (List.mem_flatMap.2 ⟨a', ha', hi'⟩)
    · simp [A.ids] at hi'; subst hi'; rw [upd_same]; rfl) (fun _ => by
    refine ⟨b0, vs0, q1, q2, ?_, q4⟩
    have hl := q3.length
    refine RVs.of (by rw [List.length_set]; exact hl) fun q a' v2 ha' hv2 => ?_
    rw [List.getElem?_set] at ha'
    split at ha'
    · rename_i hq
      subst hq
      split at ha'
      · cases ha'
        rw [hv2] at u1; cases u1
        exact ⟨⟨(upd_same ..).symm, _, _, _, hsh⟩, u3⟩
      · cases ha'
    · obtain ⟨v3, r1, r2, r3⟩ := q3.at q _ ha'
      rw [hv2] at r1; cases r1
      exact ⟨r2, r3⟩)
  have liv : ∀ i, (st.m i).isSome = true → (upd (upd (killM id st.m) id (some (.mrow ty e ((xs.take hi).drop lo)))) j (some (.box tyb ((cells.map (A.kill id)).set k (.own id)))) i).isSome = true := fun i hi => live_upd i (liv0 i hi)
  refine ⟨⟨_, I, hm2, hx0, fun i hi => (hBne i (fun e => hkp (e ▸ hi))).trans (hkp0 i hi), fun u => ?_⟩, fun u i hi => ?_, h3, hnn, ?_, fun i hi => liv i (h5 i hi)⟩
  · show RV _ w I (killS id st.s u) _
    rw [killS_app]
    rcases (A.kill_ids (id := id) (a := st.s u)).2 with q | ⟨q, hn⟩
    · rw [q]; trivial
    · rw [q]
      exact (hs u).mono (Ext.refl _ _) fun i hi => hBne i (fun e => hn (e ▸ hi))
  · replace hi : i ∈ (killS id st.s u).ids := hi
    rw [killS_app] at hi
    exact liv i (h2 u i ((A.kill_ids (id := id) (a := st.s u)).1 i hi).1)
  · show _ = dfs (killS id st.s DID) ++ ds
    rw [killS_app, dfs_kill]; exact h4
theorem W.rewinBox {P : Go.Program} {R : Ref} {n : Nat} {ds : List Deferred} {st : St} {c : Code} {K : Exit → St → Prop} (j k id : Nat) {tyb ty e lo hi : Nat} {cells : List A} {xs : List (List C)} (hjb : st.m j = some (.box tyb cells)) (hk : cells[k]? = some (.win id e lo hi)) (hid : st.m id = some (.mrow ty e xs)) (hh : hi ≤ xs.length) (hji : j ≠ id) (hkp : ¬ R.keep id)
    (h : W P R n ds ⟨killS id st.s, upd (upd (killM id st.m) id (some (.mrow ty e ((xs.take hi).drop lo)))) j (some (.box tyb ((cells.map (A.kill id)).set k (.own id))))⟩ c K) : W P R n ds st c K := fun a w hr => h a w (hr.rewinBox j k id hjb hk hid hh hji hkp)
end V
end Go.Proofs.YtcldeoolglhdoaaDoor
end
section
set_option linter.unusedVariables false
set_option linter.unusedSimpArgs false
namespace Go.Proofs.YtcldeoolglhdoaaDoor
open Go.RowKit
namespace V
section
variable {w0 w w' : World} {I0 I I' : Nat → Nat → Prop} {B : Nat → Value} {M : Mem}
theorem MR.fresh2 (h : MR w0 I0 B I M w) {id : Nat} (hid : M id = none) {v : Value} {o' : O} (hb : Below w.heap.size w w') (hf : ∀ k, foot (upd B id v) id o' k → w.heap.size ≤ k ∧ k < w'.heap.size) (hE : Ext w w' I I')
    (hI' : ∀ b p, I' b p → I b p ∨ (w.heap.size ≤ b ∧ b < w'.heap.size)) (hob : RO (upd B id v) w' I' id o') (hl : o'.ids = []) : MR w0 I0 (upd B id v) I' (upd M id (some o')) w' := by
  have hne : ∀ j, (M j).isSome = true → j ≠ id := fun j hj e => by subst e; rw [hid] at hj; cases hj
  have hB : ∀ j, (M j).isSome = true → upd B id v j = B j := fun j hj => upd_ne _ _ (hne j hj)
  have liv : ∀ j, (M j).isSome = true → (upd M id (some o') j).isSome = true := fun j hj => by rw [upd_ne _ _ (hne j hj)]; exact hj
  have other : ∀ {j : Nat} {z : O}, upd M id (some o') j = some z → (j = id ∧ z = o') ∨ (j ≠ id ∧ M j = some z) := fun {j z} hz => by
    unfold upd at hz
    split at hz
    · rename_i e; exact .inl ⟨e, (Option.some.inj hz).symm⟩
    · rename_i e; exact .inr ⟨e, hz⟩
  have hs0 := h.below.size
  refine ⟨h.below.trans ⟨hb.os, hb.tape, hb.output, hb.size, fun b hlt => hb.block b (Nat.lt_of_lt_of_le hlt hs0)⟩, h.glob, fun b o h0 => hE.more _ _ (h.base b o h0), fun b o hi => ?_, fun b o hi => ?_, fun j z hz => ?_, fun j z hz k hk => ?_, fun j z j' z' hz hz' hjj k hk hk' => ?_, fun j z hz i hi => ?_⟩
  · rcases hI' b o hi with hi | hi
    · exact h.old b o hi
    · exact .inr (Nat.le_trans hs0 hi.1)
  · rcases hI' b o hi with hi | hi
    · exact Nat.lt_of_lt_of_le (h.there b o hi) hb.size
    · exact hi.2
  · rcases other hz with ⟨rfl, rfl⟩ | ⟨hj, hz⟩
    · exact hob
    · refine RO.mono hE (hB j (by simp [hz])) (fun i hi => hB i (h.live j z hz i hi)) (fun k hk => hb.block k (h.low j z hz k hk).2) (fun k hk p hp => ?_) (h.objs j z hz)
      rcases hI' k p hp with hp | hp
      · exact hp
      · exact absurd hp.1 (Nat.not_le.2 (h.low j z hz k hk).2)
  · rcases other hz with ⟨rfl, rfl⟩ | ⟨hj, hz⟩
    · exact ⟨Nat.le_trans hs0 (hf k hk).1, (hf k hk).2⟩
    · rw [foot_congr (hB j (by simp [hz]))] at hk
      exact ⟨(h.low j z hz k hk).1, Nat.lt_of_lt_of_le (h.low j z hz k hk).2 hb.size⟩
  · rcases other hz with ⟨e1, e2⟩ | ⟨hj, hy⟩
    · rcases other hz' with ⟨e3, e4⟩ | ⟨hj', hy'⟩
      · exact hjj (e1.trans e3.symm)
      · rw [foot_congr (hB j' (by simp [hy']))] at hk'
        rw [e1, e2] at hk
        exact absurd (hf k hk).1 (Nat.not_le.2 (h.low j' z' hy' k hk').2)
    · rw [foot_congr (hB j (by simp [hy]))] at hk
      rcases other hz' with ⟨e3, e4⟩ | ⟨hj', hy'⟩
      · rw [e3, e4] at hk'
        exact absurd (hf k hk').1 (Nat.not_le.2 (h.low j z hy k hk).2)
      · rw [foot_congr (hB j' (by simp [hy']))] at hk'
        exact h.apart j z j' z' hy hy' hjj k hk hk'
  · rcases other hz with ⟨rfl, rfl⟩ | ⟨hj, hz⟩
    · rw [hl] at hi; cases hi
    · exact liv i (h.live j z hz i hi)
end
theorem ok_own {P : Go.Program} {T : Tab} (hT : T.Ok P) {f : FuncId} {fn : Func} {c : Code} {l : List ResultVar} {args : List A} {o : O} (hf : P.funcs[f]? = some fn) (hn : (fn.name == "runtime.NumGoroutine") = false) (hb : fn.body = some c) (hl : fn.results.toList = l) (hd : args.all (fun a => a.ids.isEmpty && !(match a with | .defs _ => true | _ => false)) = true) (hle : decide (args.length ≤ fn.ntmps ∧ fn.ntmps ≤ DID) = true) (ho : ∃ ty e xs, o = .arr ty e xs ∨ o = .mrow ty e xs)
    (hW : ∀ R : Ref, R.keep = (fun _ => False) → W P R fn.ntmps [] ⟨entry args, Mem.nil⟩ c (fun e st => (e = .normal ∨ e = .ret) ∧ dfs (st.s DID) = [] ∧ ∃ id, resE T st l = some (.own id) ∧ st.m id = some o)) (M : Mem) (b : Nat) (hM : M b = none) : CallE P f args M [] (.own b) (upd M b (some o)) := by
  have hoi : o.ids = [] := by obtain ⟨ty, e, xs, rfl | rfl⟩ := ho <;> rfl
  refine ⟨enters_of hf hn hb, fun j hj => by simp [A.ids] at hj; subst hj; rw [upd_same]; rfl, fun j hj => live_upd j hj, fun hw => mwf_some hw (fun i hi => by rw [hoi] at hi; cases hi), ?_⟩
  intro w0 I0 B I w vals hm hv
  have hd1 : ∀ a ∈ args, a.ids = [] := fun a ha => by have := List.all_eq_true.1 hd a ha; simp only [Bool.and_eq_true] at this; simpa using this.1
  have hd2 : ∀ a ∈ args, ∀ l, a ≠ .defs l := fun a ha l e => by have := List.all_eq_true.1 hd a ha; subst e; simp at this
  obtain ⟨hl1, hl2⟩ := of_decide_eq_true hle
  have hlen := rvl_len hv
  refine calls_of_wp hf hb ?_
  have h0 : SR ⟨w, I, w, I, B, fun _ => False⟩ fn.ntmps [] ⟨entry args, Mem.nil⟩ { tmps := vals.toArray ++ Array.replicate (fn.ntmps - vals.toArray.size) undef, defers := [] } w := by
    refine ⟨⟨B, I, ⟨Below.refl _ _, hm.globNow, fun _ _ h => h, fun _ _ h => .inl h, hm.there, fun _ _ h => absurd h (noneSome _), fun _ _ h => absurd h (noneSome _), fun _ _ _ _ h => absurd h (noneSome _), fun _ _ h => absurd h (noneSome _)⟩, Ext.refl _ _, fun _ _ => rfl, rvl_entry hv⟩, fun t j hj => ?_, by simp [hlen]; omega, hl2, by rw [show dfs ((⟨entry args, Mem.nil⟩ : St).s DID) = [] from entry_dfs (fun a ha l e => by subst e; exact hd2 _ ha l rfl)]; rfl, fun j hj => hj.elim⟩
    simp only [entry, List.getD_eq_getElem?_getD] at hj
    cases hx : args[t]? with
    | none => rw [hx] at hj; simp [A.ids] at hj
    | some a => rw [hx] at hj; simp [hd1 a (List.mem_of_getElem? hx)] at hj
  refine wp_mono (hW _ rfl _ w h0) ?_
  rintro e a' w' ⟨st', ⟨he, hdn, id, hres, hid⟩, ⟨⟨B', I', hm', hx', -, hs'⟩, -, -, -, hds, -⟩⟩
  rw [hdn] at hds
  obtain ⟨v, h1, h2⟩ := resE_snd hT hm' hs' hl hres
  obtain ⟨hvB, hsh⟩ : v = B' id ∧ ∃ a n cap, v = .slice a n cap := h2
  have hfoot : ∀ k, foot (upd B b v) b o k → foot B' id o k := fun k hk => by
    obtain ⟨ty, e, xs, rfl | rfl⟩ := ho
    · have hk : (upd B b v b).ownBlock = some k := hk
      rw [upd_same, hvB] at hk; exact hk
    · have hk : (upd B b v b).ownBlock = some k := hk
      rw [upd_same, hvB] at hk; exact hk
  have hE : Ext w w' I I' := ⟨hm'.base, fun q p hq => World.cell?_of_block (w := w) (hm'.below.block q (hm.there q p hq))⟩
  have hob : RO (upd B b v) w' I' b o := by
    have := hm'.objs id o hid
    obtain ⟨ty, e, xs, rfl | rfl⟩ := ho
    · obtain ⟨vs, q1, q2, q3, q4⟩ := this
      exact ⟨vs, by rw [upd_same, hvB]; exact q1, q2, q3, fun k hk => by rw [upd_same, hvB] at hk; exact q4 k hk⟩
    · obtain ⟨vs, q1, q2, q3, q4⟩ := this
      exact ⟨vs, by rw [upd_same, hvB]; exact q1, q2, q3, fun k hk => by rw [upd_same, hvB] at hk; exact q4 k hk⟩
  have hmr := hm.fresh2 (id := b) hM (v := v) (o' := o) hm'.below (fun k hk => hm'.low id o hid k (hfoot k hk)) hE (fun q p hq => (hm'.old q p hq).imp (fun k => k) fun k => ⟨k, hm'.there q p hq⟩) hob hoi
  have hpost : a'.defers = [] ∧ ∃ v, (results fn a'.tmps).run P w' = .ok v w' ∧ ∃ v' B'' I'', Ending.returned v = .returned v' ∧ MR w0 I0 B'' I'' (upd M b (some o)) w' ∧ Ext w w' I I'' ∧ (∀ j, (M j).isSome = true → j ∉ ([] : List Nat) → B'' j = B j) ∧ RV B'' w' I'' (.own b) v' :=
    ⟨hds, v, h1, v, _, I', rfl, hmr, hE, fun j hj _ => upd_ne _ _ (fun e => by subst e; rw [hM] at hj; cases hj), (upd_same B b v).symm, hsh⟩
  rcases he with rfl | rfl
  · exact hpost
  · exact hpost
end V
end Go.Proofs.YtcldeoolglhdoaaDoor
end
section
set_option linter.unusedVariables false
set_option linter.unusedSimpArgs false
namespace Go.Proofs.YtcldeoolglhdoaaDoor
namespace V
open Go.RowKit G C17 D18
theorem def_ok (x : Ins) (m : Mem) : COk Tryd.prog 23 [.agg (cIns x)] m (.c (.int .i64 (dfI x))) := by
  have hof := fun m => of_ok x.kind m
  obtain ⟨kind, dst, a, b, c, to', els, num, name, args⟩ := x
  simp only at hof
  unfold shpC at hof
  refine (ok_pure tab_ok Tryd.func23 (by kernel_rfl) rfl rfl (by rfl) (by rfl) (by rfl) (fun R hkeep => ?_) m)
  repeat (first | refine W.seq ?_ | refine W.block ?_ | refine W.skip ?_ | refine W.exit ?_ | refine W.region tab_ok 0 (by decide) (exec_run (by simp only [exa, beq_self_eq_true, ByteArray.size, Nat.reduceAdd, Nat.reduceLeDiff, Nat.reduceEqDiff, Nat.reduceMul, Int.reduceToNat, reduceIte, Int.reduceLE, Int.reduceNeg, cIns]; rfl)) ?_)
  refine W.regionK tab_ok 0 (by decide) ?_
  refine runk_split 2 (by simp only [exa, beq_self_eq_true, ByteArray.size, Nat.reduceAdd, Nat.reduceLeDiff, Nat.reduceEqDiff, Nat.reduceMul, Int.reduceToNat, reduceIte, Int.reduceLE, Int.reduceNeg, cIns]; rfl) ?_
  refine runk_call rfl rfl rfl rfl rfl (by simp) (cvs_cons cv_refl cvs_nil) (hof _) ?_
  refine runk_exec (by simp only [exa, beq_self_eq_true, ByteArray.size, Nat.reduceAdd, Nat.reduceLeDiff, Nat.reduceEqDiff, Nat.reduceMul, Int.reduceToNat, reduceIte, Int.reduceLE, Int.reduceNeg]; rfl) ?_
  cases hd : hasD kind with
  | true =>
    have e : dfI ⟨kind, dst, a, b, c, to', els, num, name, args⟩ = dst := by unfold dfI; rw [if_pos hd]
    repeat (first | refine W.seq ?_ | refine W.block ?_ | refine W.skip ?_ | refine W.exit ?_ | refine W.region tab_ok 0 (by decide) (exec_run (by simp only [exa, beq_self_eq_true, ByteArray.size, Nat.reduceAdd, Nat.reduceLeDiff, Nat.reduceEqDiff, Nat.reduceMul, Int.reduceToNat, reduceIte, Int.reduceLE, Int.reduceNeg, hd]; rfl)) ?_)
    refine W.cond rfl (fun _ => ?_) (fun h => absurd h (by simp))
    repeat (first | refine W.seq ?_ | refine W.block ?_ | refine W.skip ?_ | refine W.exit ?_ | refine W.region tab_ok 0 (by decide) (exec_run (by simp only [exa, beq_self_eq_true, ByteArray.size, Nat.reduceAdd, Nat.reduceLeDiff, Nat.reduceEqDiff, Nat.reduceMul, Int.reduceToNat, reduceIte, Int.reduceLE, Int.reduceNeg, cIns]; rfl)) ?_)
    refine W.ret ⟨.inr rfl, by rfl, ?_⟩
    simp only [Tryd.f23, resA, resOne, toT, fin, exa, beq_self_eq_true, ByteArray.size, Nat.reduceAdd, Nat.reduceLeDiff, Nat.reduceEqDiff, Nat.reduceMul, Int.reduceToNat, reduceIte, Int.reduceLE, Int.reduceNeg, e]
  | false =>
    have e : dfI ⟨kind, dst, a, b, c, to', els, num, name, args⟩ = -1 := by unfold dfI; rw [if_neg (by simp [hd])]
    repeat (first | refine W.seq ?_ | refine W.block ?_ | refine W.skip ?_ | refine W.exit ?_ | refine W.region tab_ok 0 (by decide) (exec_run (by simp only [exa, beq_self_eq_true, ByteArray.size, Nat.reduceAdd, Nat.reduceLeDiff, Nat.reduceEqDiff, Nat.reduceMul, Int.reduceToNat, reduceIte, Int.reduceLE, Int.reduceNeg, hd]; rfl)) ?_)
    refine W.cond rfl (fun h => absurd h (by simp)) (fun _ => ?_)
    repeat (first | refine W.seq ?_ | refine W.block ?_ | refine W.skip ?_ | refine W.exit ?_ | refine W.region tab_ok 0 (by decide) (exec_run (by simp only [exa, beq_self_eq_true, ByteArray.size, Nat.reduceAdd, Nat.reduceLeDiff, Nat.reduceEqDiff, Nat.reduceMul, Int.reduceToNat, reduceIte, Int.reduceLE, Int.reduceNeg]; rfl)) ?_)
    refine W.ret ⟨.inr rfl, by rfl, ?_⟩
    simp only [Tryd.f23, resA, resOne, toT, fin, exa, beq_self_eq_true, ByteArray.size, Nat.reduceAdd, Nat.reduceLeDiff, Nat.reduceEqDiff, Nat.reduceMul, Int.reduceToNat, reduceIte, Int.reduceLE, Int.reduceNeg, e]
set_option maxHeartbeats 8000000 in
theorem uses_ok (x : Ins) (hx : x.args.length ≤ 1000000000000) (m : Mem) : COk Tryd.prog 33 [.agg (cIns x)] m (.c (.sl ((usI x).map cZ))) := by
  have hof := fun m => of_ok x.kind m
  obtain ⟨kind, dst, a, b, c, to', els, num, name, args⟩ := x
  simp only at hof hx
  unfold shpC at hof
  refine (ok_pure tab_ok Tryd.func33 (by kernel_rfl) rfl rfl (by rfl) (by rfl) (by rfl) (fun R hkeep => ?_) m)
  repeat (first | refine W.seq ?_ | refine W.block ?_ | refine W.skip ?_ | refine W.exit ?_ | refine W.region tab_ok 0 (by decide) (exec_run (by simp only [exa, beq_self_eq_true, ByteArray.size, Nat.reduceAdd, Nat.reduceLeDiff, Nat.reduceEqDiff, Nat.reduceMul, Int.reduceToNat, reduceIte, Int.reduceLE, Int.reduceNeg, cIns]; rfl)) ?_)
  refine W.regionK tab_ok 0 (by decide) ?_
  refine runk_split 2 (by simp only [exa, beq_self_eq_true, ByteArray.size, Nat.reduceAdd, Nat.reduceLeDiff, Nat.reduceEqDiff, Nat.reduceMul, Int.reduceToNat, reduceIte, Int.reduceLE, Int.reduceNeg, cIns]; rfl) ?_
  refine runk_call rfl rfl rfl rfl rfl (by simp) (cvs_cons cv_refl cvs_nil) (hof _) ?_
  refine runk_exec (by simp only [exa, beq_self_eq_true, ByteArray.size, Nat.reduceAdd, Nat.reduceLeDiff, Nat.reduceEqDiff, Nat.reduceMul, Int.reduceToNat, reduceIte, Int.reduceLE, Int.reduceNeg]; rfl) ?_
  refine W.newArr 2 50 3 1 rfl rfl ?_
  cases hA : hasA kind <;> cases hB : hasB kind <;> cases hC : hasC kind <;> cases hR : hasR kind
  all_goals
    (repeat (first | refine W.seq ?_ | refine W.block ?_ | refine W.skip ?_ | refine W.exit ?_))
    refine W.region tab_ok 0 (by decide) (exec_run (by simp only [exa, beq_self_eq_true, ByteArray.size, Nat.reduceAdd, Nat.reduceLeDiff, Nat.reduceEqDiff, Nat.reduceMul, Int.reduceToNat, reduceIte, Int.reduceLE, Int.reduceNeg, hA, hB, hC, hR]; rfl)) ?_
    first
      | refine W.cond (b := false) rfl (fun h => absurd h (by simp)) (fun _ => ?_)
      | refine W.cond (b := true) rfl (fun _ => ?_) (fun h => absurd h (by simp))
        (repeat (first | refine W.seq ?_ | refine W.block ?_ | refine W.skip ?_ | refine W.exit ?_))
        refine W.regionK tab_ok 0 (by decide) ?_
        refine runk_split 4 (by simp only [exa, beq_self_eq_true, ByteArray.size, Nat.reduceAdd, Nat.reduceLeDiff, Nat.reduceEqDiff, Nat.reduceMul, Int.reduceToNat, reduceIte, Int.reduceLE, Int.reduceNeg, cIns]; rfl) ?_
        refine runk_append tab_ok 50 rfl rfl rfl rfl rfl rfl rfl rfl (by first | rfl | (simp only [exa, beq_self_eq_true, ByteArray.size, Nat.reduceAdd, Nat.reduceLeDiff, Nat.reduceEqDiff, Nat.reduceMul, Int.reduceToNat, reduceIte, Int.reduceLE, Int.reduceNeg, cIns]; rfl)) rfl rfl rfl rfl (nokeep hkeep) (by intro z hz; first | (simp at hz; subst hz; rfl) | (obtain ⟨q, -, rfl⟩ := List.mem_map.1 hz; rfl)) (by simp only [List.length_map, List.length_append, List.length_cons, List.length_nil]; omega) (by decide) ?_
        refine runk_exec (by simp only [exa, beq_self_eq_true, ByteArray.size, Nat.reduceAdd, Nat.reduceLeDiff, Nat.reduceEqDiff, Nat.reduceMul, Int.reduceToNat, reduceIte, Int.reduceLE, Int.reduceNeg]; rfl) ?_
    (repeat (first | refine W.seq ?_ | refine W.block ?_ | refine W.skip ?_ | refine W.exit ?_))
    refine W.region tab_ok 0 (by decide) (exec_run (by simp only [exa, beq_self_eq_true, ByteArray.size, Nat.reduceAdd, Nat.reduceLeDiff, Nat.reduceEqDiff, Nat.reduceMul, Int.reduceToNat, reduceIte, Int.reduceLE, Int.reduceNeg, hA, hB, hC, hR]; rfl)) ?_
    first
      | refine W.cond (b := false) rfl (fun h => absurd h (by simp)) (fun _ => ?_)
      | refine W.cond (b := true) rfl (fun _ => ?_) (fun h => absurd h (by simp))
        (repeat (first | refine W.seq ?_ | refine W.block ?_ | refine W.skip ?_ | refine W.exit ?_))
        refine W.regionK tab_ok 0 (by decide) ?_
        refine runk_split 4 (by simp only [exa, beq_self_eq_true, ByteArray.size, Nat.reduceAdd, Nat.reduceLeDiff, Nat.reduceEqDiff, Nat.reduceMul, Int.reduceToNat, reduceIte, Int.reduceLE, Int.reduceNeg, cIns]; rfl) ?_
        refine runk_append tab_ok 50 rfl rfl rfl rfl rfl rfl rfl rfl (by first | rfl | (simp only [exa, beq_self_eq_true, ByteArray.size, Nat.reduceAdd, Nat.reduceLeDiff, Nat.reduceEqDiff, Nat.reduceMul, Int.reduceToNat, reduceIte, Int.reduceLE, Int.reduceNeg, cIns]; rfl)) rfl rfl rfl rfl (nokeep hkeep) (by intro z hz; first | (simp at hz; subst hz; rfl) | (obtain ⟨q, -, rfl⟩ := List.mem_map.1 hz; rfl)) (by simp only [List.length_map, List.length_append, List.length_cons, List.length_nil]; omega) (by decide) ?_
        refine runk_exec (by simp only [exa, beq_self_eq_true, ByteArray.size, Nat.reduceAdd, Nat.reduceLeDiff, Nat.reduceEqDiff, Nat.reduceMul, Int.reduceToNat, reduceIte, Int.reduceLE, Int.reduceNeg]; rfl) ?_
    (repeat (first | refine W.seq ?_ | refine W.block ?_ | refine W.skip ?_ | refine W.exit ?_))
    refine W.region tab_ok 0 (by decide) (exec_run (by simp only [exa, beq_self_eq_true, ByteArray.size, Nat.reduceAdd, Nat.reduceLeDiff, Nat.reduceEqDiff, Nat.reduceMul, Int.reduceToNat, reduceIte, Int.reduceLE, Int.reduceNeg, hA, hB, hC, hR]; rfl)) ?_
    first
      | refine W.cond (b := false) rfl (fun h => absurd h (by simp)) (fun _ => ?_)
      | refine W.cond (b := true) rfl (fun _ => ?_) (fun h => absurd h (by simp))
        (repeat (first | refine W.seq ?_ | refine W.block ?_ | refine W.skip ?_ | refine W.exit ?_))
        refine W.regionK tab_ok 0 (by decide) ?_
        refine runk_split 4 (by simp only [exa, beq_self_eq_true, ByteArray.size, Nat.reduceAdd, Nat.reduceLeDiff, Nat.reduceEqDiff, Nat.reduceMul, Int.reduceToNat, reduceIte, Int.reduceLE, Int.reduceNeg, cIns]; rfl) ?_
        refine runk_append tab_ok 50 rfl rfl rfl rfl rfl rfl rfl rfl (by first | rfl | (simp only [exa, beq_self_eq_true, ByteArray.size, Nat.reduceAdd, Nat.reduceLeDiff, Nat.reduceEqDiff, Nat.reduceMul, Int.reduceToNat, reduceIte, Int.reduceLE, Int.reduceNeg, cIns]; rfl)) rfl rfl rfl rfl (nokeep hkeep) (by intro z hz; first | (simp at hz; subst hz; rfl) | (obtain ⟨q, -, rfl⟩ := List.mem_map.1 hz; rfl)) (by simp only [List.length_map, List.length_append, List.length_cons, List.length_nil]; omega) (by decide) ?_
        refine runk_exec (by simp only [exa, beq_self_eq_true, ByteArray.size, Nat.reduceAdd, Nat.reduceLeDiff, Nat.reduceEqDiff, Nat.reduceMul, Int.reduceToNat, reduceIte, Int.reduceLE, Int.reduceNeg]; rfl) ?_
    (repeat (first | refine W.seq ?_ | refine W.block ?_ | refine W.skip ?_ | refine W.exit ?_))
    refine W.region tab_ok 0 (by decide) (exec_run (by simp only [exa, beq_self_eq_true, ByteArray.size, Nat.reduceAdd, Nat.reduceLeDiff, Nat.reduceEqDiff, Nat.reduceMul, Int.reduceToNat, reduceIte, Int.reduceLE, Int.reduceNeg, hA, hB, hC, hR]; rfl)) ?_
    first
      | refine W.cond (b := false) rfl (fun h => absurd h (by simp)) (fun _ => ?_)
      | refine W.cond (b := true) rfl (fun _ => ?_) (fun h => absurd h (by simp))
        (repeat (first | refine W.seq ?_ | refine W.block ?_ | refine W.skip ?_ | refine W.exit ?_))
        refine W.regionK tab_ok 0 (by decide) ?_
        refine runk_split 3 (by simp only [exa, beq_self_eq_true, ByteArray.size, Nat.reduceAdd, Nat.reduceLeDiff, Nat.reduceEqDiff, Nat.reduceMul, Int.reduceToNat, reduceIte, Int.reduceLE, Int.reduceNeg, cIns]; rfl) ?_
        refine runk_append tab_ok 50 rfl rfl rfl rfl rfl rfl rfl rfl (by first | rfl | (simp only [exa, beq_self_eq_true, ByteArray.size, Nat.reduceAdd, Nat.reduceLeDiff, Nat.reduceEqDiff, Nat.reduceMul, Int.reduceToNat, reduceIte, Int.reduceLE, Int.reduceNeg, cIns]; rfl)) rfl rfl rfl rfl (nokeep hkeep) (by intro z hz; first | (simp at hz; subst hz; rfl) | (obtain ⟨q, -, rfl⟩ := List.mem_map.1 hz; rfl)) (by simp only [List.length_map, List.length_append, List.length_cons, List.length_nil]; omega) (by decide) ?_
        refine runk_exec (by simp only [exa, beq_self_eq_true, ByteArray.size, Nat.reduceAdd, Nat.reduceLeDiff, Nat.reduceEqDiff, Nat.reduceMul, Int.reduceToNat, reduceIte, Int.reduceLE, Int.reduceNeg]; rfl) ?_
    repeat (first | refine W.seq ?_ | refine W.block ?_ | refine W.skip ?_ | refine W.exit ?_ | refine W.region tab_ok 0 (by decide) (exec_run (by simp only [exa, beq_self_eq_true, ByteArray.size, Nat.reduceAdd, Nat.reduceLeDiff, Nat.reduceEqDiff, Nat.reduceMul, Int.reduceToNat, reduceIte, Int.reduceLE, Int.reduceNeg]; rfl)) ?_)
    refine W.ret ⟨.inr rfl, by rfl, ?_⟩
    simp only [Tryd.f33, resA, resOne, toT, fin, exa, beq_self_eq_true, ByteArray.size, Nat.reduceAdd, Nat.reduceLeDiff, Nat.reduceEqDiff, Nat.reduceMul, Int.reduceToNat, reduceIte, Int.reduceLE, Int.reduceNeg]
    simp [usI, hA, hB, hC, hR, cZ]
set_option maxHeartbeats 8000000 in
theorem usesE_ok (x : Ins) (hx : x.args.length ≤ 1000000000000) (M : Mem) (b : Nat) (hM : M b = none) : CallE Tryd.prog 33 [.agg (cIns x)] M [] (.own b) (upd M b (some (.arr 3 1 ((usI x).map cZ)))) := by
  have hof := fun m => of_ok x.kind m
  obtain ⟨kind, dst, a, b', c, to', els, num, name, args⟩ := x
  simp only at hof hx
  unfold shpC at hof
  refine ok_own (args := [.agg (cIns ⟨kind, dst, a, b', c, to', els, num, name, args⟩)]) (o := .arr 3 1 ((usI ⟨kind, dst, a, b', c, to', els, num, name, args⟩).map cZ)) tab_ok Tryd.func33 (by kernel_rfl) rfl rfl (by rfl) (by rfl) ⟨_, _, _, .inl rfl⟩ (fun R hkeep => ?_) M b hM
  repeat (first | refine W.seq ?_ | refine W.block ?_ | refine W.skip ?_ | refine W.exit ?_ | refine W.region tab_ok 0 (by decide) (exec_run (by simp only [exa, beq_self_eq_true, ByteArray.size, Nat.reduceAdd, Nat.reduceLeDiff, Nat.reduceEqDiff, Nat.reduceMul, Int.reduceToNat, reduceIte, Int.reduceLE, Int.reduceNeg, cIns]; rfl)) ?_)
  refine W.regionK tab_ok 0 (by decide) ?_
  refine runk_split 2 (by simp only [exa, beq_self_eq_true, ByteArray.size, Nat.reduceAdd, Nat.reduceLeDiff, Nat.reduceEqDiff, Nat.reduceMul, Int.reduceToNat, reduceIte, Int.reduceLE, Int.reduceNeg, cIns]; rfl) ?_
  refine runk_call rfl rfl rfl rfl rfl (by simp) (cvs_cons cv_refl cvs_nil) (hof _) ?_
  refine runk_exec (by simp only [exa, beq_self_eq_true, ByteArray.size, Nat.reduceAdd, Nat.reduceLeDiff, Nat.reduceEqDiff, Nat.reduceMul, Int.reduceToNat, reduceIte, Int.reduceLE, Int.reduceNeg]; rfl) ?_
  refine W.newArr 2 50 3 1 rfl rfl ?_
  cases hA : hasA kind <;> cases hB : hasB kind <;> cases hC : hasC kind <;> cases hR : hasR kind
  all_goals
    (repeat (first | refine W.seq ?_ | refine W.block ?_ | refine W.skip ?_ | refine W.exit ?_))
    refine W.region tab_ok 0 (by decide) (exec_run (by simp only [exa, beq_self_eq_true, ByteArray.size, Nat.reduceAdd, Nat.reduceLeDiff, Nat.reduceEqDiff, Nat.reduceMul, Int.reduceToNat, reduceIte, Int.reduceLE, Int.reduceNeg, hA, hB, hC, hR]; rfl)) ?_
    first
      | refine W.cond (b := false) rfl (fun h => absurd h (by simp)) (fun _ => ?_)
      | refine W.cond (b := true) rfl (fun _ => ?_) (fun h => absurd h (by simp))
        (repeat (first | refine W.seq ?_ | refine W.block ?_ | refine W.skip ?_ | refine W.exit ?_))
        refine W.regionK tab_ok 0 (by decide) ?_
        refine runk_split 4 (by simp only [exa, beq_self_eq_true, ByteArray.size, Nat.reduceAdd, Nat.reduceLeDiff, Nat.reduceEqDiff, Nat.reduceMul, Int.reduceToNat, reduceIte, Int.reduceLE, Int.reduceNeg, cIns]; rfl) ?_
        refine runk_append tab_ok 50 rfl rfl rfl rfl rfl rfl rfl rfl (by first | rfl | (simp only [exa, beq_self_eq_true, ByteArray.size, Nat.reduceAdd, Nat.reduceLeDiff, Nat.reduceEqDiff, Nat.reduceMul, Int.reduceToNat, reduceIte, Int.reduceLE, Int.reduceNeg, cIns]; rfl)) rfl rfl rfl rfl (nokeep hkeep) (by intro z hz; first | (simp at hz; subst hz; rfl) | (obtain ⟨q, -, rfl⟩ := List.mem_map.1 hz; rfl)) (by simp only [List.length_map, List.length_append, List.length_cons, List.length_nil]; omega) (by decide) ?_
        refine runk_exec (by simp only [exa, beq_self_eq_true, ByteArray.size, Nat.reduceAdd, Nat.reduceLeDiff, Nat.reduceEqDiff, Nat.reduceMul, Int.reduceToNat, reduceIte, Int.reduceLE, Int.reduceNeg]; rfl) ?_
    (repeat (first | refine W.seq ?_ | refine W.block ?_ | refine W.skip ?_ | refine W.exit ?_))
    refine W.region tab_ok 0 (by decide) (exec_run (by simp only [exa, beq_self_eq_true, ByteArray.size, Nat.reduceAdd, Nat.reduceLeDiff, Nat.reduceEqDiff, Nat.reduceMul, Int.reduceToNat, reduceIte, Int.reduceLE, Int.reduceNeg, hA, hB, hC, hR]; rfl)) ?_
    first
      | refine W.cond (b := false) rfl (fun h => absurd h (by simp)) (fun _ => ?_)
      | refine W.cond (b := true) rfl (fun _ => ?_) (fun h => absurd h (by simp))
        (repeat (first | refine W.seq ?_ | refine W.block ?_ | refine W.skip ?_ | refine W.exit ?_))
        refine W.regionK tab_ok 0 (by decide) ?_
        refine runk_split 4 (by simp only [exa, beq_self_eq_true, ByteArray.size, Nat.reduceAdd, Nat.reduceLeDiff, Nat.reduceEqDiff, Nat.reduceMul, Int.reduceToNat, reduceIte, Int.reduceLE, Int.reduceNeg, cIns]; rfl) ?_
        refine runk_append tab_ok 50 rfl rfl rfl rfl rfl rfl rfl rfl (by first | rfl | (simp only [exa, beq_self_eq_true, ByteArray.size, Nat.reduceAdd, Nat.reduceLeDiff, Nat.reduceEqDiff, Nat.reduceMul, Int.reduceToNat, reduceIte, Int.reduceLE, Int.reduceNeg, cIns]; rfl)) rfl rfl rfl rfl (nokeep hkeep) (by intro z hz; first | (simp at hz; subst hz; rfl) | (obtain ⟨q, -, rfl⟩ := List.mem_map.1 hz; rfl)) (by simp only [List.length_map, List.length_append, List.length_cons, List.length_nil]; omega) (by decide) ?_
        refine runk_exec (by simp only [exa, beq_self_eq_true, ByteArray.size, Nat.reduceAdd, Nat.reduceLeDiff, Nat.reduceEqDiff, Nat.reduceMul, Int.reduceToNat, reduceIte, Int.reduceLE, Int.reduceNeg]; rfl) ?_
    (repeat (first | refine W.seq ?_ | refine W.block ?_ | refine W.skip ?_ | refine W.exit ?_))
    refine W.region tab_ok 0 (by decide) (exec_run (by simp only [exa, beq_self_eq_true, ByteArray.size, Nat.reduceAdd, Nat.reduceLeDiff, Nat.reduceEqDiff, Nat.reduceMul, Int.reduceToNat, reduceIte, Int.reduceLE, Int.reduceNeg, hA, hB, hC, hR]; rfl)) ?_
    first
      | refine W.cond (b := false) rfl (fun h => absurd h (by simp)) (fun _ => ?_)
      | refine W.cond (b := true) rfl (fun _ => ?_) (fun h => absurd h (by simp))
        (repeat (first | refine W.seq ?_ | refine W.block ?_ | refine W.skip ?_ | refine W.exit ?_))
        refine W.regionK tab_ok 0 (by decide) ?_
        refine runk_split 4 (by simp only [exa, beq_self_eq_true, ByteArray.size, Nat.reduceAdd, Nat.reduceLeDiff, Nat.reduceEqDiff, Nat.reduceMul, Int.reduceToNat, reduceIte, Int.reduceLE, Int.reduceNeg, cIns]; rfl) ?_
        refine runk_append tab_ok 50 rfl rfl rfl rfl rfl rfl rfl rfl (by first | rfl | (simp only [exa, beq_self_eq_true, ByteArray.size, Nat.reduceAdd, Nat.reduceLeDiff, Nat.reduceEqDiff, Nat.reduceMul, Int.reduceToNat, reduceIte, Int.reduceLE, Int.reduceNeg, cIns]; rfl)) rfl rfl rfl rfl (nokeep hkeep) (by intro z hz; first | (simp at hz; subst hz; rfl) | (obtain ⟨q, -, rfl⟩ := List.mem_map.1 hz; rfl)) (by simp only [List.length_map, List.length_append, List.length_cons, List.length_nil]; omega) (by decide) ?_
        refine runk_exec (by simp only [exa, beq_self_eq_true, ByteArray.size, Nat.reduceAdd, Nat.reduceLeDiff, Nat.reduceEqDiff, Nat.reduceMul, Int.reduceToNat, reduceIte, Int.reduceLE, Int.reduceNeg]; rfl) ?_
    (repeat (first | refine W.seq ?_ | refine W.block ?_ | refine W.skip ?_ | refine W.exit ?_))
    refine W.region tab_ok 0 (by decide) (exec_run (by simp only [exa, beq_self_eq_true, ByteArray.size, Nat.reduceAdd, Nat.reduceLeDiff, Nat.reduceEqDiff, Nat.reduceMul, Int.reduceToNat, reduceIte, Int.reduceLE, Int.reduceNeg, hA, hB, hC, hR]; rfl)) ?_
    first
      | refine W.cond (b := false) rfl (fun h => absurd h (by simp)) (fun _ => ?_)
      | refine W.cond (b := true) rfl (fun _ => ?_) (fun h => absurd h (by simp))
        (repeat (first | refine W.seq ?_ | refine W.block ?_ | refine W.skip ?_ | refine W.exit ?_))
        refine W.regionK tab_ok 0 (by decide) ?_
        refine runk_split 3 (by simp only [exa, beq_self_eq_true, ByteArray.size, Nat.reduceAdd, Nat.reduceLeDiff, Nat.reduceEqDiff, Nat.reduceMul, Int.reduceToNat, reduceIte, Int.reduceLE, Int.reduceNeg, cIns]; rfl) ?_
        refine runk_append tab_ok 50 rfl rfl rfl rfl rfl rfl rfl rfl (by first | rfl | (simp only [exa, beq_self_eq_true, ByteArray.size, Nat.reduceAdd, Nat.reduceLeDiff, Nat.reduceEqDiff, Nat.reduceMul, Int.reduceToNat, reduceIte, Int.reduceLE, Int.reduceNeg, cIns]; rfl)) rfl rfl rfl rfl (nokeep hkeep) (by intro z hz; first | (simp at hz; subst hz; rfl) | (obtain ⟨q, -, rfl⟩ := List.mem_map.1 hz; rfl)) (by simp only [List.length_map, List.length_append, List.length_cons, List.length_nil]; omega) (by decide) ?_
        refine runk_exec (by simp only [exa, beq_self_eq_true, ByteArray.size, Nat.reduceAdd, Nat.reduceLeDiff, Nat.reduceEqDiff, Nat.reduceMul, Int.reduceToNat, reduceIte, Int.reduceLE, Int.reduceNeg]; rfl) ?_
    repeat (first | refine W.seq ?_ | refine W.block ?_ | refine W.skip ?_ | refine W.exit ?_ | refine W.region tab_ok 0 (by decide) (exec_run (by simp only [exa, beq_self_eq_true, ByteArray.size, Nat.reduceAdd, Nat.reduceLeDiff, Nat.reduceEqDiff, Nat.reduceMul, Int.reduceToNat, reduceIte, Int.reduceLE, Int.reduceNeg]; rfl)) ?_)
    refine W.ret ⟨.inr rfl, by rfl, 50, ?_, ?_⟩
    · simp only [Tryd.f33, resE, resOne, exa, beq_self_eq_true, ByteArray.size, Nat.reduceAdd, Nat.reduceLeDiff, Nat.reduceEqDiff, Nat.reduceMul, Int.reduceToNat, reduceIte, Int.reduceLE, Int.reduceNeg]
    · simp only [exa, beq_self_eq_true, ByteArray.size, Nat.reduceAdd, Nat.reduceLeDiff, Nat.reduceEqDiff, Nat.reduceMul, Int.reduceToNat, reduceIte, Int.reduceLE, Int.reduceNeg]
      simp [usI, hA, hB, hC, hR, cZ]
end V
end Go.Proofs.YtcldeoolglhdoaaDoor
end
section
set_option linter.unusedVariables false
set_option linter.unusedSimpArgs false
namespace Go.Proofs.YtcldeoolglhdoaaDoor
namespace V
open Go.RowKit G C17 D18
theorem refDef_ok (x : Ins) (m : Mem) : COk Tryd.prog 14 [.agg (cIns x)] m (.c (.int .i64 (dfI x))) := by
  have hd' := fun m => hasp_ok x.kind 100 (by decide) m
  rw [(has_letter x.kind).1] at hd'
  obtain ⟨kind, dst, a, b, c, to', els, num, name, args⟩ := x
  simp only [Int.cast_ofNat_Int] at hd'
  refine (ok_pure tab_ok Tryd.func14 (by kernel_rfl) rfl rfl (by rfl) (by rfl) (by rfl) (fun R hkeep => ?_) m)
  repeat (first | refine W.seq ?_ | refine W.block ?_ | refine W.skip ?_ | refine W.exit ?_ | refine W.region tab_ok 0 (by decide) (exec_run (by simp only [exa, beq_self_eq_true, ByteArray.size, Nat.reduceAdd, Nat.reduceLeDiff, Nat.reduceEqDiff, Nat.reduceMul, Int.reduceToNat, reduceIte, Int.reduceLE, Int.reduceNeg, cIns]; rfl)) ?_)
  refine W.regionK tab_ok 0 (by decide) ?_
  refine runk_split 2 (by simp only [exa, beq_self_eq_true, ByteArray.size, Nat.reduceAdd, Nat.reduceLeDiff, Nat.reduceEqDiff, Nat.reduceMul, Int.reduceToNat, reduceIte, Int.reduceLE, Int.reduceNeg, cIns]; rfl) ?_
  refine runk_call rfl rfl rfl rfl rfl (by simp) (cvs_cons cv_refl (cvs_cons cv_refl cvs_nil)) (hd' _) ?_
  refine runk_exec (by simp only [exa, beq_self_eq_true, ByteArray.size, Nat.reduceAdd, Nat.reduceLeDiff, Nat.reduceEqDiff, Nat.reduceMul, Int.reduceToNat, reduceIte, Int.reduceLE, Int.reduceNeg]; rfl) ?_
  cases hd : hasD kind with
  | true =>
    have e : dfI ⟨kind, dst, a, b, c, to', els, num, name, args⟩ = dst := by unfold dfI; rw [if_pos hd]
    refine W.cond rfl (fun _ => ?_) (fun h => absurd h (by simp))
    repeat (first | refine W.seq ?_ | refine W.block ?_ | refine W.skip ?_ | refine W.exit ?_ | refine W.region tab_ok 0 (by decide) (exec_run (by simp only [exa, beq_self_eq_true, ByteArray.size, Nat.reduceAdd, Nat.reduceLeDiff, Nat.reduceEqDiff, Nat.reduceMul, Int.reduceToNat, reduceIte, Int.reduceLE, Int.reduceNeg, cIns]; rfl)) ?_)
    refine W.ret ⟨.inr rfl, by rfl, ?_⟩
    simp only [Tryd.f14, resA, resOne, toT, fin, exa, beq_self_eq_true, ByteArray.size, Nat.reduceAdd, Nat.reduceLeDiff, Nat.reduceEqDiff, Nat.reduceMul, Int.reduceToNat, reduceIte, Int.reduceLE, Int.reduceNeg, e]
  | false =>
    have e : dfI ⟨kind, dst, a, b, c, to', els, num, name, args⟩ = -1 := by unfold dfI; rw [if_neg (by simp [hd])]
    refine W.cond rfl (fun h => absurd h (by simp)) (fun _ => ?_)
    repeat (first | refine W.seq ?_ | refine W.block ?_ | refine W.skip ?_ | refine W.exit ?_ | refine W.region tab_ok 0 (by decide) (exec_run (by simp only [exa, beq_self_eq_true, ByteArray.size, Nat.reduceAdd, Nat.reduceLeDiff, Nat.reduceEqDiff, Nat.reduceMul, Int.reduceToNat, reduceIte, Int.reduceLE, Int.reduceNeg]; rfl)) ?_)
    refine W.ret ⟨.inr rfl, by rfl, ?_⟩
    simp only [Tryd.f14, resA, resOne, toT, fin, exa, beq_self_eq_true, ByteArray.size, Nat.reduceAdd, Nat.reduceLeDiff, Nat.reduceEqDiff, Nat.reduceMul, Int.reduceToNat, reduceIte, Int.reduceLE, Int.reduceNeg, e]
set_option maxHeartbeats 8000000 in
theorem refUses_ok (x : Ins) (hx : x.args.length ≤ 1000000000000) (m : Mem) : COk Tryd.prog 13 [.agg (cIns x)] m (.c (.sl ((usI x).map cZ))) := by
  obtain ⟨-, l1, l2, l3, l4⟩ := has_letter x.kind
  have h1 := fun m => hasp_ok x.kind 97 (by decide) m
  have h2 := fun m => hasp_ok x.kind 98 (by decide) m
  have h3 := fun m => hasp_ok x.kind 99 (by decide) m
  have h4 := fun m => hasp_ok x.kind 114 (by decide) m
  rw [l1] at h1
  rw [l2] at h2
  rw [l3] at h3
  rw [l4] at h4
  obtain ⟨kind, dst, a, b, c, to', els, num, name, args⟩ := x
  simp only [Int.cast_ofNat_Int] at h1 h2 h3 h4 hx
  refine (ok_pure tab_ok Tryd.func13 (by kernel_rfl) rfl rfl (by rfl) (by rfl) (by rfl) (fun R hkeep => ?_) m)
  repeat (first | refine W.seq ?_ | refine W.block ?_ | refine W.skip ?_ | refine W.exit ?_ | refine W.region tab_ok 0 (by decide) (exec_run (by simp only [exa, beq_self_eq_true, ByteArray.size, Nat.reduceAdd, Nat.reduceLeDiff, Nat.reduceEqDiff, Nat.reduceMul, Int.reduceToNat, reduceIte, Int.reduceLE, Int.reduceNeg, cIns]; rfl)) ?_)
  refine W.newArr 3 50 3 1 rfl rfl ?_
  cases hA : hasA kind <;> cases hB : hasB kind <;> cases hC : hasC kind <;> cases hR : hasR kind
  all_goals
    rw [hA] at h1
    rw [hB] at h2
    rw [hC] at h3
    rw [hR] at h4
    (repeat (first | refine W.seq ?_ | refine W.block ?_ | refine W.skip ?_ | refine W.exit ?_))
    refine W.regionK tab_ok 0 (by decide) ?_
    refine runk_split 2 (by simp only [exa, beq_self_eq_true, ByteArray.size, Nat.reduceAdd, Nat.reduceLeDiff, Nat.reduceEqDiff, Nat.reduceMul, Int.reduceToNat, reduceIte, Int.reduceLE, Int.reduceNeg, cIns]; rfl) ?_
    refine runk_call rfl rfl rfl rfl rfl (by simp) (cvs_cons cv_refl (cvs_cons cv_refl cvs_nil)) (h1 _) ?_
    refine runk_exec (by simp only [exa, beq_self_eq_true, ByteArray.size, Nat.reduceAdd, Nat.reduceLeDiff, Nat.reduceEqDiff, Nat.reduceMul, Int.reduceToNat, reduceIte, Int.reduceLE, Int.reduceNeg]; rfl) ?_
    first
      | refine W.cond (b := false) rfl (fun h => absurd h (by simp)) (fun _ => ?_)
      | refine W.cond (b := true) rfl (fun _ => ?_) (fun h => absurd h (by simp))
        (repeat (first | refine W.seq ?_ | refine W.block ?_ | refine W.skip ?_ | refine W.exit ?_))
        refine W.regionK tab_ok 0 (by decide) ?_
        refine runk_split 4 (by simp only [exa, beq_self_eq_true, ByteArray.size, Nat.reduceAdd, Nat.reduceLeDiff, Nat.reduceEqDiff, Nat.reduceMul, Int.reduceToNat, reduceIte, Int.reduceLE, Int.reduceNeg, cIns]; rfl) ?_
        refine runk_append tab_ok 50 rfl rfl rfl rfl rfl rfl rfl rfl (by first | rfl | (simp only [exa, beq_self_eq_true, ByteArray.size, Nat.reduceAdd, Nat.reduceLeDiff, Nat.reduceEqDiff, Nat.reduceMul, Int.reduceToNat, reduceIte, Int.reduceLE, Int.reduceNeg, cIns]; rfl)) rfl rfl rfl rfl (nokeep hkeep) (by intro z hz; first | (simp at hz; subst hz; rfl) | (obtain ⟨q, -, rfl⟩ := List.mem_map.1 hz; rfl)) (by simp only [List.length_map, List.length_append, List.length_cons, List.length_nil]; omega) (by decide) ?_
        refine runk_exec (by simp only [exa, beq_self_eq_true, ByteArray.size, Nat.reduceAdd, Nat.reduceLeDiff, Nat.reduceEqDiff, Nat.reduceMul, Int.reduceToNat, reduceIte, Int.reduceLE, Int.reduceNeg]; rfl) ?_
    (repeat (first | refine W.seq ?_ | refine W.block ?_ | refine W.skip ?_ | refine W.exit ?_))
    refine W.regionK tab_ok 0 (by decide) ?_
    refine runk_split 2 (by simp only [exa, beq_self_eq_true, ByteArray.size, Nat.reduceAdd, Nat.reduceLeDiff, Nat.reduceEqDiff, Nat.reduceMul, Int.reduceToNat, reduceIte, Int.reduceLE, Int.reduceNeg, cIns]; rfl) ?_
    refine runk_call rfl rfl rfl rfl rfl (by simp) (cvs_cons cv_refl (cvs_cons cv_refl cvs_nil)) (h2 _) ?_
    refine runk_exec (by simp only [exa, beq_self_eq_true, ByteArray.size, Nat.reduceAdd, Nat.reduceLeDiff, Nat.reduceEqDiff, Nat.reduceMul, Int.reduceToNat, reduceIte, Int.reduceLE, Int.reduceNeg]; rfl) ?_
    first
      | refine W.cond (b := false) rfl (fun h => absurd h (by simp)) (fun _ => ?_)
      | refine W.cond (b := true) rfl (fun _ => ?_) (fun h => absurd h (by simp))
        (repeat (first | refine W.seq ?_ | refine W.block ?_ | refine W.skip ?_ | refine W.exit ?_))
        refine W.regionK tab_ok 0 (by decide) ?_
        refine runk_split 4 (by simp only [exa, beq_self_eq_true, ByteArray.size, Nat.reduceAdd, Nat.reduceLeDiff, Nat.reduceEqDiff, Nat.reduceMul, Int.reduceToNat, reduceIte, Int.reduceLE, Int.reduceNeg, cIns]; rfl) ?_
        refine runk_append tab_ok 50 rfl rfl rfl rfl rfl rfl rfl rfl (by first | rfl | (simp only [exa, beq_self_eq_true, ByteArray.size, Nat.reduceAdd, Nat.reduceLeDiff, Nat.reduceEqDiff, Nat.reduceMul, Int.reduceToNat, reduceIte, Int.reduceLE, Int.reduceNeg, cIns]; rfl)) rfl rfl rfl rfl (nokeep hkeep) (by intro z hz; first | (simp at hz; subst hz; rfl) | (obtain ⟨q, -, rfl⟩ := List.mem_map.1 hz; rfl)) (by simp only [List.length_map, List.length_append, List.length_cons, List.length_nil]; omega) (by decide) ?_
        refine runk_exec (by simp only [exa, beq_self_eq_true, ByteArray.size, Nat.reduceAdd, Nat.reduceLeDiff, Nat.reduceEqDiff, Nat.reduceMul, Int.reduceToNat, reduceIte, Int.reduceLE, Int.reduceNeg]; rfl) ?_
    (repeat (first | refine W.seq ?_ | refine W.block ?_ | refine W.skip ?_ | refine W.exit ?_))
    refine W.regionK tab_ok 0 (by decide) ?_
    refine runk_split 2 (by simp only [exa, beq_self_eq_true, ByteArray.size, Nat.reduceAdd, Nat.reduceLeDiff, Nat.reduceEqDiff, Nat.reduceMul, Int.reduceToNat, reduceIte, Int.reduceLE, Int.reduceNeg, cIns]; rfl) ?_
    refine runk_call rfl rfl rfl rfl rfl (by simp) (cvs_cons cv_refl (cvs_cons cv_refl cvs_nil)) (h3 _) ?_
    refine runk_exec (by simp only [exa, beq_self_eq_true, ByteArray.size, Nat.reduceAdd, Nat.reduceLeDiff, Nat.reduceEqDiff, Nat.reduceMul, Int.reduceToNat, reduceIte, Int.reduceLE, Int.reduceNeg]; rfl) ?_
    first
      | refine W.cond (b := false) rfl (fun h => absurd h (by simp)) (fun _ => ?_)
      | refine W.cond (b := true) rfl (fun _ => ?_) (fun h => absurd h (by simp))
        (repeat (first | refine W.seq ?_ | refine W.block ?_ | refine W.skip ?_ | refine W.exit ?_))
        refine W.regionK tab_ok 0 (by decide) ?_
        refine runk_split 4 (by simp only [exa, beq_self_eq_true, ByteArray.size, Nat.reduceAdd, Nat.reduceLeDiff, Nat.reduceEqDiff, Nat.reduceMul, Int.reduceToNat, reduceIte, Int.reduceLE, Int.reduceNeg, cIns]; rfl) ?_
        refine runk_append tab_ok 50 rfl rfl rfl rfl rfl rfl rfl rfl (by first | rfl | (simp only [exa, beq_self_eq_true, ByteArray.size, Nat.reduceAdd, Nat.reduceLeDiff, Nat.reduceEqDiff, Nat.reduceMul, Int.reduceToNat, reduceIte, Int.reduceLE, Int.reduceNeg, cIns]; rfl)) rfl rfl rfl rfl (nokeep hkeep) (by intro z hz; first | (simp at hz; subst hz; rfl) | (obtain ⟨q, -, rfl⟩ := List.mem_map.1 hz; rfl)) (by simp only [List.length_map, List.length_append, List.length_cons, List.length_nil]; omega) (by decide) ?_
        refine runk_exec (by simp only [exa, beq_self_eq_true, ByteArray.size, Nat.reduceAdd, Nat.reduceLeDiff, Nat.reduceEqDiff, Nat.reduceMul, Int.reduceToNat, reduceIte, Int.reduceLE, Int.reduceNeg]; rfl) ?_
    (repeat (first | refine W.seq ?_ | refine W.block ?_ | refine W.skip ?_ | refine W.exit ?_))
    refine W.regionK tab_ok 0 (by decide) ?_
    refine runk_split 2 (by simp only [exa, beq_self_eq_true, ByteArray.size, Nat.reduceAdd, Nat.reduceLeDiff, Nat.reduceEqDiff, Nat.reduceMul, Int.reduceToNat, reduceIte, Int.reduceLE, Int.reduceNeg, cIns]; rfl) ?_
    refine runk_call rfl rfl rfl rfl rfl (by simp) (cvs_cons cv_refl (cvs_cons cv_refl cvs_nil)) (h4 _) ?_
    refine runk_exec (by simp only [exa, beq_self_eq_true, ByteArray.size, Nat.reduceAdd, Nat.reduceLeDiff, Nat.reduceEqDiff, Nat.reduceMul, Int.reduceToNat, reduceIte, Int.reduceLE, Int.reduceNeg]; rfl) ?_
    first
      | refine W.cond (b := false) rfl (fun h => absurd h (by simp)) (fun _ => ?_)
      | refine W.cond (b := true) rfl (fun _ => ?_) (fun h => absurd h (by simp))
        (repeat (first | refine W.seq ?_ | refine W.block ?_ | refine W.skip ?_ | refine W.exit ?_))
        refine W.regionK tab_ok 0 (by decide) ?_
        refine runk_split 3 (by simp only [exa, beq_self_eq_true, ByteArray.size, Nat.reduceAdd, Nat.reduceLeDiff, Nat.reduceEqDiff, Nat.reduceMul, Int.reduceToNat, reduceIte, Int.reduceLE, Int.reduceNeg, cIns]; rfl) ?_
        refine runk_append tab_ok 50 rfl rfl rfl rfl rfl rfl rfl rfl (by first | rfl | (simp only [exa, beq_self_eq_true, ByteArray.size, Nat.reduceAdd, Nat.reduceLeDiff, Nat.reduceEqDiff, Nat.reduceMul, Int.reduceToNat, reduceIte, Int.reduceLE, Int.reduceNeg, cIns]; rfl)) rfl rfl rfl rfl (nokeep hkeep) (by intro z hz; first | (simp at hz; subst hz; rfl) | (obtain ⟨q, -, rfl⟩ := List.mem_map.1 hz; rfl)) (by simp only [List.length_map, List.length_append, List.length_cons, List.length_nil]; omega) (by decide) ?_
        refine runk_exec (by simp only [exa, beq_self_eq_true, ByteArray.size, Nat.reduceAdd, Nat.reduceLeDiff, Nat.reduceEqDiff, Nat.reduceMul, Int.reduceToNat, reduceIte, Int.reduceLE, Int.reduceNeg]; rfl) ?_
    repeat (first | refine W.seq ?_ | refine W.block ?_ | refine W.skip ?_ | refine W.exit ?_ | refine W.region tab_ok 0 (by decide) (exec_run (by simp only [exa, beq_self_eq_true, ByteArray.size, Nat.reduceAdd, Nat.reduceLeDiff, Nat.reduceEqDiff, Nat.reduceMul, Int.reduceToNat, reduceIte, Int.reduceLE, Int.reduceNeg]; rfl)) ?_)
    refine W.ret ⟨.inr rfl, by rfl, ?_⟩
    simp only [Tryd.f13, resA, resOne, toT, fin, exa, beq_self_eq_true, ByteArray.size, Nat.reduceAdd, Nat.reduceLeDiff, Nat.reduceEqDiff, Nat.reduceMul, Int.reduceToNat, reduceIte, Int.reduceLE, Int.reduceNeg]
    simp [usI, hA, hB, hC, hR, cZ]
def ofI (code : List Ins) (f : Int) : Int := if f < 0 then -1 - f else match code[f.toNat]? with
  | some x => dfI x
  | none => -1
theorem wrap_low {f : Int} (h : (Lit.int .i64 f).wf = true) (h0 : f < 0) : IntKind.i64.wrap (-1 - f) = -1 - f := by
  rw [lit_wf] at h
  simp [IntKind.min, IntKind.max, IntKind.bits, IntKind.signed] at h
  rw [IntKind.wrap_i64]; omega
theorem of_ok18 (p : Prc) (f : Int) (hf : (Lit.int .i64 f).wf = true) (m : Mem) : COk Tryd.prog 11 [.agg (cP p), .c (.int .i64 f)] m (.c (.int .i64 (ofI p.code f))) := by
  obtain ⟨cls, name, params, regs, code⟩ := p
  have hcp : cP ⟨cls, name, params, regs, code⟩ = [.str cls, .str name, .int .i64 params, .int .i64 regs, .sl (code.map cIns)] := rfl
  refine (ok_pure tab_ok Tryd.func11 (by kernel_rfl) rfl rfl (by rfl) (by rfl) (by rfl) (fun R hkeep => ?_) m)
  by_cases h0 : f < 0
  · have e : ofI code f = -1 - f := by unfold ofI; rw [if_pos h0]
    have q := eq_true h0
    have hw := wrap_low hf h0
    repeat (first | refine W.seq ?_ | refine W.block ?_ | refine W.skip ?_ | refine W.exit ?_ | refine W.region tab_ok 0 (by decide) (exec_run (by simp only [exa, beq_self_eq_true, ByteArray.size, Nat.reduceAdd, Nat.reduceLeDiff, Nat.reduceEqDiff, Nat.reduceMul, Int.reduceToNat, reduceIte, Int.reduceLE, Int.reduceNeg, hcp, List.map_cons, List.map_nil, q, decide_true]; rfl)) ?_)
    refine W.cond rfl (fun _ => ?_) (fun h => absurd h (by simp))
    repeat (first | refine W.seq ?_ | refine W.block ?_ | refine W.skip ?_ | refine W.exit ?_ | refine W.region tab_ok 0 (by decide) (exec_run (by simp only [exa, beq_self_eq_true, ByteArray.size, Nat.reduceAdd, Nat.reduceLeDiff, Nat.reduceEqDiff, Nat.reduceMul, Int.reduceToNat, reduceIte, Int.reduceLE, Int.reduceNeg, hw]; rfl)) ?_)
    refine W.ret ⟨.inr rfl, by rfl, ?_⟩
    simp only [Tryd.f11, resA, resOne, toT, fin, exa, beq_self_eq_true, ByteArray.size, Nat.reduceAdd, Nat.reduceLeDiff, Nat.reduceEqDiff, Nat.reduceMul, Int.reduceToNat, reduceIte, Int.reduceLE, Int.reduceNeg, e]
  · have q := eq_false h0
    have i0 : (0 : Int) ≤ f := by omega
    by_cases h1 : (code.length : Int) ≤ f
    · have e : ofI code f = -1 := by unfold ofI; rw [if_neg h0, List.getElem?_eq_none (by omega)]
      have q1 := eq_true h1
      repeat (first | refine W.seq ?_ | refine W.block ?_ | refine W.skip ?_ | refine W.exit ?_ | refine W.region tab_ok 0 (by decide) (exec_run (by simp only [exa, beq_self_eq_true, ByteArray.size, Nat.reduceAdd, Nat.reduceLeDiff, Nat.reduceEqDiff, Nat.reduceMul, Int.reduceToNat, reduceIte, Int.reduceLE, Int.reduceNeg, hcp, List.map_cons, List.map_nil, q, decide_false]; rfl)) ?_)
      refine W.cond rfl (fun h => absurd h (by simp)) (fun _ => ?_)
      repeat (first | refine W.seq ?_ | refine W.block ?_ | refine W.skip ?_ | refine W.exit ?_ | refine W.region tab_ok 0 (by decide) (exec_run (by simp only [exa, beq_self_eq_true, ByteArray.size, Nat.reduceAdd, Nat.reduceLeDiff, Nat.reduceEqDiff, Nat.reduceMul, Int.reduceToNat, reduceIte, Int.reduceLE, Int.reduceNeg, List.length_map, q1, decide_true]; rfl)) ?_)
      refine W.cond rfl (fun _ => ?_) (fun h => absurd h (by simp))
      repeat (first | refine W.seq ?_ | refine W.block ?_ | refine W.skip ?_ | refine W.exit ?_ | refine W.region tab_ok 0 (by decide) (exec_run (by simp only [exa, beq_self_eq_true, ByteArray.size, Nat.reduceAdd, Nat.reduceLeDiff, Nat.reduceEqDiff, Nat.reduceMul, Int.reduceToNat, reduceIte, Int.reduceLE, Int.reduceNeg]; rfl)) ?_)
      refine W.ret ⟨.inr rfl, by rfl, ?_⟩
      simp only [Tryd.f11, resA, resOne, toT, fin, exa, beq_self_eq_true, ByteArray.size, Nat.reduceAdd, Nat.reduceLeDiff, Nat.reduceEqDiff, Nat.reduceMul, Int.reduceToNat, reduceIte, Int.reduceLE, Int.reduceNeg, e]
    · have q1 := eq_false h1
      obtain ⟨i, rfl⟩ := Int.eq_ofNat_of_zero_le i0
      have hi : i < code.length := by omega
      obtain ⟨x, hx⟩ : ∃ x, code[i]? = some x := ⟨_, List.getElem?_eq_getElem hi⟩
      have e : ofI code i = dfI x := by unfold ofI; rw [if_neg h0, Int.toNat_natCast, hx]
      repeat (first | refine W.seq ?_ | refine W.block ?_ | refine W.skip ?_ | refine W.exit ?_ | refine W.region tab_ok 0 (by decide) (exec_run (by simp only [exa, beq_self_eq_true, ByteArray.size, Nat.reduceAdd, Nat.reduceLeDiff, Nat.reduceEqDiff, Nat.reduceMul, Int.reduceToNat, reduceIte, Int.reduceLE, Int.reduceNeg, hcp, List.map_cons, List.map_nil, q, decide_false]; rfl)) ?_)
      refine W.cond rfl (fun h => absurd h (by simp)) (fun _ => ?_)
      repeat (first | refine W.seq ?_ | refine W.block ?_ | refine W.skip ?_ | refine W.exit ?_ | refine W.region tab_ok 0 (by decide) (exec_run (by simp only [exa, beq_self_eq_true, ByteArray.size, Nat.reduceAdd, Nat.reduceLeDiff, Nat.reduceEqDiff, Nat.reduceMul, Int.reduceToNat, reduceIte, Int.reduceLE, Int.reduceNeg, List.length_map, q1, decide_false]; rfl)) ?_)
      refine W.cond rfl (fun h => absurd h (by simp)) (fun _ => ?_)
      (repeat (first | refine W.seq ?_ | refine W.block ?_ | refine W.skip ?_ | refine W.exit ?_))
      refine W.regionK tab_ok 0 (by decide) ?_
      have hxc : cIns x = [.int .i64 x.kind, .int .i64 x.dst, .int .i64 x.a, .int .i64 x.b, .int .i64 x.c, .int .i64 x.tt, .int .i64 x.els, .int .i64 x.num, .str x.name, .sl (x.args.map fun z => [C.int .i64 z])] := rfl
      refine runk_split 5 (by simp only [exa, beq_self_eq_true, ByteArray.size, Nat.reduceAdd, Nat.reduceLeDiff, Nat.reduceEqDiff, Nat.reduceMul, Int.reduceToNat, reduceIte, Int.reduceLE, Int.reduceNeg, List.length_map, Int.toNat_natCast, at_map hx, hxc]; rfl) ?_
      refine runk_call rfl rfl rfl rfl rfl (by simp) (cvs_cons cv_refl cvs_nil) (def_ok x _) ?_
      refine runk_exec (by simp only [exa, beq_self_eq_true, ByteArray.size, Nat.reduceAdd, Nat.reduceLeDiff, Nat.reduceEqDiff, Nat.reduceMul, Int.reduceToNat, reduceIte, Int.reduceLE, Int.reduceNeg]; rfl) ?_
      refine W.ret ⟨.inr rfl, by rfl, ?_⟩
      simp only [Tryd.f11, resA, resOne, toT, fin, exa, beq_self_eq_true, ByteArray.size, Nat.reduceAdd, Nat.reduceLeDiff, Nat.reduceEqDiff, Nat.reduceMul, Int.reduceToNat, reduceIte, Int.reduceLE, Int.reduceNeg, e]
theorem refOf_ok (p : Prc) (f : Int) (hf : (Lit.int .i64 f).wf = true) (m : Mem) : COk Tryd.prog 12 [.agg (cP p), .c (.int .i64 f)] m (.c (.int .i64 (ofI p.code f))) := by
  obtain ⟨cls, name, params, regs, code⟩ := p
  have hcp : cP ⟨cls, name, params, regs, code⟩ = [.str cls, .str name, .int .i64 params, .int .i64 regs, .sl (code.map cIns)] := rfl
  refine (ok_pure tab_ok Tryd.func12 (by kernel_rfl) rfl rfl (by rfl) (by rfl) (by rfl) (fun R hkeep => ?_) m)
  by_cases h0 : f < 0
  · have e : ofI code f = -1 - f := by unfold ofI; rw [if_pos h0]
    have q := eq_true h0
    have hw := wrap_low hf h0
    repeat (first | refine W.seq ?_ | refine W.block ?_ | refine W.skip ?_ | refine W.exit ?_ | refine W.region tab_ok 0 (by decide) (exec_run (by simp only [exa, beq_self_eq_true, ByteArray.size, Nat.reduceAdd, Nat.reduceLeDiff, Nat.reduceEqDiff, Nat.reduceMul, Int.reduceToNat, reduceIte, Int.reduceLE, Int.reduceNeg, hcp, List.map_cons, List.map_nil, q, decide_true]; rfl)) ?_)
    refine W.cond rfl (fun _ => ?_) (fun h => absurd h (by simp))
    repeat (first | refine W.seq ?_ | refine W.block ?_ | refine W.skip ?_ | refine W.exit ?_ | refine W.region tab_ok 0 (by decide) (exec_run (by simp only [exa, beq_self_eq_true, ByteArray.size, Nat.reduceAdd, Nat.reduceLeDiff, Nat.reduceEqDiff, Nat.reduceMul, Int.reduceToNat, reduceIte, Int.reduceLE, Int.reduceNeg, hw]; rfl)) ?_)
    refine W.ret ⟨.inr rfl, by rfl, ?_⟩
    simp only [Tryd.f12, resA, resOne, toT, fin, exa, beq_self_eq_true, ByteArray.size, Nat.reduceAdd, Nat.reduceLeDiff, Nat.reduceEqDiff, Nat.reduceMul, Int.reduceToNat, reduceIte, Int.reduceLE, Int.reduceNeg, e]
  · have q := eq_false h0
    have i0 : (0 : Int) ≤ f := by omega
    by_cases h1 : (code.length : Int) ≤ f
    · have e : ofI code f = -1 := by unfold ofI; rw [if_neg h0, List.getElem?_eq_none (by omega)]
      have q1 := eq_true h1
      repeat (first | refine W.seq ?_ | refine W.block ?_ | refine W.skip ?_ | refine W.exit ?_ | refine W.region tab_ok 0 (by decide) (exec_run (by simp only [exa, beq_self_eq_true, ByteArray.size, Nat.reduceAdd, Nat.reduceLeDiff, Nat.reduceEqDiff, Nat.reduceMul, Int.reduceToNat, reduceIte, Int.reduceLE, Int.reduceNeg, hcp, List.map_cons, List.map_nil, q, decide_false]; rfl)) ?_)
      refine W.cond rfl (fun h => absurd h (by simp)) (fun _ => ?_)
      repeat (first | refine W.seq ?_ | refine W.block ?_ | refine W.skip ?_ | refine W.exit ?_ | refine W.region tab_ok 0 (by decide) (exec_run (by simp only [exa, beq_self_eq_true, ByteArray.size, Nat.reduceAdd, Nat.reduceLeDiff, Nat.reduceEqDiff, Nat.reduceMul, Int.reduceToNat, reduceIte, Int.reduceLE, Int.reduceNeg, List.length_map, q1, decide_true]; rfl)) ?_)
      refine W.cond rfl (fun _ => ?_) (fun h => absurd h (by simp))
      repeat (first | refine W.seq ?_ | refine W.block ?_ | refine W.skip ?_ | refine W.exit ?_ | refine W.region tab_ok 0 (by decide) (exec_run (by simp only [exa, beq_self_eq_true, ByteArray.size, Nat.reduceAdd, Nat.reduceLeDiff, Nat.reduceEqDiff, Nat.reduceMul, Int.reduceToNat, reduceIte, Int.reduceLE, Int.reduceNeg]; rfl)) ?_)
      refine W.ret ⟨.inr rfl, by rfl, ?_⟩
      simp only [Tryd.f12, resA, resOne, toT, fin, exa, beq_self_eq_true, ByteArray.size, Nat.reduceAdd, Nat.reduceLeDiff, Nat.reduceEqDiff, Nat.reduceMul, Int.reduceToNat, reduceIte, Int.reduceLE, Int.reduceNeg, e]
    · have q1 := eq_false h1
      obtain ⟨i, rfl⟩ := Int.eq_ofNat_of_zero_le i0
      have hi : i < code.length := by omega
      obtain ⟨x, hx⟩ : ∃ x, code[i]? = some x := ⟨_, List.getElem?_eq_getElem hi⟩
      have e : ofI code i = dfI x := by unfold ofI; rw [if_neg h0, Int.toNat_natCast, hx]
      repeat (first | refine W.seq ?_ | refine W.block ?_ | refine W.skip ?_ | refine W.exit ?_ | refine W.region tab_ok 0 (by decide) (exec_run (by simp only [exa, beq_self_eq_true, ByteArray.size, Nat.reduceAdd, Nat.reduceLeDiff, Nat.reduceEqDiff, Nat.reduceMul, Int.reduceToNat, reduceIte, Int.reduceLE, Int.reduceNeg, hcp, List.map_cons, List.map_nil, q, decide_false]; rfl)) ?_)
      refine W.cond rfl (fun h => absurd h (by simp)) (fun _ => ?_)
      repeat (first | refine W.seq ?_ | refine W.block ?_ | refine W.skip ?_ | refine W.exit ?_ | refine W.region tab_ok 0 (by decide) (exec_run (by simp only [exa, beq_self_eq_true, ByteArray.size, Nat.reduceAdd, Nat.reduceLeDiff, Nat.reduceEqDiff, Nat.reduceMul, Int.reduceToNat, reduceIte, Int.reduceLE, Int.reduceNeg, List.length_map, q1, decide_false]; rfl)) ?_)
      refine W.cond rfl (fun h => absurd h (by simp)) (fun _ => ?_)
      (repeat (first | refine W.seq ?_ | refine W.block ?_ | refine W.skip ?_ | refine W.exit ?_))
      refine W.regionK tab_ok 0 (by decide) ?_
      have hxc : cIns x = [.int .i64 x.kind, .int .i64 x.dst, .int .i64 x.a, .int .i64 x.b, .int .i64 x.c, .int .i64 x.tt, .int .i64 x.els, .int .i64 x.num, .str x.name, .sl (x.args.map fun z => [C.int .i64 z])] := rfl
      refine runk_split 5 (by simp only [exa, beq_self_eq_true, ByteArray.size, Nat.reduceAdd, Nat.reduceLeDiff, Nat.reduceEqDiff, Nat.reduceMul, Int.reduceToNat, reduceIte, Int.reduceLE, Int.reduceNeg, List.length_map, Int.toNat_natCast, at_map hx, hxc]; rfl) ?_
      refine runk_call rfl rfl rfl rfl rfl (by simp) (cvs_cons cv_refl cvs_nil) (refDef_ok x _) ?_
      refine runk_exec (by simp only [exa, beq_self_eq_true, ByteArray.size, Nat.reduceAdd, Nat.reduceLeDiff, Nat.reduceEqDiff, Nat.reduceMul, Int.reduceToNat, reduceIte, Int.reduceLE, Int.reduceNeg]; rfl) ?_
      refine W.ret ⟨.inr rfl, by rfl, ?_⟩
      simp only [Tryd.f12, resA, resOne, toT, fin, exa, beq_self_eq_true, ByteArray.size, Nat.reduceAdd, Nat.reduceLeDiff, Nat.reduceEqDiff, Nat.reduceMul, Int.reduceToNat, reduceIte, Int.reduceLE, Int.reduceNeg, e]
end V
end Go.Proofs.YtcldeoolglhdoaaDoor
end
section
set_option linter.unusedVariables false
set_option linter.unusedSimpArgs false
namespace Go.Proofs.YtcldeoolglhdoaaDoor
namespace V
open Go.RowKit C17
set_option maxHeartbeats 4000000 in
theorem irNext_ok (p : Prc) (i : Nat) (hp : p.code.length ≤ 1000000000000000) (hi : i ≤ p.code.length) (m : Mem) : COk Tryd.prog 26 [.agg (cP p), .c (.int .i64 i)] m (.c (.sl ((nx p.code i).map cZ))) := by
  obtain ⟨cls, name, params, regs, code⟩ := p
  simp only at hp hi ⊢
  have hcp : cP ⟨cls, name, params, regs, code⟩ = [.str cls, .str name, .int .i64 params, .int .i64 regs, .sl (code.map cIns)] := rfl
  rw [hcp]
  have n0 : ((i : Int) < 0) = False := eq_false (by omega)
  have i0 : ((0 : Int) ≤ (i : Int)) = True := eq_true (by omega)
  refine (ok_pure tab_ok Tryd.func26 (by kernel_rfl) rfl rfl (by rfl) (by rfl) (by rfl) (fun R hkeep => ?_) m)
  (repeat (first | refine W.seq ?_ | refine W.block ?_ | refine W.skip ?_ | refine W.exit ?_))
  refine W.region tab_ok 0 (by decide) (exec_run (by simp only [exa, beq_self_eq_true, ByteArray.size, Nat.reduceAdd, Nat.reduceLeDiff, Nat.reduceEqDiff, Nat.reduceMul, Int.reduceToNat, reduceIte, Int.reduceLE, Int.reduceNeg]; rfl)) ?_
  by_cases hlt : i < code.length
  · have g0 : ((code.length : Int) ≤ (i : Int)) = False := eq_false (by omega)
    have l0 := eq_true hlt
    obtain ⟨x, hx⟩ : ∃ x, code[i]? = some x := ⟨_, List.getElem?_eq_getElem hlt⟩
    have hnx : nx code i = goesI i x := by unfold nx; rw [hx]
    rw [hnx]
    obtain ⟨k, d, a, b, c, t, e, nm, s, ar⟩ := x
    have hcx : cIns ⟨k, d, a, b, c, t, e, nm, s, ar⟩ = [.int .i64 k, .int .i64 d, .int .i64 a, .int .i64 b, .int .i64 c, .int .i64 t, .int .i64 e, .int .i64 nm, .str s, .sl (ar.map fun z => [C.int .i64 z])] := rfl
    repeat (first | refine W.seq ?_ | refine W.block ?_ | refine W.skip ?_ | refine W.exit ?_ | refine W.region tab_ok 0 (by decide) (exec_run (by simp only [exa, beq_self_eq_true, ByteArray.size, Nat.reduceAdd, Nat.reduceLeDiff, Nat.reduceEqDiff, Nat.reduceMul, Int.reduceToNat, reduceIte, Int.reduceLE, Int.reduceNeg, n0, g0, decide_false]; rfl)) ?_)
    refine W.cond rfl (fun h => absurd h (by simp)) (fun _ => ?_)
    (repeat (first | refine W.seq ?_ | refine W.block ?_ | refine W.skip ?_ | refine W.exit ?_))
    refine W.region tab_ok 0 (by decide) (exec_run (by simp only [exa, beq_self_eq_true, ByteArray.size, Nat.reduceAdd, Nat.reduceLeDiff, Nat.reduceEqDiff, Nat.reduceMul, Int.reduceToNat, reduceIte, Int.reduceLE, Int.reduceNeg, at_map hx, hcx, i0, l0, and_self, List.length_map, Int.toNat_natCast]; rfl)) ?_
    have key : (k = 18 ∨ k = 19) ∨ (¬ (k = 18 ∨ k = 19) ∧ (k = 17 ∨ (k = 16 ∧ t = e))) ∨ (k = 16 ∧ t ≠ e) ∨ (k ≠ 18 ∧ k ≠ 19 ∧ k ≠ 17 ∧ k ≠ 16) := by omega
    rcases key with hk | ⟨hk, hk2⟩ | ⟨rfl, hk2⟩ | ⟨h18, h19, h17, h16⟩
    · have hg : goesI i ⟨k, d, a, b, c, t, e, nm, s, ar⟩ = [] := by unfold goesI; rw [if_pos hk]
      rw [hg]
      rcases hk with rfl | rfl
      · skip
        (repeat (first | refine W.seq ?_ | refine W.block ?_ | refine W.skip ?_ | refine W.exit ?_))
        refine W.region tab_ok 0 (by decide) (exec_run (by simp only [exa, beq_self_eq_true, ByteArray.size, Nat.reduceAdd, Nat.reduceLeDiff, Nat.reduceEqDiff, Nat.reduceMul, Int.reduceToNat, reduceIte, Int.reduceLE, Int.reduceNeg, decide_true, decide_false, Int.reduceEq, eq_self]; rfl)) ?_
        refine W.cond rfl (fun _ => ?_) (fun h => absurd h (by simp))
        repeat (first | refine W.seq ?_ | refine W.block ?_ | refine W.skip ?_ | refine W.exit ?_ | refine W.region tab_ok 0 (by decide) (exec_run (by simp only [exa, beq_self_eq_true, ByteArray.size, Nat.reduceAdd, Nat.reduceLeDiff, Nat.reduceEqDiff, Nat.reduceMul, Int.reduceToNat, reduceIte, Int.reduceLE, Int.reduceNeg]; rfl)) ?_)
        refine W.ret ⟨.inr rfl, by rfl, ?_⟩
        simp only [Tryd.f26, resA, resOne, toT, fin, exa, beq_self_eq_true, ByteArray.size, Nat.reduceAdd, Nat.reduceLeDiff, Nat.reduceEqDiff, Nat.reduceMul, Int.reduceToNat, reduceIte, Int.reduceLE, Int.reduceNeg]
      · skip
        (repeat (first | refine W.seq ?_ | refine W.block ?_ | refine W.skip ?_ | refine W.exit ?_))
        refine W.region tab_ok 0 (by decide) (exec_run (by simp only [exa, beq_self_eq_true, ByteArray.size, Nat.reduceAdd, Nat.reduceLeDiff, Nat.reduceEqDiff, Nat.reduceMul, Int.reduceToNat, reduceIte, Int.reduceLE, Int.reduceNeg, decide_true, decide_false, Int.reduceEq, eq_self]; rfl)) ?_
        refine W.cond rfl (fun _ => ?_) (fun h => absurd h (by simp))
        repeat (first | refine W.seq ?_ | refine W.block ?_ | refine W.skip ?_ | refine W.exit ?_ | refine W.region tab_ok 0 (by decide) (exec_run (by simp only [exa, beq_self_eq_true, ByteArray.size, Nat.reduceAdd, Nat.reduceLeDiff, Nat.reduceEqDiff, Nat.reduceMul, Int.reduceToNat, reduceIte, Int.reduceLE, Int.reduceNeg]; rfl)) ?_)
        refine W.ret ⟨.inr rfl, by rfl, ?_⟩
        simp only [Tryd.f26, resA, resOne, toT, fin, exa, beq_self_eq_true, ByteArray.size, Nat.reduceAdd, Nat.reduceLeDiff, Nat.reduceEqDiff, Nat.reduceMul, Int.reduceToNat, reduceIte, Int.reduceLE, Int.reduceNeg]
    · have hg : goesI i ⟨k, d, a, b, c, t, e, nm, s, ar⟩ = [t] := by unfold goesI; rw [if_neg hk, if_pos hk2]
      rw [hg]
      have h18 : (k = 18) = False := eq_false fun h => hk (.inl h)
      have h19 : (k = 19) = False := eq_false fun h => hk (.inr h)
      rcases hk2 with rfl | ⟨rfl, rfl⟩
      · skip
        (repeat (first | refine W.seq ?_ | refine W.block ?_ | refine W.skip ?_ | refine W.exit ?_))
        refine W.region tab_ok 0 (by decide) (exec_run (by simp only [exa, beq_self_eq_true, ByteArray.size, Nat.reduceAdd, Nat.reduceLeDiff, Nat.reduceEqDiff, Nat.reduceMul, Int.reduceToNat, reduceIte, Int.reduceLE, Int.reduceNeg, decide_true, decide_false, Int.reduceEq, eq_self]; rfl)) ?_
        refine W.cond rfl (fun h => absurd h (by simp)) (fun _ => ?_)
        (repeat (first | refine W.seq ?_ | refine W.block ?_ | refine W.skip ?_ | refine W.exit ?_))
        refine W.region tab_ok 0 (by decide) (exec_run (by simp only [exa, beq_self_eq_true, ByteArray.size, Nat.reduceAdd, Nat.reduceLeDiff, Nat.reduceEqDiff, Nat.reduceMul, Int.reduceToNat, reduceIte, Int.reduceLE, Int.reduceNeg, decide_true, decide_false, Int.reduceEq, eq_self]; rfl)) ?_
        refine W.cond rfl (fun _ => ?_) (fun h => absurd h (by simp))
        repeat (first | refine W.seq ?_ | refine W.block ?_ | refine W.skip ?_ | refine W.exit ?_ | refine W.region tab_ok 0 (by decide) (exec_run (by simp only [exa, beq_self_eq_true, ByteArray.size, Nat.reduceAdd, Nat.reduceLeDiff, Nat.reduceEqDiff, Nat.reduceMul, Int.reduceToNat, reduceIte, Int.reduceLE, Int.reduceNeg]; rfl)) ?_)
        refine W.ret ⟨.inr rfl, by rfl, ?_⟩
        simp only [Tryd.f26, resA, resOne, toT, fin, exa, beq_self_eq_true, ByteArray.size, Nat.reduceAdd, Nat.reduceLeDiff, Nat.reduceEqDiff, Nat.reduceMul, Int.reduceToNat, reduceIte, Int.reduceLE, Int.reduceNeg, cZ, List.map_cons, List.map_nil]
      · skip
        (repeat (first | refine W.seq ?_ | refine W.block ?_ | refine W.skip ?_ | refine W.exit ?_))
        refine W.region tab_ok 0 (by decide) (exec_run (by simp only [exa, beq_self_eq_true, ByteArray.size, Nat.reduceAdd, Nat.reduceLeDiff, Nat.reduceEqDiff, Nat.reduceMul, Int.reduceToNat, reduceIte, Int.reduceLE, Int.reduceNeg, decide_true, decide_false, Int.reduceEq, eq_self]; rfl)) ?_
        refine W.cond rfl (fun h => absurd h (by simp)) (fun _ => ?_)
        (repeat (first | refine W.seq ?_ | refine W.block ?_ | refine W.skip ?_ | refine W.exit ?_))
        refine W.region tab_ok 0 (by decide) (exec_run (by simp only [exa, beq_self_eq_true, ByteArray.size, Nat.reduceAdd, Nat.reduceLeDiff, Nat.reduceEqDiff, Nat.reduceMul, Int.reduceToNat, reduceIte, Int.reduceLE, Int.reduceNeg, decide_true, decide_false, Int.reduceEq, eq_self]; rfl)) ?_
        refine W.cond rfl (fun _ => ?_) (fun h => absurd h (by simp))
        repeat (first | refine W.seq ?_ | refine W.block ?_ | refine W.skip ?_ | refine W.exit ?_ | refine W.region tab_ok 0 (by decide) (exec_run (by simp only [exa, beq_self_eq_true, ByteArray.size, Nat.reduceAdd, Nat.reduceLeDiff, Nat.reduceEqDiff, Nat.reduceMul, Int.reduceToNat, reduceIte, Int.reduceLE, Int.reduceNeg]; rfl)) ?_)
        refine W.ret ⟨.inr rfl, by rfl, ?_⟩
        simp only [Tryd.f26, resA, resOne, toT, fin, exa, beq_self_eq_true, ByteArray.size, Nat.reduceAdd, Nat.reduceLeDiff, Nat.reduceEqDiff, Nat.reduceMul, Int.reduceToNat, reduceIte, Int.reduceLE, Int.reduceNeg, cZ, List.map_cons, List.map_nil]
    · have hg : goesI i ⟨16, d, a, b, c, t, e, nm, s, ar⟩ = [t, e] := by unfold goesI; rw [if_neg (by simp), if_neg (by simp [hk2]), if_pos rfl]
      rw [hg]
      have ht : (t = e) = False := eq_false hk2
      (repeat (first | refine W.seq ?_ | refine W.block ?_ | refine W.skip ?_ | refine W.exit ?_))
      refine W.region tab_ok 0 (by decide) (exec_run (by simp only [exa, beq_self_eq_true, ByteArray.size, Nat.reduceAdd, Nat.reduceLeDiff, Nat.reduceEqDiff, Nat.reduceMul, Int.reduceToNat, reduceIte, Int.reduceLE, Int.reduceNeg, decide_true, decide_false, Int.reduceEq, eq_self, ht]; rfl)) ?_
      refine W.cond rfl (fun h => absurd h (by simp)) (fun _ => ?_)
      (repeat (first | refine W.seq ?_ | refine W.block ?_ | refine W.skip ?_ | refine W.exit ?_))
      refine W.region tab_ok 0 (by decide) (exec_run (by simp only [exa, beq_self_eq_true, ByteArray.size, Nat.reduceAdd, Nat.reduceLeDiff, Nat.reduceEqDiff, Nat.reduceMul, Int.reduceToNat, reduceIte, Int.reduceLE, Int.reduceNeg, decide_true, decide_false, Int.reduceEq, eq_self, ht]; rfl)) ?_
      refine W.cond rfl (fun h => absurd h (by simp)) (fun _ => ?_)
      (repeat (first | refine W.seq ?_ | refine W.block ?_ | refine W.skip ?_ | refine W.exit ?_))
      refine W.region tab_ok 0 (by decide) (exec_run (by simp only [exa, beq_self_eq_true, ByteArray.size, Nat.reduceAdd, Nat.reduceLeDiff, Nat.reduceEqDiff, Nat.reduceMul, Int.reduceToNat, reduceIte, Int.reduceLE, Int.reduceNeg, decide_true, decide_false, Int.reduceEq, eq_self, ht]; rfl)) ?_
      refine W.cond rfl (fun _ => ?_) (fun h => absurd h (by simp))
      repeat (first | refine W.seq ?_ | refine W.block ?_ | refine W.skip ?_ | refine W.exit ?_ | refine W.region tab_ok 0 (by decide) (exec_run (by simp only [exa, beq_self_eq_true, ByteArray.size, Nat.reduceAdd, Nat.reduceLeDiff, Nat.reduceEqDiff, Nat.reduceMul, Int.reduceToNat, reduceIte, Int.reduceLE, Int.reduceNeg]; rfl)) ?_)
      refine W.ret ⟨.inr rfl, by rfl, ?_⟩
      simp only [Tryd.f26, resA, resOne, toT, fin, exa, beq_self_eq_true, ByteArray.size, Nat.reduceAdd, Nat.reduceLeDiff, Nat.reduceEqDiff, Nat.reduceMul, Int.reduceToNat, reduceIte, Int.reduceLE, Int.reduceNeg, cZ, List.map_cons, List.map_nil]
    · have hg : goesI i ⟨k, d, a, b, c, t, e, nm, s, ar⟩ = [((i + 1 : Nat) : Int)] := by unfold goesI; rw [if_neg (by simp [h18, h19]), if_neg (by simp [h16, h17]), if_neg h16]
      rw [hg]
      have e18 := eq_false h18
      have e19 := eq_false h19
      have e17 := eq_false h17
      have e16 := eq_false h16
      (repeat (first | refine W.seq ?_ | refine W.block ?_ | refine W.skip ?_ | refine W.exit ?_))
      refine W.region tab_ok 0 (by decide) (exec_run (by simp only [exa, beq_self_eq_true, ByteArray.size, Nat.reduceAdd, Nat.reduceLeDiff, Nat.reduceEqDiff, Nat.reduceMul, Int.reduceToNat, reduceIte, Int.reduceLE, Int.reduceNeg, decide_true, decide_false, e18, e19]; rfl)) ?_
      refine W.cond rfl (fun h => absurd h (by simp)) (fun _ => ?_)
      (repeat (first | refine W.seq ?_ | refine W.block ?_ | refine W.skip ?_ | refine W.exit ?_))
      refine W.region tab_ok 0 (by decide) (exec_run (by simp only [exa, beq_self_eq_true, ByteArray.size, Nat.reduceAdd, Nat.reduceLeDiff, Nat.reduceEqDiff, Nat.reduceMul, Int.reduceToNat, reduceIte, Int.reduceLE, Int.reduceNeg, decide_true, decide_false, e17, e16]; rfl)) ?_
      refine W.cond rfl (fun h => absurd h (by simp)) (fun _ => ?_)
      (repeat (first | refine W.seq ?_ | refine W.block ?_ | refine W.skip ?_ | refine W.exit ?_))
      refine W.region tab_ok 0 (by decide) (exec_run (by simp only [exa, beq_self_eq_true, ByteArray.size, Nat.reduceAdd, Nat.reduceLeDiff, Nat.reduceEqDiff, Nat.reduceMul, Int.reduceToNat, reduceIte, Int.reduceLE, Int.reduceNeg, decide_true, decide_false, e16]; rfl)) ?_
      refine W.cond rfl (fun h => absurd h (by simp)) (fun _ => ?_)
      repeat (first | refine W.seq ?_ | refine W.block ?_ | refine W.skip ?_ | refine W.exit ?_ | refine W.region tab_ok 0 (by decide) (exec_run (by simp only [exa, beq_self_eq_true, ByteArray.size, Nat.reduceAdd, Nat.reduceLeDiff, Nat.reduceEqDiff, Nat.reduceMul, Int.reduceToNat, reduceIte, Int.reduceLE, Int.reduceNeg, wrap_succ (show i + 1 < 9223372036854775808 by omega)]; rfl)) ?_)
      refine W.ret ⟨.inr rfl, by rfl, ?_⟩
      simp only [Tryd.f26, resA, resOne, toT, fin, exa, beq_self_eq_true, ByteArray.size, Nat.reduceAdd, Nat.reduceLeDiff, Nat.reduceEqDiff, Nat.reduceMul, Int.reduceToNat, reduceIte, Int.reduceLE, Int.reduceNeg, cZ, List.map_cons, List.map_nil]
  · have g0 : ((code.length : Int) ≤ (i : Int)) = True := eq_true (by omega)
    have hnx : nx code i = [] := by unfold nx; rw [List.getElem?_eq_none (by omega)]
    rw [hnx]
    repeat (first | refine W.seq ?_ | refine W.block ?_ | refine W.skip ?_ | refine W.exit ?_ | refine W.region tab_ok 0 (by decide) (exec_run (by simp only [exa, beq_self_eq_true, ByteArray.size, Nat.reduceAdd, Nat.reduceLeDiff, Nat.reduceEqDiff, Nat.reduceMul, Int.reduceToNat, reduceIte, Int.reduceLE, Int.reduceNeg, n0, g0, decide_false, decide_true, List.length_map]; rfl)) ?_)
    refine W.cond rfl (fun _ => ?_) (fun h => absurd h (by simp))
    repeat (first | refine W.seq ?_ | refine W.block ?_ | refine W.skip ?_ | refine W.exit ?_ | refine W.region tab_ok 0 (by decide) (exec_run (by simp only [exa, beq_self_eq_true, ByteArray.size, Nat.reduceAdd, Nat.reduceLeDiff, Nat.reduceEqDiff, Nat.reduceMul, Int.reduceToNat, reduceIte, Int.reduceLE, Int.reduceNeg]; rfl)) ?_)
    refine W.ret ⟨.inr rfl, by rfl, ?_⟩
    simp only [Tryd.f26, resA, resOne, toT, fin, exa, beq_self_eq_true, ByteArray.size, Nat.reduceAdd, Nat.reduceLeDiff, Nat.reduceEqDiff, Nat.reduceMul, Int.reduceToNat, reduceIte, Int.reduceLE, Int.reduceNeg]
set_option maxHeartbeats 4000000 in
theorem refNext_ok (p : Prc) (i : Nat) (hp : p.code.length ≤ 1000000000000000) (hi : i ≤ p.code.length) (m : Mem) : COk Tryd.prog 15 [.agg (cP p), .c (.int .i64 i)] m (.c (.sl ((nx p.code i).map cZ))) := by
  obtain ⟨cls, name, params, regs, code⟩ := p
  simp only at hp hi ⊢
  have hcp : cP ⟨cls, name, params, regs, code⟩ = [.str cls, .str name, .int .i64 params, .int .i64 regs, .sl (code.map cIns)] := rfl
  rw [hcp]
  have n0 : ((i : Int) < 0) = False := eq_false (by omega)
  have i0 : ((0 : Int) ≤ (i : Int)) = True := eq_true (by omega)
  refine (ok_pure tab_ok Tryd.func15 (by kernel_rfl) rfl rfl (by rfl) (by rfl) (by rfl) (fun R hkeep => ?_) m)
  (repeat (first | refine W.seq ?_ | refine W.block ?_ | refine W.skip ?_ | refine W.exit ?_))
  refine W.region tab_ok 0 (by decide) (exec_run (by simp only [exa, beq_self_eq_true, ByteArray.size, Nat.reduceAdd, Nat.reduceLeDiff, Nat.reduceEqDiff, Nat.reduceMul, Int.reduceToNat, reduceIte, Int.reduceLE, Int.reduceNeg]; rfl)) ?_
  by_cases hlt : i < code.length
  · have g0 : ((code.length : Int) ≤ (i : Int)) = False := eq_false (by omega)
    have l0 := eq_true hlt
    obtain ⟨x, hx⟩ : ∃ x, code[i]? = some x := ⟨_, List.getElem?_eq_getElem hlt⟩
    have hnx : nx code i = goesI i x := by unfold nx; rw [hx]
    rw [hnx]
    obtain ⟨k, d, a, b, c, t, e, nm, s, ar⟩ := x
    have hcx : cIns ⟨k, d, a, b, c, t, e, nm, s, ar⟩ = [.int .i64 k, .int .i64 d, .int .i64 a, .int .i64 b, .int .i64 c, .int .i64 t, .int .i64 e, .int .i64 nm, .str s, .sl (ar.map fun z => [C.int .i64 z])] := rfl
    repeat (first | refine W.seq ?_ | refine W.block ?_ | refine W.skip ?_ | refine W.exit ?_ | refine W.region tab_ok 0 (by decide) (exec_run (by simp only [exa, beq_self_eq_true, ByteArray.size, Nat.reduceAdd, Nat.reduceLeDiff, Nat.reduceEqDiff, Nat.reduceMul, Int.reduceToNat, reduceIte, Int.reduceLE, Int.reduceNeg, n0, g0, decide_false]; rfl)) ?_)
    refine W.cond rfl (fun h => absurd h (by simp)) (fun _ => ?_)
    (repeat (first | refine W.seq ?_ | refine W.block ?_ | refine W.skip ?_ | refine W.exit ?_))
    refine W.region tab_ok 0 (by decide) (exec_run (by simp only [exa, beq_self_eq_true, ByteArray.size, Nat.reduceAdd, Nat.reduceLeDiff, Nat.reduceEqDiff, Nat.reduceMul, Int.reduceToNat, reduceIte, Int.reduceLE, Int.reduceNeg, at_map hx, hcx, i0, l0, and_self, List.length_map, Int.toNat_natCast]; rfl)) ?_
    (repeat (first | refine W.seq ?_ | refine W.block ?_ | refine W.skip ?_ | refine W.exit ?_))
    refine W.region tab_ok 0 (by decide) (exec_run (by simp only [exa, beq_self_eq_true, ByteArray.size, Nat.reduceAdd, Nat.reduceLeDiff, Nat.reduceEqDiff, Nat.reduceMul, Int.reduceToNat, reduceIte, Int.reduceLE, Int.reduceNeg]; rfl)) ?_
    have key : (k = 18 ∨ k = 19) ∨ k = 17 ∨ k = 16 ∨ (k ≠ 18 ∧ k ≠ 19 ∧ k ≠ 17 ∧ k ≠ 16) := by omega
    rcases key with hk | rfl | rfl | ⟨h18, h19, h17, h16⟩
    · have hg : goesI i ⟨k, d, a, b, c, t, e, nm, s, ar⟩ = [] := by unfold goesI; rw [if_pos hk]
      rw [hg]
      rcases hk with rfl | rfl
      · skip
        (repeat (first | refine W.seq ?_ | refine W.block ?_ | refine W.skip ?_ | refine W.exit ?_))
        refine W.region tab_ok 0 (by decide) (exec_run (by simp only [exa, beq_self_eq_true, ByteArray.size, Nat.reduceAdd, Nat.reduceLeDiff, Nat.reduceEqDiff, Nat.reduceMul, Int.reduceToNat, reduceIte, Int.reduceLE, Int.reduceNeg, decide_true, decide_false, Int.reduceEq, eq_self]; rfl)) ?_
        refine W.cond rfl (fun h => absurd h (by simp)) (fun _ => ?_)
        repeat (first | refine W.seq ?_ | refine W.block ?_ | refine W.skip ?_ | refine W.exit ?_ | refine W.region tab_ok 0 (by decide) (exec_run (by simp only [exa, beq_self_eq_true, ByteArray.size, Nat.reduceAdd, Nat.reduceLeDiff, Nat.reduceEqDiff, Nat.reduceMul, Int.reduceToNat, reduceIte, Int.reduceLE, Int.reduceNeg, decide_true, decide_false, Int.reduceEq, eq_self]; rfl)) ?_)
        refine W.cond rfl (fun h => absurd h (by simp)) (fun _ => ?_)
        repeat (first | refine W.seq ?_ | refine W.block ?_ | refine W.skip ?_ | refine W.exit ?_ | refine W.region tab_ok 0 (by decide) (exec_run (by simp only [exa, beq_self_eq_true, ByteArray.size, Nat.reduceAdd, Nat.reduceLeDiff, Nat.reduceEqDiff, Nat.reduceMul, Int.reduceToNat, reduceIte, Int.reduceLE, Int.reduceNeg, decide_true, decide_false, Int.reduceEq, eq_self]; rfl)) ?_)
        refine W.cond rfl (fun _ => ?_) (fun h => absurd h (by simp))
        repeat (first | refine W.seq ?_ | refine W.block ?_ | refine W.skip ?_ | refine W.exit ?_ | refine W.region tab_ok 0 (by decide) (exec_run (by simp only [exa, beq_self_eq_true, ByteArray.size, Nat.reduceAdd, Nat.reduceLeDiff, Nat.reduceEqDiff, Nat.reduceMul, Int.reduceToNat, reduceIte, Int.reduceLE, Int.reduceNeg]; rfl)) ?_)
        refine W.cond rfl (fun _ => ?_) (fun h => absurd h (by simp))
        repeat (first | refine W.seq ?_ | refine W.block ?_ | refine W.skip ?_ | refine W.exit ?_ | refine W.region tab_ok 0 (by decide) (exec_run (by simp only [exa, beq_self_eq_true, ByteArray.size, Nat.reduceAdd, Nat.reduceLeDiff, Nat.reduceEqDiff, Nat.reduceMul, Int.reduceToNat, reduceIte, Int.reduceLE, Int.reduceNeg]; rfl)) ?_)
        refine W.ret ⟨.inr rfl, by rfl, ?_⟩
        simp only [Tryd.f15, resA, resOne, toT, fin, exa, beq_self_eq_true, ByteArray.size, Nat.reduceAdd, Nat.reduceLeDiff, Nat.reduceEqDiff, Nat.reduceMul, Int.reduceToNat, reduceIte, Int.reduceLE, Int.reduceNeg]
      · skip
        (repeat (first | refine W.seq ?_ | refine W.block ?_ | refine W.skip ?_ | refine W.exit ?_))
        refine W.region tab_ok 0 (by decide) (exec_run (by simp only [exa, beq_self_eq_true, ByteArray.size, Nat.reduceAdd, Nat.reduceLeDiff, Nat.reduceEqDiff, Nat.reduceMul, Int.reduceToNat, reduceIte, Int.reduceLE, Int.reduceNeg, decide_true, decide_false, Int.reduceEq, eq_self]; rfl)) ?_
        refine W.cond rfl (fun h => absurd h (by simp)) (fun _ => ?_)
        repeat (first | refine W.seq ?_ | refine W.block ?_ | refine W.skip ?_ | refine W.exit ?_ | refine W.region tab_ok 0 (by decide) (exec_run (by simp only [exa, beq_self_eq_true, ByteArray.size, Nat.reduceAdd, Nat.reduceLeDiff, Nat.reduceEqDiff, Nat.reduceMul, Int.reduceToNat, reduceIte, Int.reduceLE, Int.reduceNeg, decide_true, decide_false, Int.reduceEq, eq_self]; rfl)) ?_)
        refine W.cond rfl (fun h => absurd h (by simp)) (fun _ => ?_)
        repeat (first | refine W.seq ?_ | refine W.block ?_ | refine W.skip ?_ | refine W.exit ?_ | refine W.region tab_ok 0 (by decide) (exec_run (by simp only [exa, beq_self_eq_true, ByteArray.size, Nat.reduceAdd, Nat.reduceLeDiff, Nat.reduceEqDiff, Nat.reduceMul, Int.reduceToNat, reduceIte, Int.reduceLE, Int.reduceNeg, decide_true, decide_false, Int.reduceEq, eq_self]; rfl)) ?_)
        refine W.cond rfl (fun h => absurd h (by simp)) (fun _ => ?_)
        repeat (first | refine W.seq ?_ | refine W.block ?_ | refine W.skip ?_ | refine W.exit ?_ | refine W.region tab_ok 0 (by decide) (exec_run (by simp only [exa, beq_self_eq_true, ByteArray.size, Nat.reduceAdd, Nat.reduceLeDiff, Nat.reduceEqDiff, Nat.reduceMul, Int.reduceToNat, reduceIte, Int.reduceLE, Int.reduceNeg, decide_true, decide_false, Int.reduceEq, eq_self]; rfl)) ?_)
        refine W.cond rfl (fun _ => ?_) (fun h => absurd h (by simp))
        repeat (first | refine W.seq ?_ | refine W.block ?_ | refine W.skip ?_ | refine W.exit ?_ | refine W.region tab_ok 0 (by decide) (exec_run (by simp only [exa, beq_self_eq_true, ByteArray.size, Nat.reduceAdd, Nat.reduceLeDiff, Nat.reduceEqDiff, Nat.reduceMul, Int.reduceToNat, reduceIte, Int.reduceLE, Int.reduceNeg]; rfl)) ?_)
        refine W.ret ⟨.inr rfl, by rfl, ?_⟩
        simp only [Tryd.f15, resA, resOne, toT, fin, exa, beq_self_eq_true, ByteArray.size, Nat.reduceAdd, Nat.reduceLeDiff, Nat.reduceEqDiff, Nat.reduceMul, Int.reduceToNat, reduceIte, Int.reduceLE, Int.reduceNeg]
    · have hg : goesI i ⟨17, d, a, b, c, t, e, nm, s, ar⟩ = [t] := by unfold goesI; rw [if_neg (by simp), if_pos (.inl rfl)]
      rw [hg]
      (repeat (first | refine W.seq ?_ | refine W.block ?_ | refine W.skip ?_ | refine W.exit ?_))
      refine W.region tab_ok 0 (by decide) (exec_run (by simp only [exa, beq_self_eq_true, ByteArray.size, Nat.reduceAdd, Nat.reduceLeDiff, Nat.reduceEqDiff, Nat.reduceMul, Int.reduceToNat, reduceIte, Int.reduceLE, Int.reduceNeg, decide_true, decide_false, Int.reduceEq, eq_self]; rfl)) ?_
      refine W.cond rfl (fun h => absurd h (by simp)) (fun _ => ?_)
      repeat (first | refine W.seq ?_ | refine W.block ?_ | refine W.skip ?_ | refine W.exit ?_ | refine W.region tab_ok 0 (by decide) (exec_run (by simp only [exa, beq_self_eq_true, ByteArray.size, Nat.reduceAdd, Nat.reduceLeDiff, Nat.reduceEqDiff, Nat.reduceMul, Int.reduceToNat, reduceIte, Int.reduceLE, Int.reduceNeg, decide_true, decide_false, Int.reduceEq, eq_self]; rfl)) ?_)
      refine W.cond rfl (fun _ => ?_) (fun h => absurd h (by simp))
      repeat (first | refine W.seq ?_ | refine W.block ?_ | refine W.skip ?_ | refine W.exit ?_ | refine W.region tab_ok 0 (by decide) (exec_run (by simp only [exa, beq_self_eq_true, ByteArray.size, Nat.reduceAdd, Nat.reduceLeDiff, Nat.reduceEqDiff, Nat.reduceMul, Int.reduceToNat, reduceIte, Int.reduceLE, Int.reduceNeg]; rfl)) ?_)
      refine W.ret ⟨.inr rfl, by rfl, ?_⟩
      simp only [Tryd.f15, resA, resOne, toT, fin, exa, beq_self_eq_true, ByteArray.size, Nat.reduceAdd, Nat.reduceLeDiff, Nat.reduceEqDiff, Nat.reduceMul, Int.reduceToNat, reduceIte, Int.reduceLE, Int.reduceNeg, cZ, List.map_cons, List.map_nil]
    · skip
      (repeat (first | refine W.seq ?_ | refine W.block ?_ | refine W.skip ?_ | refine W.exit ?_))
      refine W.region tab_ok 0 (by decide) (exec_run (by simp only [exa, beq_self_eq_true, ByteArray.size, Nat.reduceAdd, Nat.reduceLeDiff, Nat.reduceEqDiff, Nat.reduceMul, Int.reduceToNat, reduceIte, Int.reduceLE, Int.reduceNeg, decide_true, decide_false, Int.reduceEq, eq_self]; rfl)) ?_
      refine W.cond rfl (fun _ => ?_) (fun h => absurd h (by simp))
      by_cases ht : t = e
      · have hg : goesI i ⟨16, d, a, b, c, t, e, nm, s, ar⟩ = [t] := by unfold goesI; rw [if_neg (by simp), if_pos (.inr ⟨rfl, ht⟩)]
        rw [hg]
        have ht := eq_true ht
        repeat (first | refine W.seq ?_ | refine W.block ?_ | refine W.skip ?_ | refine W.exit ?_ | refine W.region tab_ok 0 (by decide) (exec_run (by simp only [exa, beq_self_eq_true, ByteArray.size, Nat.reduceAdd, Nat.reduceLeDiff, Nat.reduceEqDiff, Nat.reduceMul, Int.reduceToNat, reduceIte, Int.reduceLE, Int.reduceNeg, ht, decide_true]; rfl)) ?_)
        refine W.cond rfl (fun _ => ?_) (fun h => absurd h (by simp))
        repeat (first | refine W.seq ?_ | refine W.block ?_ | refine W.skip ?_ | refine W.exit ?_ | refine W.region tab_ok 0 (by decide) (exec_run (by simp only [exa, beq_self_eq_true, ByteArray.size, Nat.reduceAdd, Nat.reduceLeDiff, Nat.reduceEqDiff, Nat.reduceMul, Int.reduceToNat, reduceIte, Int.reduceLE, Int.reduceNeg]; rfl)) ?_)
        refine W.ret ⟨.inr rfl, by rfl, ?_⟩
        simp only [Tryd.f15, resA, resOne, toT, fin, exa, beq_self_eq_true, ByteArray.size, Nat.reduceAdd, Nat.reduceLeDiff, Nat.reduceEqDiff, Nat.reduceMul, Int.reduceToNat, reduceIte, Int.reduceLE, Int.reduceNeg, cZ, List.map_cons, List.map_nil]
      · have hg : goesI i ⟨16, d, a, b, c, t, e, nm, s, ar⟩ = [t, e] := by unfold goesI; rw [if_neg (by simp), if_neg (by simp [ht]), if_pos rfl]
        rw [hg]
        have ht := eq_false ht
        repeat (first | refine W.seq ?_ | refine W.block ?_ | refine W.skip ?_ | refine W.exit ?_ | refine W.region tab_ok 0 (by decide) (exec_run (by simp only [exa, beq_self_eq_true, ByteArray.size, Nat.reduceAdd, Nat.reduceLeDiff, Nat.reduceEqDiff, Nat.reduceMul, Int.reduceToNat, reduceIte, Int.reduceLE, Int.reduceNeg, ht, decide_false]; rfl)) ?_)
        refine W.cond rfl (fun h => absurd h (by simp)) (fun _ => ?_)
        repeat (first | refine W.seq ?_ | refine W.block ?_ | refine W.skip ?_ | refine W.exit ?_ | refine W.region tab_ok 0 (by decide) (exec_run (by simp only [exa, beq_self_eq_true, ByteArray.size, Nat.reduceAdd, Nat.reduceLeDiff, Nat.reduceEqDiff, Nat.reduceMul, Int.reduceToNat, reduceIte, Int.reduceLE, Int.reduceNeg]; rfl)) ?_)
        refine W.ret ⟨.inr rfl, by rfl, ?_⟩
        simp only [Tryd.f15, resA, resOne, toT, fin, exa, beq_self_eq_true, ByteArray.size, Nat.reduceAdd, Nat.reduceLeDiff, Nat.reduceEqDiff, Nat.reduceMul, Int.reduceToNat, reduceIte, Int.reduceLE, Int.reduceNeg, cZ, List.map_cons, List.map_nil]
    · have hg : goesI i ⟨k, d, a, b, c, t, e, nm, s, ar⟩ = [((i + 1 : Nat) : Int)] := by unfold goesI; rw [if_neg (by simp [h18, h19]), if_neg (by simp [h16, h17]), if_neg h16]
      rw [hg]
      have e18 := eq_false h18
      have e19 := eq_false h19
      have e17 := eq_false h17
      have e16 := eq_false h16
      (repeat (first | refine W.seq ?_ | refine W.block ?_ | refine W.skip ?_ | refine W.exit ?_))
      refine W.region tab_ok 0 (by decide) (exec_run (by simp only [exa, beq_self_eq_true, ByteArray.size, Nat.reduceAdd, Nat.reduceLeDiff, Nat.reduceEqDiff, Nat.reduceMul, Int.reduceToNat, reduceIte, Int.reduceLE, Int.reduceNeg, decide_true, decide_false, e16]; rfl)) ?_
      refine W.cond rfl (fun h => absurd h (by simp)) (fun _ => ?_)
      repeat (first | refine W.seq ?_ | refine W.block ?_ | refine W.skip ?_ | refine W.exit ?_ | refine W.region tab_ok 0 (by decide) (exec_run (by simp only [exa, beq_self_eq_true, ByteArray.size, Nat.reduceAdd, Nat.reduceLeDiff, Nat.reduceEqDiff, Nat.reduceMul, Int.reduceToNat, reduceIte, Int.reduceLE, Int.reduceNeg, decide_true, decide_false, e17, e16]; rfl)) ?_)
      refine W.cond rfl (fun h => absurd h (by simp)) (fun _ => ?_)
      repeat (first | refine W.seq ?_ | refine W.block ?_ | refine W.skip ?_ | refine W.exit ?_ | refine W.region tab_ok 0 (by decide) (exec_run (by simp only [exa, beq_self_eq_true, ByteArray.size, Nat.reduceAdd, Nat.reduceLeDiff, Nat.reduceEqDiff, Nat.reduceMul, Int.reduceToNat, reduceIte, Int.reduceLE, Int.reduceNeg, decide_true, decide_false, e18]; rfl)) ?_)
      refine W.cond rfl (fun h => absurd h (by simp)) (fun _ => ?_)
      repeat (first | refine W.seq ?_ | refine W.block ?_ | refine W.skip ?_ | refine W.exit ?_ | refine W.region tab_ok 0 (by decide) (exec_run (by simp only [exa, beq_self_eq_true, ByteArray.size, Nat.reduceAdd, Nat.reduceLeDiff, Nat.reduceEqDiff, Nat.reduceMul, Int.reduceToNat, reduceIte, Int.reduceLE, Int.reduceNeg, decide_true, decide_false, e19]; rfl)) ?_)
      refine W.cond rfl (fun h => absurd h (by simp)) (fun _ => ?_)
      repeat (first | refine W.seq ?_ | refine W.block ?_ | refine W.skip ?_ | refine W.exit ?_ | refine W.region tab_ok 0 (by decide) (exec_run (by simp only [exa, beq_self_eq_true, ByteArray.size, Nat.reduceAdd, Nat.reduceLeDiff, Nat.reduceEqDiff, Nat.reduceMul, Int.reduceToNat, reduceIte, Int.reduceLE, Int.reduceNeg, wrap_succ (show i + 1 < 9223372036854775808 by omega)]; rfl)) ?_)
      refine W.ret ⟨.inr rfl, by rfl, ?_⟩
      simp only [Tryd.f15, resA, resOne, toT, fin, exa, beq_self_eq_true, ByteArray.size, Nat.reduceAdd, Nat.reduceLeDiff, Nat.reduceEqDiff, Nat.reduceMul, Int.reduceToNat, reduceIte, Int.reduceLE, Int.reduceNeg, cZ, List.map_cons, List.map_nil]
  · have g0 : ((code.length : Int) ≤ (i : Int)) = True := eq_true (by omega)
    have hnx : nx code i = [] := by unfold nx; rw [List.getElem?_eq_none (by omega)]
    rw [hnx]
    repeat (first | refine W.seq ?_ | refine W.block ?_ | refine W.skip ?_ | refine W.exit ?_ | refine W.region tab_ok 0 (by decide) (exec_run (by simp only [exa, beq_self_eq_true, ByteArray.size, Nat.reduceAdd, Nat.reduceLeDiff, Nat.reduceEqDiff, Nat.reduceMul, Int.reduceToNat, reduceIte, Int.reduceLE, Int.reduceNeg, n0, g0, decide_false, decide_true, List.length_map]; rfl)) ?_)
    refine W.cond rfl (fun _ => ?_) (fun h => absurd h (by simp))
    repeat (first | refine W.seq ?_ | refine W.block ?_ | refine W.skip ?_ | refine W.exit ?_ | refine W.region tab_ok 0 (by decide) (exec_run (by simp only [exa, beq_self_eq_true, ByteArray.size, Nat.reduceAdd, Nat.reduceLeDiff, Nat.reduceEqDiff, Nat.reduceMul, Int.reduceToNat, reduceIte, Int.reduceLE, Int.reduceNeg]; rfl)) ?_)
    refine W.ret ⟨.inr rfl, by rfl, ?_⟩
    simp only [Tryd.f15, resA, resOne, toT, fin, exa, beq_self_eq_true, ByteArray.size, Nat.reduceAdd, Nat.reduceLeDiff, Nat.reduceEqDiff, Nat.reduceMul, Int.reduceToNat, reduceIte, Int.reduceLE, Int.reduceNeg]
end V
end Go.Proofs.YtcldeoolglhdoaaDoor
end
