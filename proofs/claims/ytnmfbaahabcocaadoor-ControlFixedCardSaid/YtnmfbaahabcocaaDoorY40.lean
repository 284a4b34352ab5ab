/- Joined by my own program, in build order: Vi, Top2, Ipl, Vidx, Vmap, Vfam, Gc, Rd, Rdp, Ct17, Sf, SfR, Clone, Frz, Gd, Veff, Cn, Bs, Vs, Vtree, Vpor, SortI, SortR. -/
import Derived.Test.YtnmfbaahabcocaaDoorY39
import Derived.Shelf.Abstract
import Derived.Test.YtnmfbaahabcocaaDoorRows
import Derived.ProofKit
import Derived.OpenShut
import Derived.HandedShaped
import Derived.Deep.DeepHandedRow
import Derived.LaidLaws
import Derived.Test.YtnmfbaahabcocaaDoorY4
import Derived.Test.YtnmfbaahabcocaaDoorY5
import Derived.Test.YtnmfbaahabcocaaDoorY3
import Derived.Test.YtnmfbaahabcocaaDoorCards
import Derived.Test.YtnmfbaahabcocaaDoorTie
import Derived.Lib.LaidTab
import Derived.Shelf.GgSortFunc.InsertionK
import Derived.Sort.Row
import Derived.Sort.Grow
import Derived.Test.YtnmfbaahabcocaaDoorY23
import Derived.Test.YtnmfbaahabcocaaDoorY25
import Derived.Test.YtnmfbaahabcocaaDoorY21
import Derived.Test.YtnmfbaahabcocaaDoorY26
import Derived.Test.YtnmfbaahabcocaaDoorY27
import Derived.Test.YtnmfbaahabcocaaDoorY28
import Derived.Sort.LoopGhostIn
import Derived.Test.YtnmfbaahabcocaaDoorY24
set_option linter.unusedVariables false
set_option linter.unusedSimpArgs false
section
namespace Go.Proofs.YtnmfbaahabcocaaDoor
namespace V
open Go.RowKit
def stepQ (T : Tab) (base : Nat) (ops : Array Oper) (o : Oper) (st : St) : Option St :=
 match wantA ops o st.s with
 | some true => (match kind T o.op with
  | .store => (match o.op with
   | .store ty x v => (match adrId (ev st.s x), o.dst with
    | some j, none => (match st.m j with
     | some b => (match stO T ty (ev st.s x) (ev st.s v) b with | some b' => some ⟨st.s, upd st.m j (some b')⟩ | none => none)
     | none => none)
    | _, _ => none)
   | _ => none)
  | .barrier => none
  | _ => (match o.dst with
   | some d => (match qv T st.s st.m (base + d) o.op with
    | some (r, none) => some ⟨upd st.s d r, st.m⟩
    | some (r, some x) => (match st.m (base + d) with | none => some ⟨upd st.s d r, upd st.m (base + d) (some x)⟩ | some _ => none)
    | none => none)
   | none => none))
 | some false => (match o.dst with | some d => some ⟨upd st.s d .undef, st.m⟩ | none => some st)
 | none => none
def exec (T : Tab) (base : Nat) (ops : Array Oper) : List Oper → St → Option St
 | [], st => some st
 | o :: l, st => match stepQ T base ops o st with | some st1 => exec T base ops l st1 | none => none
section
variable {P : Go.Program} {T : Tab} {kp : Nat → Prop} {base : Nat} {ops : Array Oper}
theorem stepQ_hs {o : Oper} {st st' : St} (h : stepQ T base ops o st = some st') : HS P T kp base ops o st st' := by
 unfold stepQ at h
 split at h
 ·rename_i hw
  split at h
  ·split at h
   ·rename_i ty x v hop
    split at h
    ·rename_i j hx hd
     split at h
     ·rename_i b hj
      split at h
      ·rename_i b' hn
       cases h
       exact .store ⟨hw, hop, hd, hx, hj, hn⟩
      ·cases h
     ·cases h
    ·cases h
   ·cases h
  ·cases h
  ·split at h
   ·rename_i d hd
    have hid : idOf base o = base + d := by simp [idOf, hd]
    split at h
    ·rename_i r hq
     cases h
     have := HS.val (P := P) (T := T) (kp := kp) (HV.val (base := base) hw (by rw [hid]; exact hq) (fun h => by cases h) (fun h => by cases h))
     rw [hd] at this
     exact this
    ·rename_i r x hq
     split at h
     ·rename_i hm
      cases h
      have := HS.val (P := P) (T := T) (kp := kp) (HV.val (base := base) hw (by rw [hid]; exact hq) (fun _ => by rw [hid]; exact hm) (fun _ => by rw [hd]; rfl))
      rw [hd, hid] at this
      exact this
     ·cases h
    ·cases h
   ·cases h
 ·rename_i hw
  have := HS.val (P := P) (T := T) (base := base) (kp := kp) (HV.skip hw)
  split at h
  ·rename_i d hd
   cases h
   rw [hd] at this
   exact this
  ·rename_i hd
   cases h
   rw [hd] at this
   exact this
 ·cases h
theorem exec_run : ∀ {l : List Oper} {st st' : St}, exec T base ops l st = some st' → RunL P T kp base ops l st st'
 | [], st, st', h => by simp [exec] at h; subst h; exact .nil _
 | o :: l, st, st', h => by
  simp only [exec] at h
  split at h
  ·rename_i st1 h1
   exact .cons (stepQ_hs h1) (exec_run h)
  ·cases h
theorem RunL.append {l1 l2 : List Oper} {st st1 st2 : St} (h : RunL P T kp base ops l1 st st1) (k : RunL P T kp base ops l2 st1 st2) : RunL P T kp base ops (l1 ++ l2) st st2 := by
 induction h with
 | nil => exact k
 | cons h _ ih => exact .cons h (ih k)
theorem run_split {l : List Oper} {st st1 st2 : St} (i : Nat) (h : exec T base ops (l.take i) st = some st1) (k : RunL P T kp base ops (l.drop i) st1 st2) : RunL P T kp base ops l st st2 := by
 have := (exec_run (P := P) (kp := kp) h).append k
 rwa [List.take_append_drop] at this
def RunK (P : Go.Program) (T : Tab) (kp : Nat → Prop) (base : Nat) (ops : Array Oper) (l : List Oper) (st : St) (k : St → Prop) : Prop := ∃ st', RunL P T kp base ops l st st' ∧ k st'
theorem runk_exec {l : List Oper} {st st' : St} {k : St → Prop} (h : exec T base ops l st = some st') (hk : k st') : RunK P T kp base ops l st k := ⟨st', exec_run h, hk⟩
theorem runk_split {l : List Oper} {st st1 : St} {k : St → Prop} (i : Nat) (h : exec T base ops (l.take i) st = some st1) (hk : RunK P T kp base ops (l.drop i) st1 k) : RunK P T kp base ops l st k :=
 let ⟨st', h1, h2⟩ := hk
 ⟨st', run_split i h h1, h2⟩
theorem runk_step {o : Oper} {l : List Oper} {st st1 : St} {k : St → Prop} (h : HS P T kp base ops o st st1) (ht : RunK P T kp base ops l st1 k) : RunK P T kp base ops (o :: l) st k :=
 let ⟨st', h1, h2⟩ := ht
 ⟨st', .cons h h1, h2⟩
theorem runk_call {o : Oper} {l : List Oper} {st : St} {k : St → Prop} {r : A} {c : Call} {x : Operand} {f : FuncId} {ids : List Nat} {args : List A} {d : Nat} (h : wantA ops o st.s = some true) (hop : o.op = .call c) (hc : c.callee = .value x) (hx : ev st.s x = .fn f ids) (hd : o.dst = some d) (hb : ∀ j ∈ ids, ∃ ty cells, st.m j = some (.box ty cells))
  (ha : Cvs st.m (c.args.toList.map (ev st.s) ++ ids.map (A.ptr · 0)) args) (hk : COk P f args st.m r) (ht : RunK P T kp base ops l ⟨upd st.s d r, st.m⟩ k) : RunK P T kp base ops (o :: l) st k := by
 refine runk_step (st1 := ⟨upd st.s d r, st.m⟩) ?_ ht
 have := HS.val (P := P) (T := T) (base := base) (ops := ops) (o := o) (kp := kp) (HV.call h hop hc hx hb ha hk)
 rw [hd] at this
 exact this
theorem runk_callF {o : Oper} {l : List Oper} {st : St} {k : St → Prop} {r : A} {c : Call} {x : Operand} {f : FuncId} {caps : List (List C)} {args : List A} {d : Nat} (h : wantA ops o st.s = some true) (hop : o.op = .call c) (hc : c.callee = .value x) (hx : ev st.s x = .fnR f caps) (hd : o.dst = some d)
  (ha : Cvs st.m (c.args.toList.map (ev st.s) ++ caps.map A.rptr) args) (hk : COk P f args st.m r) (ht : RunK P T kp base ops l ⟨upd st.s d r, st.m⟩ k) : RunK P T kp base ops (o :: l) st k := by
 refine runk_step (st1 := ⟨upd st.s d r, st.m⟩) ?_ ht
 have := HS.val (P := P) (T := T) (base := base) (ops := ops) (o := o) (kp := kp) (HV.callF h hop hc hx ha hk)
 rw [hd] at this
 exact this
theorem runk_callR {o : Oper} {l : List Oper} {st : St} {k : St → Prop} {r : A} {c : Call} {x : Operand} {f : FuncId} {ids : List Nat} {args : List A} {d : Nat} (h : wantA ops o st.s = some true) (hop : o.op = .call c) (hc : c.callee = .value x) (hx : ev st.s x = .fn f ids) (hd : o.dst = some d) (hb : ∀ j ∈ ids, ∃ ty cells, st.m j = some (.box ty cells))
  (ha : CvRs st.m (c.args.toList.map (ev st.s) ++ ids.map (A.ptr · 0)) args) (hi : args.all (fun a => a.ids.isEmpty) = true) (hf : flatA r = true) (hk : ∀ m, COk P f args m r) (ht : RunK P T kp base ops l ⟨upd st.s d r, st.m⟩ k) : RunK P T kp base ops (o :: l) st k := by
 refine runk_step (st1 := ⟨upd st.s d r, st.m⟩) ?_ ht
 have := HS.val (P := P) (T := T) (base := base) (ops := ops) (o := o) (kp := kp) (HV.callR h hop hc hx hb ha (fun a ha => by have := List.all_eq_true.1 hi a ha; simpa using this) hf hk)
 rw [hd] at this
 exact this
theorem runk_callE {o : Oper} {l : List Oper} {st : St} {k : St → Prop} {r : A} {c : Call} {x : Operand} {f : FuncId} {ids : List Nat} {args : List A} {D : List Nat} {M' : Mem} (h : wantA ops o st.s = some true) (hop : o.op = .call c) (hc : c.callee = .value x) (hbar : kind T o.op = .barrier) (hx : ev st.s x = .fn f ids) (hkp : ∀ j ∈ D, ¬ kp j) (hb : ∀ j ∈ ids, ∃ ty cells, st.m j = some (.box ty cells))
  (ha : Cvs st.m (c.args.toList.map (ev st.s) ++ ids.map (A.ptr · 0)) args) (hk : CallE P f args st.m D r M') (ht : RunK P T kp base ops l ⟨putS (killL D st.s) o.dst r, M'⟩ k) : RunK P T kp base ops (o :: l) st k :=
 runk_step (.eff (eff_call hkp hbar h hop hc hx hb ha hk)) ht
theorem runk_call0 {o : Oper} {l : List Oper} {st : St} {k : St → Prop} {r : A} {c : Call} {x : Operand} {f : FuncId} {ids : List Nat} {args : List A} {M' : Mem} {d : Nat} (h : wantA ops o st.s = some true) (hop : o.op = .call c) (hc : c.callee = .value x) (hbar : kind T o.op = .barrier) (hx : ev st.s x = .fn f ids) (hd : o.dst = some d) (hb : ∀ j ∈ ids, ∃ ty cells, st.m j = some (.box ty cells))
  (ha : Cvs st.m (c.args.toList.map (ev st.s) ++ ids.map (A.ptr · 0)) args) (hk : CallE P f args st.m [] r M') (ht : RunK P T kp base ops l ⟨upd st.s d r, M'⟩ k) : RunK P T kp base ops (o :: l) st k :=
 runk_callE (D := []) h hop hc hbar hx (fun j hj => by simp at hj) hb ha hk (by rw [hd]; exact ht)
theorem app_small {n b : Nat} (h : n * b ≤ 140737488355328) (h0 : 0 < b) : n ≤ maxLen := by
 have : n * 1 ≤ n * b := Nat.mul_le_mul_left _ h0
 unfold maxLen; omega
theorem runk_appendG (hT : T.Ok P) {o : Oper} {l : List Oper} {st : St} {k : St → Prop} {c : Call} {x y : Operand} {t d : Nat} (id : Nat) {e n b : Nat} (fz : Bool) {zs : List Value} {xs ys : List (List C)} (h : wantA ops o st.s = some true) (hop : o.op = .call c) (hc : c.callee = .builtin .append) (ha : c.args = #[x, y]) (ht : c.argTypes = #[t, t]) (hd : o.dst = some d)
  (hx : ev st.s x = .own id) (hm : st.m id = some (rowO fz e n xs)) (hy : asC st.m (ev st.s y) = some (.sl ys)) (h1 : T.elem t = some (e, n)) (h2 : T.bytes e = some b) (h3 : T.zero e = some zs) (h4 : zs.length = n) (hkp : ¬ kp id) (hl : ∀ z ∈ ys, z.length = n) (hb : (xs.length + ys.length) * b ≤ 140737488355328) (hb0 : 0 < b)
  (ht2 : RunK P T kp base ops l ⟨upd (killS id st.s) d (.own id), upd (killM id st.m) id (some (rowO fz e n (xs ++ ys)))⟩ k) : RunK P T kp base ops (o :: l) st k :=
 runk_step (.eff (eff_append hT hkp ⟨h, hop, hc, ha, ht, hd, hx, hm, hy, h1, h2, h3, h4, hl, hb, app_small hb hb0⟩)) ht2
theorem runk_append (hT : T.Ok P) {o : Oper} {l : List Oper} {st : St} {k : St → Prop} {c : Call} {x y : Operand} {t d : Nat} (id : Nat) {e n b : Nat} {zs : List Value} {xs ys : List (List C)} (h : wantA ops o st.s = some true) (hop : o.op = .call c) (hc : c.callee = .builtin .append) (ha : c.args = #[x, y]) (ht : c.argTypes = #[t, t]) (hd : o.dst = some d)
  (hx : ev st.s x = .own id) (hm : st.m id = some (.arr e n xs)) (hy : asC st.m (ev st.s y) = some (.sl ys)) (h1 : T.elem t = some (e, n)) (h2 : T.bytes e = some b) (h3 : T.zero e = some zs) (h4 : zs.length = n) (hkp : ¬ kp id) (hl : ∀ z ∈ ys, z.length = n) (hb : (xs.length + ys.length) * b ≤ 140737488355328) (hb0 : 0 < b)
  (ht2 : RunK P T kp base ops l ⟨upd (killS id st.s) d (.own id), upd (killM id st.m) id (some (.arr e n (xs ++ ys)))⟩ k) : RunK P T kp base ops (o :: l) st k :=
 runk_appendG hT id true h hop hc ha ht hd hx hm hy h1 h2 h3 h4 hkp hl hb hb0 ht2
theorem runk_appendM (hT : T.Ok P) {o : Oper} {l : List Oper} {st : St} {k : St → Prop} {c : Call} {x y : Operand} {t d : Nat} (id : Nat) {e n b : Nat} {zs : List Value} {xs ys : List (List C)} (h : wantA ops o st.s = some true) (hop : o.op = .call c) (hc : c.callee = .builtin .append) (ha : c.args = #[x, y]) (ht : c.argTypes = #[t, t]) (hd : o.dst = some d)
  (hx : ev st.s x = .own id) (hm : st.m id = some (.mrow e n xs)) (hy : asC st.m (ev st.s y) = some (.sl ys)) (h1 : T.elem t = some (e, n)) (h2 : T.bytes e = some b) (h3 : T.zero e = some zs) (h4 : zs.length = n) (hkp : ¬ kp id) (hl : ∀ z ∈ ys, z.length = n) (hb : (xs.length + ys.length) * b ≤ 140737488355328) (hb0 : 0 < b)
  (ht2 : RunK P T kp base ops l ⟨upd (killS id st.s) d (.own id), upd (killM id st.m) id (some (.mrow e n (xs ++ ys)))⟩ k) : RunK P T kp base ops (o :: l) st k :=
 runk_appendG hT id false h hop hc ha ht hd hx hm hy h1 h2 h3 h4 hkp hl hb hb0 ht2
theorem W.regionK {R : Ref} {n : Nat} {ds : List Deferred} {st : St} {K : Exit → St → Prop} (hT : T.Ok P) (base : Nat) {id : Nat} (hd : dstOk n ops = true) (h : RunK P T R.keep base ops ops.toList st (K .normal)) : W P R n ds st (.region id ops false) K :=
 let ⟨_, h1, h2⟩ := h
 W.region hT base hd h1 h2
theorem W.regionDK {R : Ref} {n : Nat} {ds : List Deferred} {st : St} {K : Exit → St → Prop} (hT : T.Ok P) (base : Nat) {id : Nat} (hm : P.follows .mixedOrders = true) (hok : okRegion T ops = true) (hd : dstOk n ops = true) (h : RunK P T R.keep base ops ops.toList st (K .normal)) : W P R n ds st (.region id ops true) K :=
 let ⟨_, h1, h2⟩ := h
 W.regionD hT base hm hok hd h1 h2
theorem W.newRow {R : Ref} {n : Nat} {ds : List Deferred} {st : St} {c : Code} {K : Exit → St → Prop} (fz : Bool) (t id ty e : Nat) (ht : st.s t = .nil) (hid : st.m id = none) (h : W P R n ds ⟨upd st.s t (.own id), upd st.m id (some (rowO fz ty e []))⟩ c K) : W P R n ds st c K := by
 intro a w hr
 refine h a w ?_
 obtain ⟨⟨B, I, hm, hx0, hkp, hs⟩, h2, h3, hnn, h4, h5⟩ := hr
 have hne : ∀ j, (st.m j).isSome = true → j ≠ id := fun j hj e' => by subst e'; rw [hid] at hj; cases hj
 have hB : ∀ j, (st.m j).isSome = true → upd B id (.slice none 0 0) j = B j := fun j hj => upd_ne _ _ (hne j hj)
 have liv : ∀ j, (st.m j).isSome = true → (upd st.m id (some (rowO fz ty e [])) j).isSome = true := fun j hj => by rw [upd_ne _ _ (hne j hj)]; exact hj
 have other : ∀ {j : Nat} {z : O}, upd st.m id (some (rowO fz ty e [])) j = some z → (j = id ∧ z = rowO fz ty e []) ∨ (j ≠ id ∧ st.m j = some z) := fun {j z} hz => by
  unfold upd at hz
  split at hz
  ·rename_i e'; exact .inl ⟨e', (Option.some.inj hz).symm⟩
  ·rename_i e'; exact .inr ⟨e', hz⟩
 have nofoot : ∀ {k : Nat}, ¬ foot (upd B id (.slice none 0 0)) id (rowO fz ty e []) k := fun {k} hk => by cases fz <;> simp [rowO, foot, upd_same, Value.ownBlock] at hk
 have live : ∀ {j : Nat} {z : O}, st.m j = some z → (st.m j).isSome = true := fun {j z} hj => by simp [hj]
 refine ⟨⟨upd B id (.slice none 0 0), I, ⟨hm.below, hm.glob, hm.base, hm.old, hm.there, fun j z hz => ?_, fun j z hz k hk => ?_, fun j z j' z' hz hz' hne' k hk hk' => ?_, fun j z hz i hi => ?_⟩, hx0, fun j hj => (hB j (h5 j hj)).trans (hkp j hj), fun u => ?_⟩, fun u j hj => ?_, h3, hnn, ?_, fun j hj => liv j (h5 j hj)⟩
 ·rcases other hz with ⟨rfl, rfl⟩ | ⟨hj, ho⟩
  ·cases fz with
   | true => exact ⟨[], by rw [upd_same]; exact World.ownsRow_nil w 0 ty e, trivial, fun x hx => by simp at hx, fun b hb => by simp [upd_same, Value.ownBlock] at hb⟩
   | false => exact ⟨[], by rw [upd_same]; exact ⟨by simp, .inl ⟨rfl, rfl⟩⟩, trivial, fun x hx => by simp at hx, fun b hb => by simp [upd_same, Value.ownBlock] at hb⟩
  ·exact RO.mono (Ext.refl _ _) (hB j (live ho)) (fun i hi => hB i (hm.live j z ho i hi)) (fun _ _ => rfl) (fun _ _ _ hp => hp) (hm.objs j z ho)
 ·rcases other hz with ⟨rfl, rfl⟩ | ⟨hj, ho⟩
  ·exact absurd hk nofoot
  ·exact hm.low j z ho k ((foot_eq (hB j (live ho))).1 hk)
 ·rcases other hz with ⟨rfl, rfl⟩ | ⟨hj, ho⟩
  ·exact nofoot hk
  ·rcases other hz' with ⟨rfl, rfl⟩ | ⟨hj', ho'⟩
   ·exact nofoot hk'
   ·exact hm.apart j z j' z' ho ho' hne' k ((foot_eq (hB j (live ho))).1 hk) ((foot_eq (hB j' (live ho'))).1 hk')
 ·rcases other hz with ⟨rfl, rfl⟩ | ⟨hj, ho⟩
  ·cases fz <;> simp [rowO, O.ids] at hi
  ·exact liv i (hm.live j z ho i hi)
 ·show RV _ _ _ (upd st.s t (A.own id) u) _
  by_cases hu : u = t
  ·subst hu
   rw [upd_same]
   have := hs u
   rw [ht] at this
   exact ⟨this.trans (upd_same ..).symm, none, 0, 0, this⟩
  ·rw [upd_ne _ _ hu]
   exact (hs u).mono (Ext.refl _ _) fun j hj => hB j (h2 u j hj)
 ·replace hj : j ∈ (upd st.s t (A.own id) u).ids := hj
  show (upd st.m id (some (rowO fz ty e [])) j).isSome = true
  by_cases hu : u = t
  ·subst hu
   rw [upd_same] at hj
   simp [A.ids] at hj
   subst hj
   simp [upd_same]
  ·rw [upd_ne _ _ hu] at hj
   exact liv j (h2 u j hj)
 ·show _ = dfs (upd st.s t (A.own id) DID) ++ ds
  by_cases hu : DID = t
  ·have : dfs (st.s DID) = [] := by rw [hu, ht]; rfl
   rw [h4, this, hu, upd_same]; rfl
  ·rw [upd_ne _ _ hu]; exact h4
theorem MR.newNil {w0 w : World} {I0 I : Nat → Nat → Prop} {B : Nat → Value} {m : Mem} (hm : MR w0 I0 B I m w) {id : Nat} (hid : m id = none) (fz : Bool) (ty e : Nat) : MR w0 I0 (upd B id (.slice none 0 0)) I (upd m id (some (rowO fz ty e []))) w := by
 have hne : ∀ j, (m j).isSome = true → j ≠ id := fun j hj e' => by subst e'; rw [hid] at hj; cases hj
 have hB : ∀ j, (m j).isSome = true → upd B id (.slice none 0 0) j = B j := fun j hj => upd_ne _ _ (hne j hj)
 have liv : ∀ j, (m j).isSome = true → (upd m id (some (rowO fz ty e [])) j).isSome = true := fun j hj => by rw [upd_ne _ _ (hne j hj)]; exact hj
 have other : ∀ {j : Nat} {z : O}, upd m id (some (rowO fz ty e [])) j = some z → (j = id ∧ z = rowO fz ty e []) ∨ (j ≠ id ∧ m j = some z) := fun {j z} hz => by
  unfold upd at hz
  split at hz
  ·rename_i e'; exact .inl ⟨e', (Option.some.inj hz).symm⟩
  ·rename_i e'; exact .inr ⟨e', hz⟩
 have nofoot : ∀ {k : Nat}, ¬ foot (upd B id (.slice none 0 0)) id (rowO fz ty e []) k := fun {k} hk => by cases fz <;> simp [rowO, foot, upd_same, Value.ownBlock] at hk
 have live : ∀ {j : Nat} {z : O}, m j = some z → (m j).isSome = true := fun {j z} hj => by simp [hj]
 refine ⟨hm.below, hm.glob, hm.base, hm.old, hm.there, fun j z hz => ?_, fun j z hz k hk => ?_, fun j z j' z' hz hz' hne' k hk hk' => ?_, fun j z hz i hi => ?_⟩
 ·rcases other hz with ⟨rfl, rfl⟩ | ⟨hj, ho⟩
  ·cases fz with
   | true => exact ⟨[], by rw [upd_same]; exact World.ownsRow_nil w 0 ty e, trivial, fun x hx => by simp at hx, fun b hb => by simp [upd_same, Value.ownBlock] at hb⟩
   | false => exact ⟨[], by rw [upd_same]; exact ⟨by simp, .inl ⟨rfl, rfl⟩⟩, trivial, fun x hx => by simp at hx, fun b hb => by simp [upd_same, Value.ownBlock] at hb⟩
  ·exact RO.mono (Ext.refl _ _) (hB j (live ho)) (fun i hi => hB i (hm.live j z ho i hi)) (fun _ _ => rfl) (fun _ _ _ hp => hp) (hm.objs j z ho)
 ·rcases other hz with ⟨rfl, rfl⟩ | ⟨hj, ho⟩
  ·exact absurd hk nofoot
  ·exact hm.low j z ho k ((foot_eq (hB j (live ho))).1 hk)
 ·rcases other hz with ⟨rfl, rfl⟩ | ⟨hj, ho⟩
  ·exact nofoot hk
  ·rcases other hz' with ⟨rfl, rfl⟩ | ⟨hj', ho'⟩
   ·exact nofoot hk'
   ·exact hm.apart j z j' z' ho ho' hne' k ((foot_eq (hB j (live ho))).1 hk) ((foot_eq (hB j' (live ho'))).1 hk')
 ·rcases other hz with ⟨rfl, rfl⟩ | ⟨hj, ho⟩
  ·cases fz <;> simp [rowO, O.ids] at hi
  ·exact liv i (hm.live j z ho i hi)
theorem W.newRowBox {R : Ref} {n : Nat} {ds : List Deferred} {st : St} {c : Code} {K : Exit → St → Prop} (fz : Bool) (j k id ty e : Nat) {tyb : TypeId} {cells : List A} (hj : st.m j = some (.box tyb cells)) (hk : cells[k]? = some .nil) (hid : st.m id = none)
  (h : W P R n ds ⟨st.s, upd (upd st.m id (some (rowO fz ty e []))) j (some (.box tyb (cells.set k (.own id))))⟩ c K) : W P R n ds st c K := by
 intro a w hr
 refine h a w ?_
 obtain ⟨⟨B, I, hm, hx0, hkp, hs⟩, h2, h3, hnn, h4, h5⟩ := hr
 have hne : ∀ i, (st.m i).isSome = true → i ≠ id := fun i hi e' => by subst e'; rw [hid] at hi; cases hi
 have hB : ∀ i, (st.m i).isSome = true → upd B id (.slice none 0 0) i = B i := fun i hi => upd_ne _ _ (hne i hi)
 have hm1 := hm.newNil hid fz ty e
 have hj1 : upd st.m id (some (rowO fz ty e [])) j = some (.box tyb cells) := by rw [upd_ne _ _ (hne j (by simp [hj]))]; exact hj
 obtain ⟨b, vs, e1, e2, e3, e4⟩ := hm1.objs j _ hj1
 have liv : ∀ i, (st.m i).isSome = true → (upd (upd st.m id (some (rowO fz ty e []))) j (some (.box tyb (cells.set k (.own id)))) i).isSome = true := fun i hi => by
  unfold upd; split
  ·rfl
  ·split
   ·rfl
   ·exact hi
 have hm2 := hm1.turn (o' := .box tyb (cells.set k (.own id))) hj1 ⟨0, e1⟩ (fun q hq => by obtain ⟨off, hq⟩ := hq; rw [e1] at hq; cases hq; rfl) e4 rfl rfl rfl rfl (fun _ _ => rfl) (fun i hi => by
  obtain ⟨a', ha', hi'⟩ := List.mem_flatMap.1 hi
  rcases List.mem_or_eq_of_mem_set ha' with ha' | rfl
  ·exact hm1.live j _ hj1 i (List.mem_flatMap.2 ⟨a', ha', hi'⟩)
  ·simp [A.ids] at hi'; subst hi'; rw [upd_same]; rfl) (fun _ => by
  refine ⟨b, vs, e1, e2, ?_, e4⟩
  have hl := e3.length
  refine RVs.of (by rw [List.length_set]; exact hl) fun q a' v' ha' hv' => ?_
  rw [List.getElem?_set] at ha'
  split at ha'
  ·rename_i hq
   subst hq
   split at ha'
   ·cases ha'
    obtain ⟨v2, q1, q2, q3⟩ := e3.at k _ hk
    rw [hv'] at q1; cases q1
    have hv : v' = .slice none 0 0 := q2
    exact ⟨⟨hv.trans (upd_same ..).symm, none, 0, 0, hv⟩, q3⟩
   ·cases ha'
  ·obtain ⟨v2, q1, q2, q3⟩ := e3.at q _ ha'
   rw [hv'] at q1; cases q1
   exact ⟨q2, q3⟩)
 exact ⟨⟨_, I, hm2.1, hx0, fun i hi => (hB i (h5 i hi)).trans (hkp i hi), fun t => (hs t).mono (Ext.refl _ _) fun i hi => hB i (h2 t i hi)⟩, fun t i hi => liv i (h2 t i hi), h3, hnn, h4, fun i hi => liv i (h5 i hi)⟩
theorem W.newArr {R : Ref} {n : Nat} {ds : List Deferred} {st : St} {c : Code} {K : Exit → St → Prop} (t id ty e : Nat) (ht : st.s t = .nil) (hid : st.m id = none) (h : W P R n ds ⟨upd st.s t (.own id), upd st.m id (some (.arr ty e []))⟩ c K) : W P R n ds st c K := W.newRow true t id ty e ht hid h
theorem W.newM {R : Ref} {n : Nat} {ds : List Deferred} {st : St} {c : Code} {K : Exit → St → Prop} (t id ty e : Nat) (ht : st.s t = .nil) (hid : st.m id = none) (h : W P R n ds ⟨upd st.s t (.own id), upd st.m id (some (.mrow ty e []))⟩ c K) : W P R n ds st c K := W.newRow false t id ty e ht hid h
end
theorem ybeq_some (a b : Bool) : (some a == some b) = (a == b) := rfl
theorem beqT (b : Bool) : (b == true) = b := by cases b <;> rfl
theorem beqF (b : Bool) : (b == false) = !b := by cases b <;> rfl
theorem ybeq_none (b : Bool) : ((none : Option Bool) == some b) = false := rfl
theorem empty_toList : (⟨#[]⟩ : ByteArray).toList = [] := by
 unfold ByteArray.toList ByteArray.toList.loop
 rfl
theorem int_pred (j : Nat) : (((j + 1 : Nat) : Int) - 1) = (j : Int) := by omega
theorem upd_app {α : Type} (f : Nat → α) (t : Nat) (x : α) (u : Nat) : upd f t x u = if u = t then x else f u := rfl
theorem entry_zero (a : A) (l : List A) : entry (a :: l) 0 = a := rfl
theorem entry_succ (a : A) (l : List A) (n : Nat) : entry (a :: l) (n + 1) = entry l n := rfl
theorem entry_nil (n : Nat) : entry [] n = .undef := by simp [entry]
theorem cvs_nil {m : Mem} : Cvs m [] [] := trivial
theorem cvs_cons {m : Mem} {a a' : A} {l l' : List A} (h : Cv m a a') (k : Cvs m l l') : Cvs m (a :: l) (a' :: l') := ⟨h, k⟩
theorem cv_refl {m : Mem} {a : A} : Cv m a a := .inl rfl
theorem cvrs_nil {m : Mem} : CvRs m [] [] := trivial
theorem cvrs_cons {m : Mem} {a a' : A} {l l' : List A} (h : CvR m a a') (k : CvRs m l l') : CvRs m (a :: l) (a' :: l') := ⟨h, k⟩
theorem cvr_refl {m : Mem} {a : A} : CvR m a a := .inl (.inl rfl)
theorem cvr_fn {m : Mem} {f : FuncId} {ids : List Nat} {caps : List (List C)} (h : capsOf m ids = some caps) : CvR m (.fn f ids) (.fnR f caps) := .inr (.inr (.inl ⟨f, ids, caps, rfl, h, rfl⟩))
theorem caps_one {m : Mem} {j : Nat} {ty : TypeId} {cells : List A} {xs : List C} (hj : m j = some (.box ty cells)) (hx : asCs m cells = some xs) : capsOf m [j] = some [xs] := by simp [capsOf, hj, hx]
theorem cv_own {m : Mem} {id ty e : Nat} {xs : List (List C)} (h : m id = some (.arr ty e xs)) : Cv m (.own id) (.c (.sl xs)) := .inr (.inr ⟨_, by simp [asC, h], rfl⟩)
theorem mem_nil_app (j : Nat) : Mem.nil j = none := rfl
theorem top_app (t : Nat) : (fun _ : Nat => A.top) t = .top := rfl
def SLe (s s' : Nat → A) : Prop := ∀ t, s' t = .top ∨ s' t = s t
def MLe (m m' : Mem) : Prop := ∀ j, m' j = none ∨ m' j = m j
theorem sle_top (s : Nat → A) : SLe s (fun _ => .top) := fun _ => .inl rfl
theorem sle_refl (s : Nat → A) : SLe s s := fun _ => .inr rfl
theorem sle_upd {s s' : Nat → A} {t : Nat} {x : A} (h : SLe s s') (hx : s t = x) : SLe s (upd s' t x) := fun u => by
 unfold upd; split
 ·rename_i e; subst e; exact .inr hx.symm
 ·exact h u
theorem mle_nil (m : Mem) : MLe m Mem.nil := fun _ => .inl rfl
theorem mle_refl (m : Mem) : MLe m m := fun _ => .inr rfl
theorem mle_upd {m m' : Mem} {j : Nat} {o : O} (h : MLe m m') (ho : m j = some o) : MLe m (upd m' j (some o)) := fun u => by
 unfold upd; split
 ·rename_i e; subst e; exact .inr ho.symm
 ·exact h u
def SWf (m : Mem) (s : Nat → A) : Prop := ∀ t, ∀ j ∈ (s t).ids, (m j).isSome = true
def MWf (m m' : Mem) : Prop := ∀ id o, m' id = some o → ∀ j ∈ o.ids, (m j).isSome = true
theorem swf_top (m : Mem) : SWf m (fun _ => .top) := fun _ j hj => by simp [A.ids] at hj
theorem swf_upd {m : Mem} {s : Nat → A} {t : Nat} {x : A} (h : SWf m s) (hx : ∀ j ∈ x.ids, (m j).isSome = true) : SWf m (upd s t x) := fun u j hj => by
 unfold upd at hj; split at hj
 ·exact hx j hj
 ·exact h u j hj
theorem mwf_nil (m : Mem) : MWf m Mem.nil := fun _ _ h => absurd h (noneSome _)
theorem mwf_upd {m m' : Mem} {i : Nat} {o : O} (h : MWf m m') (ho : ∀ j ∈ o.ids, (m j).isSome = true) : MWf m (upd m' i (some o)) := fun id x hx j hj => by
 unfold upd at hx; split at hx
 ·cases hx; exact ho j hj
 ·exact h id x hx j hj
theorem le_mk {kp : Nat → Prop} {st st' : St} (h1 : SLe st.s st'.s) (h2 : MLe st.m st'.m) (h3 : SWf st'.m st'.s) (h4 : MWf st'.m st'.m) (h5 : ∀ j, kp j → (st'.m j).isSome = true) (h6 : dfs (st'.s DID) = dfs (st.s DID)) : Le kp st st' := ⟨h1, h2, ⟨h3, h4⟩, h5, h6⟩
theorem kept_not {kp : Nat → Prop} (h : kp = fun _ => False) {m : Mem} : ∀ j, kp j → (m j).isSome = true := fun j hj => by rw [h] at hj; exact hj.elim
theorem nokeep {kp : Nat → Prop} (h : kp = fun _ => False) {j : Nat} : ¬ kp j := by rw [h]; exact fun h => h
theorem wrap_nat {k : Nat} (h : k < 9223372036854775808) : IntKind.i64.wrap (k : Int) = k := by
 have h2 : (k : Int) % 18446744073709551616 = k := by omega
 have h3 : ¬ ((k : Int) ≥ 9223372036854775808) := by omega
 simp [IntKind.wrap, IntKind.bits, IntKind.signed, h2]
 omega
theorem ok_pure {P : Go.Program} {T : Tab} (hT : T.Ok P) {f : FuncId} {fn : Func} {c : Code} {l : List ResultVar} {args : List A} {r : A} (hf : P.funcs[f]? = some fn) (hn : (fn.name == "runtime.NumGoroutine") = false) (hb : fn.body = some c) (hl : fn.results.toList = l) (hd : args.all (fun a => a.ids.isEmpty && !(match a with | .defs _ => true | _ => false)) = true) (hr : r.ids = []) (hle : decide (args.length ≤ fn.ntmps ∧ fn.ntmps ≤ DID) = true)
  (hW : ∀ R : Ref, R.keep = (fun _ => False) → W P R fn.ntmps [] ⟨entry args, Mem.nil⟩ c (fun e st => (e = .normal ∨ e = .ret) ∧ dfs (st.s DID) = [] ∧ resA T st l = some r)) (m : Mem) : COk P f args m r :=
 ⟨enters_of hf hn hb, hr, fun m' _ => call_pure hT hf hb hl (fun a ha => by have := List.all_eq_true.1 hd a ha; simp only [Bool.and_eq_true] at this; simpa using this.1) (fun a ha l e => by have := List.all_eq_true.1 hd a ha; subst e; simp at this) (of_decide_eq_true hle).1 (of_decide_eq_true hle).2 hW m'⟩
theorem wrap_succ {k : Nat} (h : k + 1 < 9223372036854775808) : IntKind.i64.wrap ((k : Int) + 1) = ((k + 1 : Nat) : Int) := by
 have := wrap_nat h
 simpa using this
theorem wf_i64 {n : Int} (h1 : -9223372036854775808 ≤ n) (h2 : n ≤ 9223372036854775807) : (Lit.int .i64 n).wf = true := by
 simp [Lit.wf, IntKind.min, IntKind.max, IntKind.bits, IntKind.signed]
 omega
theorem at_map {α β : Type} {f : α → β} {l : List α} {k : Nat} {x : α} (h : l[k]? = some x) : (l.map f)[k]? = some (f x) := by simp [h]
theorem exs : (∀ (α : Type) (l : List α) (i : Nat), l.toArray[i]? = l[i]?) ∧ (∀ (α : Type) (a : α) (l : List α) (i : Nat), (a :: l)[i + 1]? = l[i]?) ∧ (∀ (α : Type) (a : α) (l : List α), (a :: l)[0]? = some a) ∧
  (∀ (α β : Type) (a : α) (f : α → Option β), (some a).bind f = f a) ∧ (∀ (α : Type) (l : List α), l.toArray.size = l.length) ∧ (∀ (α β : Type) (f : α → β) (a : α) (l : List α), (a :: l).map f = f a :: l.map f) ∧ (∀ (α β : Type) (f : α → β), ([] : List α).map f = []) ∧
  (∀ (α : Type) (l : List α), l.drop 0 = l) ∧ (∀ (α : Type) (a : α) (l : List α) (i : Nat), (a :: l).drop (i + 1) = l.drop i) ∧ (∀ (α : Type) (i : Nat), ([] : List α).drop i = []) ∧
  (∀ (α : Type) (a : α) (l : List α) (i : Nat), (a :: l).take (i + 1) = a :: l.take i) ∧ (∀ (α : Type) (l : List α), l.take 0 = []) ∧ (∀ (α : Type) (i : Nat), ([] : List α).take i = []) ∧ (∀ (α : Type) (a : α) (l : List α), (a :: l).head? = some a) ∧
  (∀ (α : Type) (a : α) (n : Nat), List.replicate (n + 1) a = a :: List.replicate n a) ∧ (∀ (α : Type) (a : α), List.replicate 0 a = []) ∧ (∀ (α : Type) (l : List α) (r : List (List α)), (l :: r).flatten = l ++ r.flatten) ∧ (∀ (α : Type), ([] : List (List α)).flatten = []) ∧
  (∀ (α : Type) (a : α) (l : List α), (a :: l).length = l.length + 1) ∧ (∀ (α : Type), ([] : List α).length = 0) ∧ (∀ (α β : Type) (f : α → β) (l : List α), (l.map f).length = l.length) ∧ (∀ (α : Type) (l : List α), [] ++ l = l) ∧ (∀ (α : Type) (a : α) (l r : List α), a :: l ++ r = a :: (l ++ r)) ∧ (∀ (α : Type) (l : List α), l ++ [] = l) ∧
  (∀ (α β : Type) (f : α → β) (a : α), (some a).map f = some (f a)) ∧ (∀ (α β : Type) (f : α → β), (none : Option α).map f = none) ∧ (∀ n : Nat, 0 * n = 0) ∧ (∀ n : Nat, 1 * n = n) ∧ (∀ n : Nat, n * 1 = n) ∧ (∀ n : Nat, 0 + n = n) ∧ (∀ n : Nat, n + 0 = n) ∧ (∀ n : Nat, (n : Int).toNat = n) ∧ (∀ n : Nat, (0 ≤ (n : Int)) = True) ∧
  (∀ p : Prop, (p ∨ True) = True) ∧ (∀ p : Prop, (True ∧ p) = p) ∧ (∀ p : Prop, (p ∧ True) = p) ∧ (∀ p : Prop, (p ∧ p) = p) ∧ (∀ (α : Type) (a b : α), (if True then a else b) = a) ∧ (∀ (α : Type) (a b : α), (if False then a else b) = b) ∧ ((!true) = false) ∧ ((!false) = true) :=
 ⟨fun _ _ _ => by simp, fun _ _ _ _ => rfl, fun _ _ _ => rfl, fun _ _ _ _ => rfl, fun _ _ => rfl, fun _ _ _ _ _ => rfl, fun _ _ _ => rfl, fun _ _ => rfl, fun _ _ _ _ => rfl, fun _ _ => by simp, fun _ _ _ _ => rfl, fun _ _ => by simp, fun _ _ => by simp, fun _ _ _ => rfl,
  fun _ _ _ => rfl, fun _ _ => rfl, fun _ _ _ => by simp, fun _ => rfl, fun _ _ _ => rfl, fun _ => rfl, fun _ _ _ _ => by simp, fun _ _ => rfl, fun _ _ _ _ => rfl, fun _ _ => by simp, fun _ _ _ _ => rfl, fun _ _ _ => rfl, fun _ => by simp, fun _ => by simp, fun _ => by simp, fun _ => by simp, fun _ => rfl, fun _ => rfl, fun _ => by simp,
  fun _ => by simp, fun _ => by simp, fun _ => by simp, fun _ => by simp, fun _ _ _ => rfl, fun _ _ _ => rfl, rfl, rfl⟩
theorem fillC_cons (place : Nat → Option (Nat × Nat)) (cells : List C) (i : Nat) (v : Option (List C)) (rest : List (Nat × Option (List C))) : fillC place cells ((i, v) :: rest) = match place i, v with
  | some (o, n), some xs => if xs.length = n ∧ o + n ≤ cells.length then fillC place (cells.take o ++ (xs ++ cells.drop (o + n))) rest else none
  | _, _ => none := rfl
theorem fillA_cons (place : Nat → Option (Nat × Nat)) (cells : List A1) (i : Nat) (v : Option (List A1)) (rest : List (Nat × Option (List A1))) : fillA place cells ((i, v) :: rest) = match place i, v with
  | some (o, n), some xs => if xs.length = n ∧ o + n ≤ cells.length then fillA place (cells.take o ++ (xs ++ cells.drop (o + n))) rest else none
  | _, _ => none := rfl
theorem stO_box (T : Tab) (ty : Nat) (a v : A) (ty0 : TypeId) (cells : List A) : stO T ty a v (.box ty0 cells) = match a, T.ty ty, cellsA v with
  | .ptr _ off, some (n, _), some l => if l.length = n ∧ off + l.length ≤ cells.length then some (.box ty0 (repl cells off l)) else none
  | _, _, _ => none := rfl
theorem stO_mrow (T : Tab) (ty : Nat) (a v : A) (ty0 : TypeId) (e : Nat) (xs : List (List C)) : stO T ty a v (.mrow ty0 e xs) = match a, T.ty ty, dataC v with
  | .eptr _ e' i f, some (n, _), some l => if e' = e ∧ l.length = n ∧ f + l.length ≤ e then (match xs[i]? with | some cs => some (.mrow ty0 e (xs.set i (replC cs f l))) | none => none) else none
  | _, _, _ => none := rfl
theorem stO_rows (T : Tab) (ty : Nat) (a v : A) (ty0 : TypeId) (xs : List A1) : stO T ty a v (.rows ty0 xs) = match a, T.ty ty, cellsA v with
  | .eptr _ e i f, some (n, _), some [b] => if e = 1 ∧ n = 1 ∧ f = 0 ∧ i < xs.length then (match b.down with | some y => some (.rows ty0 (xs.set i y)) | none => none) else none
  | _, _, _ => none := rfl
set_option linter.defProp false in
def exa :=
 And.intro (And.intro (And.intro @qv2.eq_17 @qv2.eq_18) (And.intro @A.kill.eq_9 (And.intro @A.kill.eq_10 (And.intro @partA.eq_1 (And.intro @fillA.eq_1 (And.intro @fillA_cons (And.intro @fillC_cons (And.intro @stO_box (And.intro @stO_mrow @stO_rows))))))))) (And.intro (And.intro (And.intro (And.intro (And.intro (And.intro (And.intro (And.intro @exec.eq_1 @exec.eq_2) (And.intro @stepQ.eq_1 @wantA.eq_1)) (And.intro (And.intro @yieldA.eq_1 @kind.eq_1) (And.intro @kind.eq_2 @kind.eq_3))) (And.intro (And.intro (And.intro @kind.eq_4 @kind.eq_5) (And.intro @kind.eq_6 @kind.eq_7)) (And.intro (And.intro @kind.eq_8 @kind.eq_9) (And.intro @kind.eq_10 @kind.eq_11)))) (And.intro (And.intro (And.intro (And.intro @kind.eq_12 @kind.eq_13) (And.intro @kind.eq_14 @kind.eq_15)) (And.intro (And.intro @kind.eq_16 @kind.eq_17) (And.intro @kind.eq_18 @kind.eq_19))) (And.intro (And.intro (And.intro @kind.eq_20 @kind.eq_21) (And.intro @kind.eq_22 @kind.eq_23)) (And.intro (And.intro @kind.eq_24 @kind.eq_25) (And.intro @qv.eq_1 (And.intro @qv1.eq_1 @qv1.eq_2)))))) (And.intro (And.intro (And.intro (And.intro (And.intro @qv1.eq_3 @qv1.eq_4) (And.intro @qv1.eq_5 @qv1.eq_6)) (And.intro (And.intro @qv1.eq_7 @qv1.eq_8) (And.intro @qv1.eq_9 @qv1.eq_10))) (And.intro (And.intro (And.intro @qv1.eq_11 @qv1.eq_12) (And.intro @qv1.eq_13 @qv1.eq_14)) (And.intro (And.intro @qv1.eq_15 @qv1.eq_16) (And.intro @qv1.eq_17 @qv1.eq_18)))) (And.intro (And.intro (And.intro (And.intro @qv1.eq_19 @qv2.eq_1) (And.intro @qv2.eq_2 @qv2.eq_3)) (And.intro (And.intro @qv2.eq_4 @qv2.eq_5) (And.intro @qv2.eq_6 @qv2.eq_7))) (And.intro (And.intro (And.intro @qv2.eq_8 @qv2.eq_9) (And.intro @qv2.eq_10 @qv2.eq_11)) (And.intro (And.intro @qv2.eq_12 @qv2.eq_13) (And.intro @qv2.eq_14 (And.intro @qv2.eq_15 @qv2.eq_16))))))) (And.intro (And.intro (And.intro (And.intro (And.intro (And.intro @stO.eq_1 @stO.eq_2) (And.intro @stO.eq_3 @stO.eq_4)) (And.intro (And.intro @stO.eq_5 @stO.eq_6) (And.intro @stO.eq_7 @adrId.eq_1))) (And.intro (And.intro (And.intro @adrId.eq_2 @adrId.eq_3) (And.intro @dataC.eq_1 @dataC.eq_2)) (And.intro (And.intro @dataC.eq_3 @dataC.eq_4) (And.intro @dataC.eq_5 @replC.eq_1)))) (And.intro (And.intro (And.intro (And.intro @eqNil.eq_1 @eqNil.eq_2) (And.intro @eqNil.eq_3 @eqNil.eq_4)) (And.intro (And.intro @eqNil.eq_5 @eqNil.eq_6) (And.intro @eqNil.eq_7 @eqNil.eq_8))) (And.intro (And.intro (And.intro @eqNil.eq_9 @eqNil.eq_10) (And.intro @eqNil.eq_11 @eqNil.eq_12)) (And.intro (And.intro @eqNil.eq_13 @binNil.eq_1) (And.intro @binNil.eq_2 (And.intro @binNil.eq_3 @shiftInt.eq_1)))))) (And.intro (And.intro (And.intro (And.intro (And.intro @shiftInt.eq_2 @shiftInt.eq_3) (And.intro @A.down.eq_1 @A.down.eq_2)) (And.intro (And.intro @A.down.eq_3 @A.down.eq_4) (And.intro @A.down.eq_5 @A.down.eq_6))) (And.intro (And.intro (And.intro @A.down.eq_7 @A.down.eq_8) (And.intro @A.down.eq_9 @A1.up.eq_1)) (And.intro (And.intro @A1.up.eq_2 @A1.up.eq_3) (And.intro @A1.up.eq_4 @A1.up.eq_5)))) (And.intro (And.intro (And.intro (And.intro @A1.up.eq_6 @A1.up.eq_7) (And.intro @A1.up.eq_8 @downs.eq_1)) (And.intro (And.intro @downs.eq_2 @toR.eq_1) (And.intro @toR.eq_2 @ev.eq_1))) (And.intro (And.intro (And.intro @ev.eq_2 @ev.eq_3) (And.intro @ev.eq_4 @putS.eq_1)) (And.intro (And.intro @putS.eq_2 @rowO.eq_1) (And.intro @ofConst.eq_1 (And.intro @ofConst.eq_2 @ofConst.eq_3)))))))) (And.intro (And.intro (And.intro (And.intro (And.intro (And.intro (And.intro @ofConst.eq_4 @ofConst.eq_5) (And.intro @ofConst.eq_6 @ofConst.eq_7)) (And.intro (And.intro @ofConst.eq_8 @ofConst.eq_9) (And.intro @cellsA.eq_1 @cellsA.eq_2))) (And.intro (And.intro (And.intro @cellsA.eq_3 @cellsA.eq_4) (And.intro @cellsA.eq_5 @cellsA.eq_6)) (And.intro (And.intro @cellsA.eq_7 @cellsA.eq_8) (And.intro @cellsA.eq_9 @cellsA.eq_10)))) (And.intro (And.intro (And.intro (And.intro @cellsA.eq_11 @cellsA.eq_12) (And.intro @cellsC.eq_1 @cellsC.eq_2)) (And.intro (And.intro @asC.eq_1 @asC.eq_2) (And.intro @asC.eq_3 @asC.eq_4))) (And.intro (And.intro (And.intro @asC.eq_5 @asCs.eq_1) (And.intro @asCs.eq_2 @ld.eq_1)) (And.intro (And.intro @ldR.eq_1 @ldR.eq_2) (And.intro @bin.eq_1 (And.intro @bin.eq_2 @bin.eq_3)))))) (And.intro (And.intro (And.intro (And.intro (And.intro @bin.eq_4 @bin.eq_5) (And.intro @bin.eq_6 @bin.eq_7)) (And.intro (And.intro @binInt.eq_1 @binInt.eq_2) (And.intro @binInt.eq_3 @binInt.eq_4))) (And.intro (And.intro (And.intro @binInt.eq_5 @binInt.eq_6) (And.intro @binInt.eq_7 @binInt.eq_8)) (And.intro (And.intro @binInt.eq_9 @binInt.eq_10) (And.intro @binInt.eq_11 @binInt.eq_12)))) (And.intro (And.intro (And.intro (And.intro @binInt.eq_13 @binInt.eq_14) (And.intro @binInt.eq_15 @binInt.eq_16)) (And.intro (And.intro @binStr.eq_1 @binStr.eq_2) (And.intro @binStr.eq_3 @binStr.eq_4))) (And.intro (And.intro (And.intro @binStr.eq_5 @binStr.eq_6) (And.intro @binStr.eq_7 @binStr.eq_8)) (And.intro (And.intro @binBool.eq_1 @binBool.eq_2) (And.intro @binBool.eq_3 (And.intro @sliceOf.eq_1 @bndOf.eq_1))))))) (And.intro (And.intro (And.intro (And.intro (And.intro (And.intro @bndOf.eq_2 @bndOf.eq_3) (And.intro @repl.eq_1 @fillC.eq_1)) (And.intro (And.intro @fillC.eq_2 @fillC.eq_3) (And.intro @zeroC.eq_1 @chunks.eq_1))) (And.intro (And.intro (And.intro @chunks.eq_2 @ptrIds.eq_1) (And.intro @ptrIds.eq_2 @ptrIds.eq_3)) (And.intro (And.intro @A.kill.eq_1 @A.kill.eq_2) (And.intro @A.kill.eq_3 @A.kill.eq_4)))) (And.intro (And.intro (And.intro (And.intro @A.kill.eq_5 @A.kill.eq_6) (And.intro @A.kill.eq_7 @A.kill.eq_8)) (And.intro (And.intro @A.kill.eq_9 @A.kill.eq_10) (And.intro @O.kill.eq_1 @O.kill.eq_2))) (And.intro (And.intro (And.intro @O.kill.eq_3 @O.kill.eq_4) (And.intro @maxStr.eq_1 @toKey.eq_1)) (And.intro (And.intro @toKey.eq_2 (And.intro @toKey.eq_3 @toKey.eq_4)) (And.intro (And.intro @keyTy.eq_1 (And.intro @keyC.eq_1 (And.intro @keyC.eq_2 (And.intro @keyC.eq_3 @keyCs.eq_1)))) (And.intro (And.intro @keyTy.eq_2 (And.intro @keyCs.eq_2 @keyCs.eq_3)) (And.intro @keyTy.eq_3 @keyTy.eq_4))))))) (And.intro (And.intro (And.intro (And.intro (And.intro @zero1.eq_1 @lookRes.eq_1) (And.intro @eqTs.eq_1 @eqTs.eq_2)) (And.intro (And.intro @eqTs.eq_3 @eqT.eq_1) (And.intro @eqT.eq_2 @eqT.eq_3))) (And.intro (And.intro (And.intro @eqT.eq_4 @eqRes.eq_1) (And.intro @eqRes.eq_2 @eqRes.eq_3)) (And.intro (And.intro @offs.eq_1 @offs.eq_2) (And.intro @upd_app (And.intro @mem_nil_app @entry_zero))))) (And.intro (And.intro (And.intro (And.intro @entry_succ @entry_nil) (And.intro @top_app @killS_app)) (And.intro (And.intro @killM_app @wf_i64) (And.intro @decide_true @decide_false))) (And.intro (And.intro (And.intro @ybeq_some @ybeq_none) (And.intro @beqT @beqF)) (And.intro (And.intro @empty_toList exs) (And.intro tabs (And.intro @isNilRow.eq_1 @isNilRow.eq_2)))))))))
end V
end Go.Proofs.YtnmfbaahabcocaaDoor
end
section
namespace Go.Proofs.YtnmfbaahabcocaaDoor
open Go.ChangeShapes Go.WideShapes Go.ChangeAt Go.RowKit
open Go.ChangeMaps (open_string shut_string)
theorem own : ownKnob Tryd.prog.godebug = none := by kernel_rfl
theorem laidOut : laidOutB Tryd.prog = true := by kernel_rfl
namespace V
theorem cok_top {f : FuncId} {args : List A} {r : A} {W : World} {vals : List Value} (h : COk Tryd.prog f args Mem.nil r) (hg : GlobOk W) (hv : ∀ B, RVl B W (fun b _ => b < W.heap.size) args vals) :
  Calls Tryd.prog f vals.toArray W fun e w' => ∃ v, e = .returned v ∧ Below W.heap.size W w' ∧ ∃ B I', RV B w' I' r v := by
 obtain ⟨-, -, h⟩ := h
 have hm : MR W (fun b _ => b < W.heap.size) (fun _ => undef) (fun b _ => b < W.heap.size) Mem.nil W :=
  ⟨Below.refl _ _, hg, fun _ _ h => h, fun _ _ h => .inl h, fun _ _ h => h, (fun _ _ h => by simp [Mem.nil] at h), (fun _ _ h => by simp [Mem.nil] at h), (fun _ _ _ _ h => by simp [Mem.nil] at h), (fun _ _ h => by simp [Mem.nil] at h)⟩
 refine (h Mem.nil (fun _ _ => rfl) W _ _ _ W vals hm (hv _)).mono ?_
 rintro e w' ⟨v, I', rfl, hb, -, -, hr⟩
 exact ⟨v, rfl, hb, _, _, hr⟩
theorem cok_true {f : FuncId} {args : List A} {W : World} {vals : List Value} (h : COk Tryd.prog f args Mem.nil (.c (.bool true))) (hg : GlobOk W) (hv : ∀ B, RVl B W (fun b _ => b < W.heap.size) args vals) :
  Calls Tryd.prog f vals.toArray W fun e w' => e = .returned (.bool true) ∧ Below W.heap.size W w' := by
 refine (cok_top h hg hv).mono ?_
 rintro e w' ⟨v, rfl, hb, B, I', hr⟩
 have hr : RC w' I' v (.bool true) := hr
 cases hr
 exact ⟨rfl, hb⟩
end V
end Go.Proofs.YtnmfbaahabcocaaDoor
end
section
namespace Go.Proofs.YtnmfbaahabcocaaDoor
namespace C17
structure Prc where
 cls : ByteArray
 name : ByteArray
 params : Int
 regs : Int
 code : List Ins
end C17
namespace V
open Go.RowKit C17
def cIns (x : Ins) : List C := [.int .i64 x.kind, .int .i64 x.dst, .int .i64 x.a, .int .i64 x.b, .int .i64 x.c, .int .i64 x.tt, .int .i64 x.els, .int .i64 x.num, .str x.name, .sl (x.args.map fun z => [C.int .i64 z])]
def cP (p : Prc) : List C := [.str p.cls, .str p.name, .int .i64 p.params, .int .i64 p.regs, .sl (p.code.map cIns)]
end V
end Go.Proofs.YtnmfbaahabcocaaDoor
end
section
namespace Go.Proofs.YtnmfbaahabcocaaDoor
namespace V
open Go.RowKit
theorem cvs_caps {m : Mem} : ∀ caps : List (List C), Cvs m (caps.map A.rptr) (caps.map A.rptr)
 | [] => trivial
 | _ :: l => ⟨cv_refl, cvs_caps l⟩
def idxB {α : Type} (p : α → Bool) : List α → Int
 | [] => -1
 | x :: l => if p x then 0 else if idxB p l = -1 then -1 else idxB p l + 1
theorem idxB_ge {α : Type} (p : α → Bool) : ∀ l : List α, -1 ≤ idxB p l
 | [] => Int.le_refl _
 | x :: l => by have := idxB_ge p l; unfold idxB; split; omega; split <;> omega
theorem idxB_none {α : Type} {p : α → Bool} {l : List α} (h : l.any p = false) : idxB p l = -1 := by
 induction l with
 | nil => rfl
 | cons x l ih =>
  simp only [List.any_cons, Bool.or_eq_false_iff] at h
  unfold idxB
  rw [if_neg (by simp [h.1]), ih h.2]; simp
theorem idxB_at {α : Type} {p : α → Bool} {l : List α} {k : Nat} {x : α} (h : (l.take k).any p = false) (hx : l[k]? = some x) (hp : p x = true) : idxB p l = k := by
 induction l generalizing k with
 | nil => simp at hx
 | cons y l ih =>
  unfold idxB
  cases k with
  | zero => simp at hx; subst hx; simp [hp]
  | succ k =>
   simp only [List.take_succ_cons, List.any_cons, Bool.or_eq_false_iff] at h
   rw [if_neg (by simp [h.1]), ih h.2 (by simpa using hx)]
   rw [if_neg (by omega)]; simp
theorem idxB_first {α : Type} {p : α → Bool} : ∀ {l : List α}, l.any p = true → ∃ k x, l[k]? = some x ∧ p x = true ∧ (l.take k).any p = false ∧ idxB p l = k
 | [], h => by simp at h
 | x :: l, h => by
  by_cases hx : p x = true
  ·exact ⟨0, x, rfl, hx, rfl, by unfold idxB; rw [if_pos hx]; rfl⟩
  ·simp only [List.any_cons, hx, Bool.false_or] at h
   obtain ⟨k, y, h1, h2, h3, -⟩ := idxB_first h
   have h3' : ((x :: l).take (k + 1)).any p = false := by rw [List.take_succ_cons, List.any_cons, h3]; simp [hx]
   exact ⟨k + 1, y, h1, h2, h3', idxB_at h3' h1 h2⟩
theorem idxB_dec {α : Type} (p : α → Bool) (l : List α) : decide ((0 : Int) ≤ idxB p l) = l.any p := by
 cases h : l.any p with
 | false => rw [idxB_none h]; rfl
 | true =>
  obtain ⟨k, x, -, -, -, e⟩ := idxB_first h
  rw [e]; simp
end V
end Go.Proofs.YtnmfbaahabcocaaDoor
end
section
namespace Go.Proofs.YtnmfbaahabcocaaDoor
namespace V
open Go.RowKit
def valA : A → Option A1
 | .agg xs => some (.agg xs)
 | a => a.down
structure HPut (T : Tab) (ops : Array Oper) (o : Oper) (st : St) (t : Nat) (x k v : Operand) (j kt e : Nat) (key y : A1) (ents : List (A1 × A1)) (r : Option (Nat × A1)) : Prop where
 want : wantA ops o st.s = some true
 op : o.op = .mapUpdate t x k v ∨ o.op = .insert t x k v
 dst : o.dst = none
 at_ : ev st.s x = .map j
 obj : st.m j = some (.map ents)
 map : T.map t = some (kt, e)
 keyed : toKey (ev st.s k) = some key
 kty : keyTy T kt key = true
 val : valA (ev st.s v) = some y
 find : findE key ents = some r
section
variable {P : Go.Program} {T : Tab} {w0 w : World} {I0 I : Nat → Nat → Prop} {B : Nat → Value} {m : Mem}
theorem REs.set : ∀ {l : List (A1 × A1)} {es : List MapEntry} (i : Nat) (p : A1 × A1) (e : MapEntry), REs B w I l es → R1 B w I p.1 e.key → R1 B w I p.2 e.val → REs B w I (l.set i p) (es.set i e)
 | [], [], _, _, _, _, _, _ => trivial
 | _ :: _, _ :: _, 0, _, _, h, h1, h2 => ⟨⟨h1, h2⟩, h.2⟩
 | _ :: _, _ :: _, i + 1, p, e, h, h1, h2 => ⟨h.1, REs.set i p e h.2 h1 h2⟩
theorem REs.erase : ∀ {l : List (A1 × A1)} {es : List MapEntry} (i : Nat), REs B w I l es → REs B w I (l.eraseIdx i) (es.eraseIdx i)
 | [], [], _, _ => trivial
 | _ :: _, _ :: _, 0, h => h.2
 | _ :: _, _ :: _, i + 1, h => ⟨h.1, REs.erase i h.2⟩
theorem REs.push : ∀ {l : List (A1 × A1)} {es : List MapEntry} (p : A1 × A1) (e : MapEntry), REs B w I l es → R1 B w I p.1 e.key → R1 B w I p.2 e.val → REs B w I (l ++ [p]) (es ++ [e])
 | [], [], _, _, _, h1, h2 => ⟨⟨h1, h2⟩, trivial⟩
 | _ :: _, _ :: _, p, e, h, h1, h2 => ⟨h.1, REs.push p e h.2 h1 h2⟩
end
variable {P : Go.Program} {T : Tab} (hT : T.Ok P) {kp : Nat → Prop} {ops : Array Oper}
include hT
omit hT in
theorem SR.rewin {R : Ref} {n : Nat} {ds : List Deferred} {st : St} {a : Act} {w : World} (t id : Nat) {ty e lo hi : Nat} {xs : List (List C)} (hr : SR R n ds st a w) (htn : t ≠ DID) (ht : st.s t = .win id e lo hi) (hj : st.m id = some (.mrow ty e xs)) (hh : hi ≤ xs.length) (hkp : ¬ R.keep id) :
  SR R n ds ⟨upd (killS id st.s) t (.own id), upd (killM id st.m) id (some (.mrow ty e ((xs.take hi).drop lo)))⟩ a w := by
 obtain ⟨B, I, hm, hx0, hkp0, hs⟩ := hr.ex
 have hx := hs t
 rw [ht] at hx
 obtain ⟨ad, n0, cap, hB, hlo, hhi, hv⟩ := hx
 obtain ⟨vs, hrow, hvs, hlx, hno⟩ := hm.objs id _ hj
 have hn0 : n0 = xs.length ∧ xs.length ≤ cap := by
  obtain ⟨ad', cp, e5, e6⟩ := hrow.shape
  rw [hB] at e5; cases e5; exact ⟨rfl, e6⟩
 obtain ⟨rfl, hnc⟩ := hn0
 have hvl := hvs.length
 have hfl := flat_len hlx
 have hlen : ((xs.take hi).drop lo).length = hi - lo := by simp; omega
 have hl1 : vs.length = xs.length * e := hrow.1
 have hle1 : hi * e ≤ xs.length * e := Nat.mul_le_mul_right e hh
 have hle2 : lo * e ≤ hi * e := Nat.mul_le_mul_right e hlo
 have hsub : (hi - lo) * e = hi * e - lo * e := Nat.sub_mul ..
 generalize hv' : a.tmps.getD t undef = v' at hv
 have hvl' : ((vs.take (hi * e)).drop (lo * e)).length = (hi - lo) * e := by simp; omega
 have hrow' : rowAt w ty e v' (hi - lo) ((vs.take (hi * e)).drop (lo * e)) := by
  refine ⟨hvl', ?_⟩
  rcases hrow.2 with ⟨e1, e2⟩ | ⟨g, off, c, cur, e1, hg, hnc', hm', hsz, htk⟩
  ·rw [hB] at e1
   simp only [Value.slice.injEq] at e1
   obtain ⟨rfl, -, rfl⟩ := e1
   obtain rfl : hi = 0 := by omega
   obtain rfl : lo = 0 := by omega
   exact .inl ⟨by rw [hv]; rfl, rfl⟩
  ·rw [hB] at e1
   cases e1
   by_cases hcl : cap = lo
   ·subst hcl
    obtain rfl : hi = cap := by omega
    refine .inr ⟨g, off, 0, cur, by rw [hv]; simp, hg, by omega, by omega, by omega, ?_⟩
    rw [Nat.sub_self, Nat.zero_mul, List.take_zero]
    exact (List.eq_nil_of_length_eq_zero (by rw [hvl']; simp)).symm
   ·have hcs : (cap - lo) * e = cap * e - lo * e := Nat.sub_mul ..
    have hle3 : lo * e ≤ cap * e := Nat.mul_le_mul_right e (by omega)
    refine .inr ⟨g, off + lo * e, cap - lo, cur, by rw [hv, if_neg hcl]; simp [Addr.add], hg, by omega, by omega, by omega, ?_⟩
    rw [← htk, List.take_take, Nat.min_eq_left (by omega), List.drop_take, List.drop_drop, ← hsub]
 have hob : v'.ownBlock = (B id).ownBlock ∨ v'.ownBlock = none := by
  rw [hv, hB]
  cases ad with
  | none => right; split <;> rfl
  | some z =>
   left
   split
   ·rfl
   ·obtain ⟨zb, zo, zs⟩ := z
    simp only [Value.ownBlock, Addr.add, Option.map_some]
    split <;> rfl
 have hflat : flat ((xs.take hi).drop lo) = ((flat xs).take (hi * e)).drop (lo * e) := by
  have ft : ∀ (k : Nat) (l : List (List C)), (∀ x ∈ l, x.length = e) → flat (l.take k) = (flat l).take (k * e) := by
   intro k
   induction k with
   | zero => intro l _; simp [flat]
   | succ k ih =>
    intro l hl
    cases l with
    | nil => simp [flat]
    | cons x l =>
     have hx := hl x (by simp)
     have := ih l (fun y hy => hl y (List.mem_cons_of_mem _ hy))
     have hk : (k + 1) * e = e + k * e := by rw [Nat.add_mul]; omega
     simp only [flat, List.take_succ_cons, List.flatten_cons] at this ⊢
     have h1 : x.length ≤ e + k * e := by omega
     have h2 : e + k * e - x.length = k * e := by omega
     rw [this, hk, List.take_append, List.take_of_length_le h1, h2]
  have fd : ∀ (k : Nat) (l : List (List C)), (∀ x ∈ l, x.length = e) → flat (l.drop k) = (flat l).drop (k * e) := by
   intro k
   induction k with
   | zero => intro l _; simp [flat]
   | succ k ih =>
    intro l hl
    cases l with
    | nil => simp [flat]
    | cons x l =>
     have hx := hl x (by simp)
     have := ih l (fun y hy => hl y (List.mem_cons_of_mem _ hy))
     have hk : (k + 1) * e = e + k * e := by rw [Nat.add_mul]; omega
     simp only [flat, List.drop_succ_cons, List.flatten_cons] at this ⊢
     have h1 : x.length ≤ e + k * e := by omega
     have h2 : e + k * e - x.length = k * e := by omega
     rw [this, hk, List.drop_append, List.drop_eq_nil_of_le h1, h2, List.nil_append]
  rw [fd _ _ (fun x hx => hlx x (List.mem_of_mem_take hx)), ft _ _ hlx]
 have hm' := hm.reval (id := id) (o' := .mrow ty e ((xs.take hi).drop lo)) (v' := v') (w' := w) (I' := I) hj rfl rfl rfl (Nat.le_refl _) (fun _ _ _ => rfl)
  (fun k hk => by
   have hk : (upd B id v' id).ownBlock = some k := hk
   rw [upd_same] at hk
   rcases hob with q | q
   ·rw [q] at hk; exact ⟨(hm.low id _ hj k hk).2, .inl hk⟩
   ·rw [q] at hk; cases hk)
  (Ext.refl _ _) (fun b p hp => .inl hp)
  ⟨_, by rw [upd_same, hlen]; exact hrow', by rw [hflat]; exact (hvs.take _).drop _, fun x hx => hlx x (List.mem_of_mem_take (List.mem_of_mem_drop hx)), fun b hb p hp => by
   rw [upd_same] at hb
   rcases hob with q | q
   ·rw [q] at hb; exact hno b hb p hp
   ·rw [q] at hb; cases hb⟩ (fun i hi => by simp [O.ids] at hi)
 have hwf := killW hr.wf hj (o' := .mrow ty e ((xs.take hi).drop lo)) (fun i hi => by simp [O.ids] at hi) t (.own id) (fun i hi => by simp [A.ids] at hi; subst hi; simp [hj])
 refine ⟨⟨_, I, hm', hx0, fun j hj' => ?_, fun t' => ?_⟩, hwf.ids, hr.size, hr.nn, ?_, fun j hj' => ?_⟩
 ·rw [upd_ne _ _ (fun e => by subst e; exact hkp hj')]; exact hkp0 j hj'
 ·by_cases htt : t' = t
  ·subst htt
   show RV _ _ _ (upd _ t' _ t') _
   rw [upd_same, hv']
   obtain ⟨ad', cp', q, -⟩ := hrow'.shape
   exact ⟨(upd_same ..).symm, _, _, _, q⟩
  ·show RV _ _ _ (upd _ t _ t') _
   rw [upd_ne _ _ htt]
   rcases (A.kill_ids (id := id) (a := st.s t')).2 with q | ⟨q, hnn⟩
   ·rw [killS_app, q]; trivial
   ·rw [killS_app, q]
    exact (hs t').mono (Ext.refl _ _) fun j hj => upd_ne _ _ (fun e => hnn (e ▸ hj))
 ·show a.defers = dfs (upd (killS id st.s) t (.own id) DID) ++ ds
  rw [upd_ne _ _ (fun q => htn q.symm), killS_app, dfs_kill]; exact hr.defs
 ·have := hr.kept j hj'
  show (upd (killM id st.m) id _ j).isSome = true
  unfold upd; split
  ·rfl
  ·simpa [killM_app] using this
omit hT in
theorem W.rewin {R : Ref} {n : Nat} {ds : List Deferred} {st : St} {c : Code} {K : Exit → St → Prop} (t id : Nat) {ty e lo hi : Nat} {xs : List (List C)} (htn : t ≠ DID) (ht : st.s t = .win id e lo hi) (hj : st.m id = some (.mrow ty e xs)) (hh : hi ≤ xs.length) (hkp : ¬ R.keep id)
  (h : W P R n ds ⟨upd (killS id st.s) t (.own id), upd (killM id st.m) id (some (.mrow ty e ((xs.take hi).drop lo)))⟩ c K) : W P R n ds st c K :=
 fun a w hr => h a w (hr.rewin t id htn ht hj hh hkp)
end V
end Go.Proofs.YtnmfbaahabcocaaDoor
end
section
namespace Go.Proofs.YtnmfbaahabcocaaDoor
namespace V
open Go.RowKit
def famM (b n : Nat) (f : Nat → O) (m : Mem) : Mem := fun j => if b ≤ j ∧ j < b + n then some (f (j - b)) else m j
theorem fam_at {b n k : Nat} {f : Nat → O} {m : Mem} (h : k < n) : famM b n f m (k + b) = some (f k) := by
 unfold famM
 rw [if_pos ⟨by omega, by omega⟩, Nat.add_sub_cancel]
theorem fam_lo {b n j : Nat} {f : Nat → O} {m : Mem} (h : j < b) : famM b n f m j = m j := by
 unfold famM
 rw [if_neg (by omega)]
def tabR (b n : Nat) : List A1 := (List.range n).map fun i => A1.own (i + b)
theorem tabR_len (b n : Nat) : (tabR b n).length = n := by simp [tabR]
theorem tabR_at {b n k : Nat} (h : k < n) : (tabR b n)[k]? = some (.own (k + b)) := by simp [tabR, h]
theorem tabR_ids {b n j : Nat} : j ∈ (tabR b n).flatMap A1.ids ↔ ∃ i, i < n ∧ j = i + b := by
 simp only [tabR, List.mem_flatMap, List.mem_map, List.mem_range]
 constructor
 ·rintro ⟨a, ⟨i, hi, rfl⟩, hj⟩
  simp [A1.ids] at hj
  exact ⟨i, hi, hj⟩
 ·rintro ⟨i, hi, rfl⟩
  exact ⟨_, ⟨i, hi, rfl⟩, by simp [A1.ids]⟩
theorem tabR_set {b n k : Nat} (hk : k < n) : ((tabR b n).map (A1.kill (k + b))).set k (.own (k + b)) = tabR b n := by
 refine List.ext_getElem? fun i => ?_
 rw [List.getElem?_set]
 split
 ·rename_i e
  subst e
  simp [tabR, hk]
 ·rename_i e
  by_cases hi : i < n
  ·simp only [tabR, List.map_map, List.getElem?_map, List.getElem?_range hi, Option.map_some, Function.comp]
   congr 1
   unfold A1.kill
   rw [if_neg (by simp [A1.ids]; omega)]
  ·simp [tabR, hi]
theorem kill_rowO {id : Nat} {fz : Bool} {e c : Nat} {xs : List (List C)} : O.kill id (rowO fz e c xs) = rowO fz e c xs := by cases fz <;> rfl
theorem mle_fam {b n : Nat} {f : Nat → O} {m : Mem} (h : ∀ i, i < n → m (i + b) = some (f i)) : MLe m (famM b n f Mem.nil) := fun j => by
 unfold famM
 split
 ·rename_i hj
  have := h (j - b) (by omega)
  rw [Nat.sub_add_cancel hj.1] at this
  exact .inr this.symm
 ·exact .inl rfl
theorem mwf_fam {m m' : Mem} {b n : Nat} {f : Nat → O} (h : MWf m m') (hf : ∀ i, i < n → (f i).ids = []) : MWf m (famM b n f m') := fun id o ho j hj => by
 unfold famM at ho
 split at ho
 ·rename_i hi
  cases ho
  rw [hf _ (by omega)] at hj; simp at hj
 ·exact h id o ho j hj
theorem rowO_ids {fz : Bool} {e c : Nat} {xs : List (List C)} : (rowO fz e c xs).ids = [] := by cases fz <;> rfl
section
variable {w0 w : World} {I0 I : Nat → Nat → Prop} {B : Nat → Value} {m : Mem}
theorem MR.newNils (hm : MR w0 I0 B I m w) {b n : Nat} (hid : ∀ i, i < n → m (i + b) = none) (fz : Bool) (ty e : Nat) :
  MR w0 I0 (fun j => if b ≤ j ∧ j < b + n then .slice none 0 0 else B j) I (famM b n (fun _ => rowO fz ty e []) m) w := by
 have hne : ∀ j, (m j).isSome = true → ¬ (b ≤ j ∧ j < b + n) := fun j hj e' => by
  have := hid (j - b) (by omega)
  rw [Nat.sub_add_cancel e'.1] at this
  rw [this] at hj; cases hj
 have hB : ∀ j, (m j).isSome = true → (if b ≤ j ∧ j < b + n then Value.slice none 0 0 else B j) = B j := fun j hj => if_neg (hne j hj)
 have liv : ∀ j, (m j).isSome = true → (famM b n (fun _ => rowO fz ty e []) m j).isSome = true := fun j hj => by unfold famM; rw [if_neg (hne j hj)]; exact hj
 have other : ∀ {j : Nat} {z : O}, famM b n (fun _ => rowO fz ty e []) m j = some z → ((b ≤ j ∧ j < b + n) ∧ z = rowO fz ty e []) ∨ (¬ (b ≤ j ∧ j < b + n) ∧ m j = some z) := fun {j z} hz => by
  unfold famM at hz
  split at hz
  ·rename_i e'; exact .inl ⟨e', (Option.some.inj hz).symm⟩
  ·rename_i e'; exact .inr ⟨e', hz⟩
 have nofoot : ∀ {j k : Nat}, (b ≤ j ∧ j < b + n) → ¬ foot (fun j => if b ≤ j ∧ j < b + n then .slice none 0 0 else B j) j (rowO fz ty e []) k := fun {j k} hj hk => by cases fz <;> simp [rowO, foot, hj, Value.ownBlock] at hk
 have live : ∀ {j : Nat} {z : O}, m j = some z → (m j).isSome = true := fun {j z} hj => by simp [hj]
 refine ⟨hm.below, hm.glob, hm.base, hm.old, hm.there, fun j z hz => ?_, fun j z hz k hk => ?_, fun j z j' z' hz hz' hne' k hk hk' => ?_, fun j z hz i hi => ?_⟩
 ·rcases other hz with ⟨hj, rfl⟩ | ⟨hj, ho⟩
  ·cases fz with
   | true => exact ⟨[], by show w.ownsRow 0 ty e (if b ≤ j ∧ j < b + n then _ else _) _ _; rw [if_pos hj]; exact World.ownsRow_nil w 0 ty e, trivial, fun x hx => by simp at hx, fun q hb => by simp [hj, Value.ownBlock] at hb⟩
   | false => exact ⟨[], by show rowAt w ty e (if b ≤ j ∧ j < b + n then _ else _) _ _; rw [if_pos hj]; exact ⟨by simp, .inl ⟨rfl, rfl⟩⟩, trivial, fun x hx => by simp at hx, fun q hb => by simp [hj, Value.ownBlock] at hb⟩
  ·exact RO.mono (Ext.refl _ _) (hB j (live ho)) (fun i hi => hB i (hm.live j z ho i hi)) (fun _ _ => rfl) (fun _ _ _ hp => hp) (hm.objs j z ho)
 ·rcases other hz with ⟨hj, rfl⟩ | ⟨hj, ho⟩
  ·exact absurd hk (nofoot hj)
  ·exact hm.low j z ho k ((foot_eq (hB j (live ho))).1 hk)
 ·rcases other hz with ⟨hj, rfl⟩ | ⟨hj, ho⟩
  ·exact nofoot hj hk
  ·rcases other hz' with ⟨hj', rfl⟩ | ⟨hj', ho'⟩
   ·exact nofoot hj' hk'
   ·exact hm.apart j z j' z' ho ho' hne' k ((foot_eq (hB j (live ho))).1 hk) ((foot_eq (hB j' (live ho'))).1 hk')
 ·rcases other hz with ⟨hj, rfl⟩ | ⟨hj, ho⟩
  ·rw [rowO_ids] at hi; simp at hi
  ·exact liv i (hm.live j z ho i hi)
theorem mrow_rc {I' : Nat → Nat → Prop} {id : Nat} {ty : TypeId} {e : Nat} {xs : List (List C)} (hI : ∀ b o, I b o → I' b o) (hN : ∀ b, (B id).ownBlock = some b → ∀ o, I' b o) (h : RO B w I id (.mrow ty e xs)) : RC w I' (B id) (.sl xs) := by
 obtain ⟨vs, hrow, hvs, hlx, hnI⟩ := h
 have hvs' : RCs w I' vs (flat xs) := hvs.mono ⟨hI, fun _ _ _ => rfl⟩
 obtain ⟨hl, ho⟩ := hrow
 rcases ho with ⟨ev, hn⟩ | ⟨g, off, cap, cur, ev, hcell, q1, q2, q3, q4⟩
 ·obtain rfl : xs = [] := List.length_eq_zero_iff.1 hn
  rw [ev]
  exact RC.sl (e := 0) (fun _ _ => undef) rfl (Nat.le_refl _) (Nat.zero_le _) (fun x hx => by cases hx) (fun i x hx => by simp at hx) (fun i j x c hx _ => by simp at hx)
 ·have hat : ∀ i j x, xs[i]? = some x → j < e → i * e + j < xs.length * e := fun i j x hx hj => by
   have hi := (List.getElem?_eq_some_iff.1 hx).1
   have : (i + 1) * e ≤ xs.length * e := Nat.mul_le_mul_right _ hi
   rw [Nat.add_mul] at this
   omega
  rw [ev]
  refine RC.sl (e := e) (fun i j => vs.getD (i * e + j) undef) rfl q1 q2 hlx (fun i x hx => ⟨g, off, rfl, fun j hj => ⟨hN g (by rw [ev]; rfl) _, ?_⟩⟩) (fun i j x c hx hc => ?_)
  ·have hlt := hat i j x hx hj
   have hcur : cur[off + (i * e + j)]? = vs[i * e + j]? := by
    rw [← q4, List.getElem?_take, if_pos hlt, List.getElem?_drop, Array.getElem?_toList]
   rw [Nat.add_assoc]
   have hv : vs[i * e + j]? = some (vs.getD (i * e + j) undef) := by
    rw [List.getD_eq_getElem?_getD, List.getElem?_eq_getElem (by omega)]; rfl
   rw [← hv, ← hcur]
   simp [World.cell?, hcell]
  ·have hj : j < e := by rw [← hlx x (List.mem_of_getElem? hx)]; exact (List.getElem?_eq_some_iff.1 hc).1
   have hfl := flat_at hlx i j x hx hj
   rw [hc] at hfl
   obtain ⟨u, hu, hr⟩ := hvs'.at _ _ hfl
   rw [List.getD_eq_getElem?_getD, hu]
   exact hr
theorem MR.tabData (h : MR w0 I0 B I m w) {T b n ty e c : Nat} {L : Nat → List (List C)} (hT : m T = some (.rows ty (tabR b n))) (hL : ∀ i, i < n → m (i + b) = some (.mrow e c (L i))) :
  ∃ I', MR w0 I0 B I' Mem.nil w ∧ Ext w w I I' ∧ RC w I' (B T) (.sl ((List.range n).map fun i => [.sl (L i)])) := by
 have h0 : MR w0 I0 B I Mem.nil w := ⟨h.below, h.glob, h.base, h.old, h.there, fun _ _ h => absurd h (noneSome _), fun _ _ h => absurd h (noneSome _), fun _ _ _ _ h => absurd h (noneSome _), fun _ _ h => absurd h (noneSome _)⟩
 let N : Nat → Nat → Prop := fun q _ => (B T).ownBlock = some q ∨ ∃ i, i < n ∧ (B (i + b)).ownBlock = some q
 have hlow : ∀ q o, N q o → w0.heap.size ≤ q ∧ q < w.heap.size := fun q o hq => by
  rcases hq with hq | ⟨i, hi, hq⟩
  ·exact h.low T _ hT q hq
  ·exact h.low _ _ (hL i hi) q hq
 refine ⟨fun q o => I q o ∨ N q o, ⟨h.below, h.glob, fun q o k => .inl (h.base q o k), fun q o k => k.elim (h.old q o) fun k => .inr (hlow q o k).1, fun q o k => k.elim (h.there q o) fun k => (hlow q o k).2,
  fun _ _ h => absurd h (noneSome _), fun _ _ h => absurd h (noneSome _), fun _ _ _ _ h => absurd h (noneSome _), fun _ _ h => absurd h (noneSome _)⟩, ⟨fun _ _ k => .inl k, fun _ _ _ => rfl⟩, ?_⟩
 have rowsD : ∀ i, i < n → RC w (fun q o => I q o ∨ N q o) (B (i + b)) (.sl (L i)) := fun i hi => mrow_rc (fun _ _ k => .inl k) (fun q hq o => .inr (.inr ⟨i, hi, hq⟩)) (h.objs _ _ (hL i hi))
 obtain ⟨vs, hrow, hvs, h1, hno⟩ := h.objs T _ hT
 rw [tabR_len] at hrow
 obtain ⟨hl, ho⟩ := hrow
 have hvat : ∀ i, i < n → vs[i]? = some (B (i + b)) := fun i hi => by
  obtain ⟨v, hv1, hv2⟩ := hvs.at i _ (tabR_at hi)
  have hv2 : v = B (i + b) := hv2.1
  rw [hv1, hv2]
 rcases ho with ⟨ev, hn⟩ | ⟨g, off, cap, cur, ev, hcell, q1, q2, q3, q4⟩
 ·subst hn
  rw [ev]
  exact RC.sl (e := 0) (fun _ _ => undef) rfl (Nat.le_refl _) (Nat.zero_le _) (fun x hx => by cases hx) (fun i x hx => by simp at hx) (fun i j x c hx _ => by simp at hx)
 ·rw [ev]
  refine RC.sl (e := 1) (fun i _ => B (i + b)) (by simp) q1 q2 (fun x hx => by obtain ⟨i, -, rfl⟩ := List.mem_map.1 hx; rfl) (fun i x hx => ⟨g, off, rfl, fun j hj => ⟨.inr (.inl (by rw [ev]; rfl)), ?_⟩⟩) (fun i j x c hx hc => ?_)
  ·have hi : i < n := by have := (List.getElem?_eq_some_iff.1 hx).1; simpa using this
   obtain rfl : j = 0 := by omega
   have hcur : cur[off + i]? = vs[i]? := by
    rw [← q4, List.getElem?_take, if_pos (by omega), List.getElem?_drop, Array.getElem?_toList]
   rw [← hvat i hi, ← hcur]
   simp [World.cell?, hcell]
  ·have hi : i < n := by have := (List.getElem?_eq_some_iff.1 hx).1; simpa using this
   simp only [List.getElem?_map, List.getElem?_range hi, Option.map_some, Option.some.injEq] at hx
   subst hx
   cases j with
   | zero => simp at hc; subst hc; exact rowsD i hi
   | succ j => simp at hc
end
section
variable {P : Go.Program}
theorem W.famStart {R : Ref} {n : Nat} {ds : List Deferred} {st : St} {c : Code} {K : Exit → St → Prop} (fz : Bool) (T b k ty e ce : Nat) (hT : st.m T = some (.rows ty (List.replicate k .nil))) (hb : T < b) (hid : ∀ i, i < k → st.m (i + b) = none)
  (h : W P R n ds ⟨st.s, upd (famM b k (fun _ => rowO fz e ce []) st.m) T (some (.rows ty (tabR b k)))⟩ c K) : W P R n ds st c K := by
 intro a w hr
 refine h a w ?_
 obtain ⟨⟨B, I, hm, hx0, hkp, hs⟩, h2, h3, hnn, h4, h5⟩ := hr
 have hne : ∀ i, (st.m i).isSome = true → ¬ (b ≤ i ∧ i < b + k) := fun i hi e' => by
  have := hid (i - b) (by omega)
  rw [Nat.sub_add_cancel e'.1] at this
  rw [this] at hi; cases hi
 have hB : ∀ i, (st.m i).isSome = true → (if b ≤ i ∧ i < b + k then Value.slice none 0 0 else B i) = B i := fun i hi => if_neg (hne i hi)
 have hm1 := hm.newNils hid fz e ce
 have hT1 : famM b k (fun _ => rowO fz e ce []) st.m T = some (.rows ty (List.replicate k .nil)) := by rw [fam_lo hb]; exact hT
 obtain ⟨vs, e1, e2, e3, e4⟩ := hm1.objs T _ hT1
 have liv : ∀ i, (st.m i).isSome = true → (upd (famM b k (fun _ => rowO fz e ce []) st.m) T (some (.rows ty (tabR b k))) i).isSome = true := fun i hi => by
  unfold upd; split
  ·rfl
  ·unfold famM; rw [if_neg (hne i hi)]; exact hi
 have hBT : (if b ≤ T ∧ T < b + k then Value.slice none 0 0 else B T) = B T := if_neg (by omega)
 have hm2 : MR R.w0 R.I0 (fun j => if b ≤ j ∧ j < b + k then .slice none 0 0 else B j) I (upd (famM b k (fun _ => rowO fz e ce []) st.m) T (some (.rows ty (tabR b k)))) w := by
  have hR1 : R1s (fun j => if b ≤ j ∧ j < b + k then .slice none 0 0 else B j) w I (tabR b k) vs := by
   have hl := e2.length
   simp at hl
   refine R1s.of (by rw [tabR_len]; exact hl) fun q x v hx hv => ?_
   have hq : q < k := by have := (List.getElem?_eq_some_iff.1 hx).1; rwa [tabR_len] at this
   rw [tabR_at hq] at hx
   cases hx
   obtain ⟨v2, q1, q2⟩ := e2.at q .nil (by simp [hq])
   rw [hv] at q1; cases q1
   have hv' : v = .slice none 0 0 := q2
   refine ⟨?_, none, 0, 0, hv'⟩
   show v = if b ≤ q + b ∧ q + b < b + k then _ else _
   rw [if_pos (by omega)]; exact hv'
  have key : ∀ (j : Nat) (z : O), upd (famM b k (fun _ => rowO fz e ce []) st.m) T (some (.rows ty (tabR b k))) j = some z → (j = T ∧ z = .rows ty (tabR b k)) ∨ (j ≠ T ∧ famM b k (fun _ => rowO fz e ce []) st.m j = some z) := fun j z hz => by
   unfold upd at hz
   split at hz
   ·rename_i e'; exact .inl ⟨e', (Option.some.inj hz).symm⟩
   ·rename_i e'; exact .inr ⟨e', hz⟩
  refine ⟨hm1.below, hm1.glob, hm1.base, hm1.old, hm1.there, fun j z hz => ?_, fun j z hz q hq => ?_, fun j z j' z' hz hz' hne' q hq hq' => ?_, fun j z hz i hi => ?_⟩
  ·rcases key j z hz with ⟨rfl, rfl⟩ | ⟨hj, ho⟩
   ·rw [List.length_replicate] at e1
    exact ⟨vs, by rw [tabR_len]; exact e1, hR1, e3, e4⟩
   ·exact hm1.objs j z ho
  ·rcases key j z hz with ⟨rfl, rfl⟩ | ⟨hj, ho⟩
   ·exact hm1.low j _ hT1 q hq
   ·exact hm1.low j z ho q hq
  ·rcases key j z hz with ⟨rfl, rfl⟩ | ⟨hj, ho⟩
   ·rcases key j' z' hz' with ⟨rfl, -⟩ | ⟨hj', ho'⟩
    ·exact hne' rfl
    ·exact hm1.apart _ _ j' z' hT1 ho' hne' q hq hq'
   ·rcases key j' z' hz' with ⟨rfl, rfl⟩ | ⟨hj', ho'⟩
    ·exact hm1.apart j z _ _ ho hT1 hne' q hq hq'
    ·exact hm1.apart j z j' z' ho ho' hne' q hq hq'
  ·rcases key j z hz with ⟨rfl, rfl⟩ | ⟨hj, ho⟩
   ·obtain ⟨q, hq, rfl⟩ := tabR_ids.1 hi
    rw [upd_ne _ _ (by omega), fam_at hq]; rfl
   ·have := hm1.live j z ho i hi
    unfold upd; split
    ·rfl
    ·exact this
 exact ⟨⟨_, I, hm2, hx0, fun i hi => (hB i (h5 i hi)).trans (hkp i hi), fun t => (hs t).mono (Ext.refl _ _) fun i hi => hB i (h2 t i hi)⟩, fun t i hi => liv i (h2 t i hi), h3, hnn, h4, fun i hi => liv i (h5 i hi)⟩
theorem W.tabData {R : Ref} {n : Nat} {ds : List Deferred} {st : St} {c : Code} {K : Exit → St → Prop} (t T b k : Nat) {ty e ce : Nat} {L : Nat → List (List C)} (s' : Nat → A) (hkeep : R.keep = fun _ => False) (ht : st.s t = .own T) (hT : st.m T = some (.rows ty (tabR b k))) (hL : ∀ i, i < k → st.m (i + b) = some (.mrow e ce (L i)))
  (hs' : ∀ u, s' u = .top ∨ (s' u = st.s u ∧ (st.s u).ids = [])) (hdd : dfs (st.s DID) = []) (htd : t ≠ DID) (h : W P R n ds ⟨upd s' t (.c (.sl ((List.range k).map fun i => [.sl (L i)]))), Mem.nil⟩ c K) : W P R n ds st c K := by
 intro a w hr
 refine h a w ?_
 obtain ⟨⟨B, I, hm, hx0, hkp0, hs⟩, h2, h3, hnn, h4, h5⟩ := hr
 obtain ⟨I', hm', hE, hrc⟩ := hm.tabData hT hL
 have hown : RV B w I (.own T) (a.tmps.getD t undef) := ht ▸ hs t
 have noid : ∀ u, (upd s' t (A.c (.sl ((List.range k).map fun i => [.sl (L i)]))) u).ids = [] := fun u => by
  by_cases hu : u = t
  ·subst hu; rw [upd_same]; rfl
  ·rw [upd_ne _ _ hu]
   rcases hs' u with q | ⟨q, q2⟩
   ·rw [q]; rfl
   ·rw [q]; exact q2
 refine ⟨⟨B, I', hm', hx0.trans hE, fun j hj => hkp0 j hj, fun u => ?_⟩, fun u j hj => by rw [show ((⟨upd s' t (.c (.sl ((List.range k).map fun i => [.sl (L i)]))), Mem.nil⟩ : St).s u).ids = [] from noid u] at hj; simp at hj, h3, hnn, ?_, fun j hj => by rw [hkeep] at hj; exact hj.elim⟩
 ·show RV B w I' (upd s' t _ u) _
  by_cases hu : u = t
  ·subst hu
   rw [upd_same]
   show RC _ _ _ _
   rw [hown.1]; exact hrc
  ·rw [upd_ne _ _ hu]
   rcases hs' u with q | ⟨q, q2⟩
   ·rw [q]; trivial
   ·rw [q]
    exact (hs u).mono hE fun j hj => rfl
 ·show _ = dfs (upd s' t _ DID) ++ ds
  rw [upd_ne _ _ (fun q => htd q.symm)]
  rw [hdd] at h4
  rcases hs' DID with q | ⟨q, -⟩
  ·rw [q]; exact h4
  ·rw [q, hdd]; exact h4
end
end V
end Go.Proofs.YtnmfbaahabcocaaDoor
end
section
namespace Go.Proofs.YtnmfbaahabcocaaDoor
namespace V
open Go.RowKit G
def cE (e : Int × Int) : List C := [.int .i64 e.1, .int .i64 e.2]
def cZ (z : Int) : List C := [.int .i64 z]
def badE (n : Int) (e : Int × Int) : Bool := decide (e.1 < 0) || decide (n ≤ e.1) || decide (e.2 < 0) || decide (n ≤ e.2)
def badI (n : Int) (i : Int) : Bool := decide (i < 0) || decide (n ≤ i)
def chkB (n : Int) (l : List (Int × Int)) : Bool := !(decide (n < 0) || decide (100000 < n) || l.any (badE n))
def errG (b : Bool) : Int := if b = true then 0 else 150
theorem idxEdge_ok (l : List (Int × Int)) (f : FuncId) (caps : List (List C)) (p : (Int × Int) → Bool) (hlen : l.length ≤ 1000000000000) (hk : ∀ x ∈ l, ∀ m, COk Tryd.prog f (.agg (cE x) :: caps.map A.rptr) m (.c (.bool (p x)))) (m : Mem) : COk Tryd.prog 77 [.c (.sl (l.map cE)), .fnR f caps] m (.c (.int .i64 (idxB p l))) := by
 refine (ok_pure tab_ok Tryd.func77 (by kernel_rfl) rfl rfl (by rfl) (by rfl) (by rfl) (fun R hkeep => ?_) m)
 repeat (first | refine W.seq ?_ | refine W.block ?_ | refine W.skip ?_ | refine W.exit ?_ | refine W.region tab_ok 0 (by decide) (exec_run (by simp only [exa, beq_self_eq_true, ByteArray.size, Nat.reduceAdd, Nat.reduceLeDiff, Nat.reduceEqDiff, Nat.reduceMul, Int.reduceToNat, reduceIte, Int.reduceLE, Int.reduceNeg]; rfl)) ?_)
 refine W.loop (ι := Nat) (fun k => ⟨upd (upd (upd (upd (upd (fun _ => .top) 0 (.c (.sl (l.map cE)))) 1 (.fnR f caps)) 4 (.c (.int .i64 0))) 7 (.c (.int .i64 l.length))) 8 (.c (.int .i64 k)), Mem.nil⟩) (fun k => k ≤ l.length ∧ (l.take k).any p = false) (fun k => l.length - k) 0 ?start ⟨Nat.zero_le _, rfl⟩ ?round
 case start =>
  refine le_mk ?sle ?mle ?swf ?mwf ?kept (by rfl)
  case kept => exact kept_not hkeep
  case swf => repeat (first | exact swf_top _ | refine swf_upd ?_ (by simp [A.ids, upd_app]))
  case mwf => repeat (first | exact mwf_nil _ | refine mwf_upd ?_ (by simp [A.ids, O.ids, upd_app]))
  case mle => repeat (first | exact mle_nil _ | exact mle_refl _ | refine mle_upd ?_ (by first | rfl | (simp only [upd_app, killM_app, Nat.reduceEqDiff, reduceIte]; done)))
  case sle => repeat (first | exact sle_top _ | exact sle_refl _ | refine sle_upd ?_ (by first | rfl | (simp only [upd_app, entry_zero, entry_succ, Nat.reduceEqDiff, reduceIte]; done)))
 case round =>
  rintro k ⟨hkl, hno⟩
  repeat (first | refine W.seq ?_ | refine W.block ?_ | refine W.skip ?_ | refine W.exit ?_ | refine W.region tab_ok 0 (by decide) (exec_run (by simp only [exa, beq_self_eq_true, ByteArray.size, Nat.reduceAdd, Nat.reduceLeDiff, Nat.reduceEqDiff, Nat.reduceMul, Int.reduceToNat, reduceIte, Int.reduceLE, Int.reduceNeg]; rfl)) ?_)
  refine W.cond rfl ?_ ?_
  ·intro hlt
   simp only [decide_eq_true_eq, Int.ofNat_lt] at hlt
   obtain ⟨x, hx⟩ : ∃ x, l[k]? = some x := ⟨_, List.getElem?_eq_getElem hlt⟩
   repeat (first | refine W.seq ?_ | refine W.block ?_ | refine W.skip ?_ | refine W.exit ?_ | refine W.region tab_ok 0 (by decide) (exec_run (by simp only [exa, beq_self_eq_true, ByteArray.size, Nat.reduceAdd, Nat.reduceLeDiff, Nat.reduceEqDiff, Nat.reduceMul, Int.reduceToNat, reduceIte, Int.reduceLE, Int.reduceNeg]; rfl)) ?_)
   refine W.regionK tab_ok 0 (by decide) ?_
   refine runk_split 5 (by simp only [exa, beq_self_eq_true, ByteArray.size, Nat.reduceAdd, Nat.reduceLeDiff, Nat.reduceEqDiff, Nat.reduceMul, Int.reduceToNat, reduceIte, Int.reduceLE, Int.reduceNeg, at_map hx, cE]; rfl) ?_
   refine runk_callF rfl rfl rfl rfl rfl (cvs_cons cv_refl (cvs_caps _)) (hk x (List.mem_of_getElem? hx) _) ?_
   refine runk_exec (by simp only [exa, beq_self_eq_true, ByteArray.size, Nat.reduceAdd, Nat.reduceLeDiff, Nat.reduceEqDiff, Nat.reduceMul, Int.reduceToNat, reduceIte, Int.reduceLE, Int.reduceNeg]; rfl) ?_
   refine W.cond rfl ?_ ?_
   ·intro hp
    repeat (first | refine W.seq ?_ | refine W.block ?_ | refine W.skip ?_ | refine W.exit ?_ | refine W.region tab_ok 0 (by decide) (exec_run (by simp only [exa, beq_self_eq_true, ByteArray.size, Nat.reduceAdd, Nat.reduceLeDiff, Nat.reduceEqDiff, Nat.reduceMul, Int.reduceToNat, reduceIte, Int.reduceLE, Int.reduceNeg]; rfl)) ?_)
    refine W.ret ⟨.inr rfl, by rfl, ?_⟩
    simp only [Tryd.f77, resA, resOne, toT, fin, exa, beq_self_eq_true, ByteArray.size, Nat.reduceAdd, Nat.reduceLeDiff, Nat.reduceEqDiff, Nat.reduceMul, Int.reduceToNat, reduceIte, Int.reduceLE, Int.reduceNeg]
    rw [idxB_at hno hx hp]
   ·intro hp
    repeat (first | refine W.seq ?_ | refine W.block ?_ | refine W.skip ?_ | refine W.exit ?_ | refine W.region tab_ok 0 (by decide) (exec_run (by simp only [exa, beq_self_eq_true, ByteArray.size, Nat.reduceAdd, Nat.reduceLeDiff, Nat.reduceEqDiff, Nat.reduceMul, Int.reduceToNat, reduceIte, Int.reduceLE, Int.reduceNeg]; rfl)) ?_)
    refine ⟨k + 1, ⟨hlt, ?_⟩, by omega, ?_⟩
    ·rw [List.take_add_one, hx, List.any_append, hno]; simp [hp]
    refine le_mk ?sle ?mle ?swf ?mwf ?kept (by rfl)
    case kept => exact kept_not hkeep
    case swf => repeat (first | exact swf_top _ | refine swf_upd ?_ (by simp [A.ids, upd_app]))
    case mwf => repeat (first | exact mwf_nil _ | refine mwf_upd ?_ (by simp [A.ids, O.ids, upd_app]))
    case mle => repeat (first | exact mle_nil _ | exact mle_refl _ | refine mle_upd ?_ (by first | rfl | (simp only [upd_app, killM_app, Nat.reduceEqDiff, reduceIte, wrap_succ (show k + 1 < 9223372036854775808 by omega)]; done)))
    case sle => repeat (first | exact sle_top _ | exact sle_refl _ | refine sle_upd ?_ (by first | rfl | (simp only [upd_app, entry_zero, entry_succ, Nat.reduceEqDiff, reduceIte, wrap_succ (show k + 1 < 9223372036854775808 by omega)]; done)))
  ·intro hge
   simp only [decide_eq_false_iff_not, Int.ofNat_lt] at hge
   obtain rfl : k = l.length := by omega
   rw [List.take_length] at hno
   repeat (first | refine W.seq ?_ | refine W.block ?_ | refine W.skip ?_ | refine W.exit ?_ | refine W.region tab_ok 0 (by decide) (exec_run (by simp only [exa, beq_self_eq_true, ByteArray.size, Nat.reduceAdd, Nat.reduceLeDiff, Nat.reduceEqDiff, Nat.reduceMul, Int.reduceToNat, reduceIte, Int.reduceLE, Int.reduceNeg]; rfl)) ?_)
   refine W.ret ⟨.inr rfl, by rfl, ?_⟩
   simp only [Tryd.f77, resA, resOne, toT, fin, exa, beq_self_eq_true, ByteArray.size, Nat.reduceAdd, Nat.reduceLeDiff, Nat.reduceEqDiff, Nat.reduceMul, Int.reduceToNat, reduceIte, Int.reduceLE, Int.reduceNeg]
   rw [idxB_none hno]
theorem anyEdge_ok (l : List (Int × Int)) (f : FuncId) (caps : List (List C)) (p : (Int × Int) → Bool) (hlen : l.length ≤ 1000000000000) (hk : ∀ x ∈ l, ∀ m, COk Tryd.prog f (.agg (cE x) :: caps.map A.rptr) m (.c (.bool (p x)))) (m : Mem) : COk Tryd.prog 65 [.c (.sl (l.map cE)), .fnR f caps] m (.c (.bool (l.any p))) := by
 refine (ok_pure tab_ok Tryd.func65 (by kernel_rfl) rfl rfl (by rfl) (by rfl) (by rfl) (fun R hkeep => ?_) m)
 repeat (first | refine W.seq ?_ | refine W.block ?_ | refine W.skip ?_ | refine W.exit ?_ | refine W.region tab_ok 0 (by decide) (exec_run (by simp only [exa, beq_self_eq_true, ByteArray.size, Nat.reduceAdd, Nat.reduceLeDiff, Nat.reduceEqDiff, Nat.reduceMul, Int.reduceToNat, reduceIte, Int.reduceLE, Int.reduceNeg]; rfl)) ?_)
 refine W.regionK tab_ok 0 (by decide) ?_
 refine runk_split 2 (by simp only [exa, beq_self_eq_true, ByteArray.size, Nat.reduceAdd, Nat.reduceLeDiff, Nat.reduceEqDiff, Nat.reduceMul, Int.reduceToNat, reduceIte, Int.reduceLE, Int.reduceNeg]; rfl) ?_
 refine runk_call rfl rfl rfl rfl rfl (by simp) (cvs_cons cv_refl (cvs_cons cv_refl cvs_nil)) (idxEdge_ok l f caps p hlen hk _) ?_
 refine runk_exec (by simp only [exa, beq_self_eq_true, ByteArray.size, Nat.reduceAdd, Nat.reduceLeDiff, Nat.reduceEqDiff, Nat.reduceMul, Int.reduceToNat, reduceIte, Int.reduceLE, Int.reduceNeg]; rfl) ?_
 repeat (first | refine W.seq ?_ | refine W.block ?_ | refine W.skip ?_ | refine W.exit ?_ | refine W.region tab_ok 0 (by decide) (exec_run (by simp only [exa, beq_self_eq_true, ByteArray.size, Nat.reduceAdd, Nat.reduceLeDiff, Nat.reduceEqDiff, Nat.reduceMul, Int.reduceToNat, reduceIte, Int.reduceLE, Int.reduceNeg]; rfl)) ?_)
 refine W.ret ⟨.inr rfl, by rfl, ?_⟩
 simp only [Tryd.f65, resA, resOne, toT, fin, exa, beq_self_eq_true, ByteArray.size, Nat.reduceAdd, Nat.reduceLeDiff, Nat.reduceEqDiff, Nat.reduceMul, Int.reduceToNat, reduceIte, Int.reduceLE, Int.reduceNeg]
 rw [idxB_dec p l]
theorem idxInt_ok (l : List Int) (f : FuncId) (caps : List (List C)) (p : Int → Bool) (hlen : l.length ≤ 1000000000000) (hk : ∀ x ∈ l, ∀ m, COk Tryd.prog f (.c (.int .i64 x) :: caps.map A.rptr) m (.c (.bool (p x)))) (m : Mem) : COk Tryd.prog 41 [.c (.sl (l.map cZ)), .fnR f caps] m (.c (.int .i64 (idxB p l))) := by
 refine (ok_pure tab_ok Tryd.func41 (by kernel_rfl) rfl rfl (by rfl) (by rfl) (by rfl) (fun R hkeep => ?_) m)
 repeat (first | refine W.seq ?_ | refine W.block ?_ | refine W.skip ?_ | refine W.exit ?_ | refine W.region tab_ok 0 (by decide) (exec_run (by simp only [exa, beq_self_eq_true, ByteArray.size, Nat.reduceAdd, Nat.reduceLeDiff, Nat.reduceEqDiff, Nat.reduceMul, Int.reduceToNat, reduceIte, Int.reduceLE, Int.reduceNeg]; rfl)) ?_)
 refine W.loop (ι := Nat) (fun k => ⟨upd (upd (upd (upd (upd (fun _ => .top) 0 (.c (.sl (l.map cZ)))) 1 (.fnR f caps)) 4 (.c (.int .i64 0))) 7 (.c (.int .i64 l.length))) 8 (.c (.int .i64 k)), Mem.nil⟩) (fun k => k ≤ l.length ∧ (l.take k).any p = false) (fun k => l.length - k) 0 ?start ⟨Nat.zero_le _, rfl⟩ ?round
 case start =>
  refine le_mk ?sle ?mle ?swf ?mwf ?kept (by rfl)
  case kept => exact kept_not hkeep
  case swf => repeat (first | exact swf_top _ | refine swf_upd ?_ (by simp [A.ids, upd_app]))
  case mwf => repeat (first | exact mwf_nil _ | refine mwf_upd ?_ (by simp [A.ids, O.ids, upd_app]))
  case mle => repeat (first | exact mle_nil _ | exact mle_refl _ | refine mle_upd ?_ (by first | rfl | (simp only [upd_app, killM_app, Nat.reduceEqDiff, reduceIte]; done)))
  case sle => repeat (first | exact sle_top _ | exact sle_refl _ | refine sle_upd ?_ (by first | rfl | (simp only [upd_app, entry_zero, entry_succ, Nat.reduceEqDiff, reduceIte]; done)))
 case round =>
  rintro k ⟨hkl, hno⟩
  repeat (first | refine W.seq ?_ | refine W.block ?_ | refine W.skip ?_ | refine W.exit ?_ | refine W.region tab_ok 0 (by decide) (exec_run (by simp only [exa, beq_self_eq_true, ByteArray.size, Nat.reduceAdd, Nat.reduceLeDiff, Nat.reduceEqDiff, Nat.reduceMul, Int.reduceToNat, reduceIte, Int.reduceLE, Int.reduceNeg]; rfl)) ?_)
  refine W.cond rfl ?_ ?_
  ·intro hlt
   simp only [decide_eq_true_eq, Int.ofNat_lt] at hlt
   obtain ⟨x, hx⟩ : ∃ x, l[k]? = some x := ⟨_, List.getElem?_eq_getElem hlt⟩
   repeat (first | refine W.seq ?_ | refine W.block ?_ | refine W.skip ?_ | refine W.exit ?_ | refine W.region tab_ok 0 (by decide) (exec_run (by simp only [exa, beq_self_eq_true, ByteArray.size, Nat.reduceAdd, Nat.reduceLeDiff, Nat.reduceEqDiff, Nat.reduceMul, Int.reduceToNat, reduceIte, Int.reduceLE, Int.reduceNeg]; rfl)) ?_)
   refine W.regionK tab_ok 0 (by decide) ?_
   refine runk_split 5 (by simp only [exa, beq_self_eq_true, ByteArray.size, Nat.reduceAdd, Nat.reduceLeDiff, Nat.reduceEqDiff, Nat.reduceMul, Int.reduceToNat, reduceIte, Int.reduceLE, Int.reduceNeg, at_map hx, cZ]; rfl) ?_
   refine runk_callF rfl rfl rfl rfl rfl (cvs_cons cv_refl (cvs_caps _)) (hk x (List.mem_of_getElem? hx) _) ?_
   refine runk_exec (by simp only [exa, beq_self_eq_true, ByteArray.size, Nat.reduceAdd, Nat.reduceLeDiff, Nat.reduceEqDiff, Nat.reduceMul, Int.reduceToNat, reduceIte, Int.reduceLE, Int.reduceNeg]; rfl) ?_
   refine W.cond rfl ?_ ?_
   ·intro hp
    repeat (first | refine W.seq ?_ | refine W.block ?_ | refine W.skip ?_ | refine W.exit ?_ | refine W.region tab_ok 0 (by decide) (exec_run (by simp only [exa, beq_self_eq_true, ByteArray.size, Nat.reduceAdd, Nat.reduceLeDiff, Nat.reduceEqDiff, Nat.reduceMul, Int.reduceToNat, reduceIte, Int.reduceLE, Int.reduceNeg]; rfl)) ?_)
    refine W.ret ⟨.inr rfl, by rfl, ?_⟩
    simp only [Tryd.f41, resA, resOne, toT, fin, exa, beq_self_eq_true, ByteArray.size, Nat.reduceAdd, Nat.reduceLeDiff, Nat.reduceEqDiff, Nat.reduceMul, Int.reduceToNat, reduceIte, Int.reduceLE, Int.reduceNeg]
    rw [idxB_at hno hx hp]
   ·intro hp
    repeat (first | refine W.seq ?_ | refine W.block ?_ | refine W.skip ?_ | refine W.exit ?_ | refine W.region tab_ok 0 (by decide) (exec_run (by simp only [exa, beq_self_eq_true, ByteArray.size, Nat.reduceAdd, Nat.reduceLeDiff, Nat.reduceEqDiff, Nat.reduceMul, Int.reduceToNat, reduceIte, Int.reduceLE, Int.reduceNeg]; rfl)) ?_)
    refine ⟨k + 1, ⟨hlt, ?_⟩, by omega, ?_⟩
    ·rw [List.take_add_one, hx, List.any_append, hno]; simp [hp]
    refine le_mk ?sle ?mle ?swf ?mwf ?kept (by rfl)
    case kept => exact kept_not hkeep
    case swf => repeat (first | exact swf_top _ | refine swf_upd ?_ (by simp [A.ids, upd_app]))
    case mwf => repeat (first | exact mwf_nil _ | refine mwf_upd ?_ (by simp [A.ids, O.ids, upd_app]))
    case mle => repeat (first | exact mle_nil _ | exact mle_refl _ | refine mle_upd ?_ (by first | rfl | (simp only [upd_app, killM_app, Nat.reduceEqDiff, reduceIte, wrap_succ (show k + 1 < 9223372036854775808 by omega)]; done)))
    case sle => repeat (first | exact sle_top _ | exact sle_refl _ | refine sle_upd ?_ (by first | rfl | (simp only [upd_app, entry_zero, entry_succ, Nat.reduceEqDiff, reduceIte, wrap_succ (show k + 1 < 9223372036854775808 by omega)]; done)))
  ·intro hge
   simp only [decide_eq_false_iff_not, Int.ofNat_lt] at hge
   obtain rfl : k = l.length := by omega
   rw [List.take_length] at hno
   repeat (first | refine W.seq ?_ | refine W.block ?_ | refine W.skip ?_ | refine W.exit ?_ | refine W.region tab_ok 0 (by decide) (exec_run (by simp only [exa, beq_self_eq_true, ByteArray.size, Nat.reduceAdd, Nat.reduceLeDiff, Nat.reduceEqDiff, Nat.reduceMul, Int.reduceToNat, reduceIte, Int.reduceLE, Int.reduceNeg]; rfl)) ?_)
   refine W.ret ⟨.inr rfl, by rfl, ?_⟩
   simp only [Tryd.f41, resA, resOne, toT, fin, exa, beq_self_eq_true, ByteArray.size, Nat.reduceAdd, Nat.reduceLeDiff, Nat.reduceEqDiff, Nat.reduceMul, Int.reduceToNat, reduceIte, Int.reduceLE, Int.reduceNeg]
   rw [idxB_none hno]
theorem anyInt_ok (l : List Int) (f : FuncId) (caps : List (List C)) (p : Int → Bool) (hlen : l.length ≤ 1000000000000) (hk : ∀ x ∈ l, ∀ m, COk Tryd.prog f (.c (.int .i64 x) :: caps.map A.rptr) m (.c (.bool (p x)))) (m : Mem) : COk Tryd.prog 28 [.c (.sl (l.map cZ)), .fnR f caps] m (.c (.bool (l.any p))) := by
 refine (ok_pure tab_ok Tryd.func28 (by kernel_rfl) rfl rfl (by rfl) (by rfl) (by rfl) (fun R hkeep => ?_) m)
 repeat (first | refine W.seq ?_ | refine W.block ?_ | refine W.skip ?_ | refine W.exit ?_ | refine W.region tab_ok 0 (by decide) (exec_run (by simp only [exa, beq_self_eq_true, ByteArray.size, Nat.reduceAdd, Nat.reduceLeDiff, Nat.reduceEqDiff, Nat.reduceMul, Int.reduceToNat, reduceIte, Int.reduceLE, Int.reduceNeg]; rfl)) ?_)
 refine W.regionK tab_ok 0 (by decide) ?_
 refine runk_split 2 (by simp only [exa, beq_self_eq_true, ByteArray.size, Nat.reduceAdd, Nat.reduceLeDiff, Nat.reduceEqDiff, Nat.reduceMul, Int.reduceToNat, reduceIte, Int.reduceLE, Int.reduceNeg]; rfl) ?_
 refine runk_call rfl rfl rfl rfl rfl (by simp) (cvs_cons cv_refl (cvs_cons cv_refl cvs_nil)) (idxInt_ok l f caps p hlen hk _) ?_
 refine runk_exec (by simp only [exa, beq_self_eq_true, ByteArray.size, Nat.reduceAdd, Nat.reduceLeDiff, Nat.reduceEqDiff, Nat.reduceMul, Int.reduceToNat, reduceIte, Int.reduceLE, Int.reduceNeg]; rfl) ?_
 repeat (first | refine W.seq ?_ | refine W.block ?_ | refine W.skip ?_ | refine W.exit ?_ | refine W.region tab_ok 0 (by decide) (exec_run (by simp only [exa, beq_self_eq_true, ByteArray.size, Nat.reduceAdd, Nat.reduceLeDiff, Nat.reduceEqDiff, Nat.reduceMul, Int.reduceToNat, reduceIte, Int.reduceLE, Int.reduceNeg]; rfl)) ?_)
 refine W.ret ⟨.inr rfl, by rfl, ?_⟩
 simp only [Tryd.f28, resA, resOne, toT, fin, exa, beq_self_eq_true, ByteArray.size, Nat.reduceAdd, Nat.reduceLeDiff, Nat.reduceEqDiff, Nat.reduceMul, Int.reduceToNat, reduceIte, Int.reduceLE, Int.reduceNeg]
 rw [idxB_dec p l]
theorem check1_ok (n : Int) (e : Int × Int) (m : Mem) : COk Tryd.prog 66 [.agg (cE e), .rptr [.int .i64 n]] m (.c (.bool (badE n e))) := by
 obtain ⟨a, b⟩ := e
 refine (ok_pure tab_ok Tryd.func66 (by kernel_rfl) rfl rfl (by rfl) (by rfl) (by rfl) (fun R hkeep => ?_) m)
 repeat (first | refine W.seq ?_ | refine W.block ?_ | refine W.skip ?_ | refine W.exit ?_ | refine W.region tab_ok 0 (by decide) (exec_run (by simp only [exa, beq_self_eq_true, ByteArray.size, Nat.reduceAdd, Nat.reduceLeDiff, Nat.reduceEqDiff, Nat.reduceMul, Int.reduceToNat, reduceIte, Int.reduceLE, Int.reduceNeg, cE]; rfl)) ?_)
 by_cases h : b < a
 ·by_cases h1 : b < 0
  ·repeat (first | refine W.seq ?_ | refine W.block ?_ | refine W.skip ?_ | refine W.exit ?_ | refine W.region tab_ok 0 (by decide) (exec_run (by simp only [exa, beq_self_eq_true, ByteArray.size, Nat.reduceAdd, Nat.reduceLeDiff, Nat.reduceEqDiff, Nat.reduceMul, Int.reduceToNat, reduceIte, Int.reduceLE, Int.reduceNeg, h, h1, cE, if_true]; rfl)) ?_)
   refine W.ret ⟨.inr rfl, by rfl, ?_⟩
   simp only [Tryd.f66, resA, resOne, toT, fin, exa, beq_self_eq_true, ByteArray.size, Nat.reduceAdd, Nat.reduceLeDiff, Nat.reduceEqDiff, Nat.reduceMul, Int.reduceToNat, reduceIte, Int.reduceLE, Int.reduceNeg, h1]
   simp [badE, h1]
  ·repeat (first | refine W.seq ?_ | refine W.block ?_ | refine W.skip ?_ | refine W.exit ?_ | refine W.region tab_ok 0 (by decide) (exec_run (by simp only [exa, beq_self_eq_true, ByteArray.size, Nat.reduceAdd, Nat.reduceLeDiff, Nat.reduceEqDiff, Nat.reduceMul, Int.reduceToNat, reduceIte, Int.reduceLE, Int.reduceNeg, h, h1, cE, if_true]; rfl)) ?_)
   refine W.ret ⟨.inr rfl, by rfl, ?_⟩
   simp only [Tryd.f66, resA, resOne, toT, fin, exa, beq_self_eq_true, ByteArray.size, Nat.reduceAdd, Nat.reduceLeDiff, Nat.reduceEqDiff, Nat.reduceMul, Int.reduceToNat, reduceIte, Int.reduceLE, Int.reduceNeg, h1]
   have e1 : decide (a < 0) = false := by simp; omega
   have e2 : decide (b < 0) = false := by simp; omega
   simp only [badE, e1, e2, show ¬ a < b by omega, if_false, Bool.false_or, Bool.or_false]
   by_cases q : n ≤ a
   ·simp [q]
   ·simp [q]; omega
 ·by_cases h1 : a < 0
  ·repeat (first | refine W.seq ?_ | refine W.block ?_ | refine W.skip ?_ | refine W.exit ?_ | refine W.region tab_ok 0 (by decide) (exec_run (by simp only [exa, beq_self_eq_true, ByteArray.size, Nat.reduceAdd, Nat.reduceLeDiff, Nat.reduceEqDiff, Nat.reduceMul, Int.reduceToNat, reduceIte, Int.reduceLE, Int.reduceNeg, h, h1, cE, if_false]; rfl)) ?_)
   refine W.ret ⟨.inr rfl, by rfl, ?_⟩
   simp only [Tryd.f66, resA, resOne, toT, fin, exa, beq_self_eq_true, ByteArray.size, Nat.reduceAdd, Nat.reduceLeDiff, Nat.reduceEqDiff, Nat.reduceMul, Int.reduceToNat, reduceIte, Int.reduceLE, Int.reduceNeg, h1]
   simp [badE, h1]
  ·repeat (first | refine W.seq ?_ | refine W.block ?_ | refine W.skip ?_ | refine W.exit ?_ | refine W.region tab_ok 0 (by decide) (exec_run (by simp only [exa, beq_self_eq_true, ByteArray.size, Nat.reduceAdd, Nat.reduceLeDiff, Nat.reduceEqDiff, Nat.reduceMul, Int.reduceToNat, reduceIte, Int.reduceLE, Int.reduceNeg, h, h1, cE, if_false]; rfl)) ?_)
   refine W.ret ⟨.inr rfl, by rfl, ?_⟩
   simp only [Tryd.f66, resA, resOne, toT, fin, exa, beq_self_eq_true, ByteArray.size, Nat.reduceAdd, Nat.reduceLeDiff, Nat.reduceEqDiff, Nat.reduceMul, Int.reduceToNat, reduceIte, Int.reduceLE, Int.reduceNeg, h1]
   have e1 : decide (a < 0) = false := by simp; omega
   have e2 : decide (b < 0) = false := by simp; omega
   simp only [badE, e1, e2, Bool.false_or, Bool.or_false]
   by_cases q : a < b
   ·rw [if_pos q]
    by_cases q2 : n ≤ b
    ·simp [q2]
    ·simp [q2]; omega
   ·obtain rfl : a = b := by omega
    simp
theorem check_ok (n : Int) (l : List (Int × Int)) (hlen : l.length ≤ 1000000000000) (m : Mem) : COk Tryd.prog 43 [.c (.int .i64 n), .c (.sl (l.map cE))] m (.c (.int .i64 (errG (chkB n l)))) := by
 refine (ok_pure tab_ok Tryd.func43 (by kernel_rfl) rfl rfl (by rfl) (by rfl) (by rfl) (fun R hkeep => ?_) m)
 repeat (first | refine W.seq ?_ | refine W.block ?_ | refine W.skip ?_ | refine W.exit ?_ | refine W.region tab_ok 0 (by decide) (exec_run (by simp only [exa, beq_self_eq_true, ByteArray.size, Nat.reduceAdd, Nat.reduceLeDiff, Nat.reduceEqDiff, Nat.reduceMul, Int.reduceToNat, reduceIte, Int.reduceLE, Int.reduceNeg]; rfl)) ?_)
 by_cases h1 : n < 0
 ·repeat (first | refine W.seq ?_ | refine W.block ?_ | refine W.skip ?_ | refine W.exit ?_ | refine W.region tab_ok 0 (by decide) (exec_run (by simp only [exa, beq_self_eq_true, ByteArray.size, Nat.reduceAdd, Nat.reduceLeDiff, Nat.reduceEqDiff, Nat.reduceMul, Int.reduceToNat, reduceIte, Int.reduceLE, Int.reduceNeg, h1]; rfl)) ?_)
  refine W.cond rfl ?_ ?_
  ·intro _
   repeat (first | refine W.seq ?_ | refine W.block ?_ | refine W.skip ?_ | refine W.exit ?_ | refine W.region tab_ok 0 (by decide) (exec_run (by simp only [exa, beq_self_eq_true, ByteArray.size, Nat.reduceAdd, Nat.reduceLeDiff, Nat.reduceEqDiff, Nat.reduceMul, Int.reduceToNat, reduceIte, Int.reduceLE, Int.reduceNeg]; rfl)) ?_)
   refine W.ret ⟨.inr rfl, by rfl, ?_⟩
   simp only [Tryd.f43, resA, resOne, toT, fin, exa, beq_self_eq_true, ByteArray.size, Nat.reduceAdd, Nat.reduceLeDiff, Nat.reduceEqDiff, Nat.reduceMul, Int.reduceToNat, reduceIte, Int.reduceLE, Int.reduceNeg]
   simp [errG, chkB, h1]
  ·intro h; cases h
 ·by_cases h2 : 100000 < n
  ·repeat (first | refine W.seq ?_ | refine W.block ?_ | refine W.skip ?_ | refine W.exit ?_ | refine W.region tab_ok 0 (by decide) (exec_run (by simp only [exa, beq_self_eq_true, ByteArray.size, Nat.reduceAdd, Nat.reduceLeDiff, Nat.reduceEqDiff, Nat.reduceMul, Int.reduceToNat, reduceIte, Int.reduceLE, Int.reduceNeg, h1, h2]; rfl)) ?_)
   refine W.cond rfl ?_ ?_
   ·intro _
    repeat (first | refine W.seq ?_ | refine W.block ?_ | refine W.skip ?_ | refine W.exit ?_ | refine W.region tab_ok 0 (by decide) (exec_run (by simp only [exa, beq_self_eq_true, ByteArray.size, Nat.reduceAdd, Nat.reduceLeDiff, Nat.reduceEqDiff, Nat.reduceMul, Int.reduceToNat, reduceIte, Int.reduceLE, Int.reduceNeg]; rfl)) ?_)
    refine W.ret ⟨.inr rfl, by rfl, ?_⟩
    simp only [Tryd.f43, resA, resOne, toT, fin, exa, beq_self_eq_true, ByteArray.size, Nat.reduceAdd, Nat.reduceLeDiff, Nat.reduceEqDiff, Nat.reduceMul, Int.reduceToNat, reduceIte, Int.reduceLE, Int.reduceNeg]
    simp [errG, chkB, h2]
   ·intro h; cases h
  ·refine W.regionK tab_ok 0 (by decide) ?_
   refine runk_split 9 (by simp only [exa, beq_self_eq_true, ByteArray.size, Nat.reduceAdd, Nat.reduceLeDiff, Nat.reduceEqDiff, Nat.reduceMul, Int.reduceToNat, reduceIte, Int.reduceLE, Int.reduceNeg, h1, h2]; rfl) ?_
   refine runk_callR rfl rfl rfl rfl rfl (by simp) (cvrs_cons cvr_refl (cvrs_cons (cvr_fn (caps_one rfl rfl)) cvrs_nil)) (by rfl) (by rfl) (anyEdge_ok l 66 [[.int .i64 n]] (badE n) hlen (fun x _ m => check1_ok n x m)) ?_
   refine runk_exec (by simp only [exa, beq_self_eq_true, ByteArray.size, Nat.reduceAdd, Nat.reduceLeDiff, Nat.reduceEqDiff, Nat.reduceMul, Int.reduceToNat, reduceIte, Int.reduceLE, Int.reduceNeg, h1, h2]; rfl) ?_
   refine W.cond rfl ?_ ?_
   ·intro hb
    repeat (first | refine W.seq ?_ | refine W.block ?_ | refine W.skip ?_ | refine W.exit ?_ | refine W.region tab_ok 0 (by decide) (exec_run (by simp only [exa, beq_self_eq_true, ByteArray.size, Nat.reduceAdd, Nat.reduceLeDiff, Nat.reduceEqDiff, Nat.reduceMul, Int.reduceToNat, reduceIte, Int.reduceLE, Int.reduceNeg]; rfl)) ?_)
    refine W.ret ⟨.inr rfl, by rfl, ?_⟩
    simp only [Tryd.f43, resA, resOne, toT, fin, exa, beq_self_eq_true, ByteArray.size, Nat.reduceAdd, Nat.reduceLeDiff, Nat.reduceEqDiff, Nat.reduceMul, Int.reduceToNat, reduceIte, Int.reduceLE, Int.reduceNeg]
    simp [errG, chkB, hb]
   ·intro hb
    repeat (first | refine W.seq ?_ | refine W.block ?_ | refine W.skip ?_ | refine W.exit ?_ | refine W.region tab_ok 0 (by decide) (exec_run (by simp only [exa, beq_self_eq_true, ByteArray.size, Nat.reduceAdd, Nat.reduceLeDiff, Nat.reduceEqDiff, Nat.reduceMul, Int.reduceToNat, reduceIte, Int.reduceLE, Int.reduceNeg]; rfl)) ?_)
    refine W.ret ⟨.inr rfl, by rfl, ?_⟩
    simp only [Tryd.f43, resA, resOne, toT, fin, exa, beq_self_eq_true, ByteArray.size, Nat.reduceAdd, Nat.reduceLeDiff, Nat.reduceEqDiff, Nat.reduceMul, Int.reduceToNat, reduceIte, Int.reduceLE, Int.reduceNeg]
    simp [errG, chkB, hb, h1, h2]
theorem among1_ok (n i : Int) (m : Mem) : COk Tryd.prog 67 [.c (.int .i64 i), .rptr [.int .i64 n]] m (.c (.bool (badI n i))) := by
 refine (ok_pure tab_ok Tryd.func67 (by kernel_rfl) rfl rfl (by rfl) (by rfl) (by rfl) (fun R hkeep => ?_) m)
 by_cases h1 : i < 0
 ·repeat (first | refine W.seq ?_ | refine W.block ?_ | refine W.skip ?_ | refine W.exit ?_ | refine W.region tab_ok 0 (by decide) (exec_run (by simp only [exa, beq_self_eq_true, ByteArray.size, Nat.reduceAdd, Nat.reduceLeDiff, Nat.reduceEqDiff, Nat.reduceMul, Int.reduceToNat, reduceIte, Int.reduceLE, Int.reduceNeg, h1]; rfl)) ?_)
  refine W.ret ⟨.inr rfl, by rfl, ?_⟩
  simp only [Tryd.f67, resA, resOne, toT, fin, exa, beq_self_eq_true, ByteArray.size, Nat.reduceAdd, Nat.reduceLeDiff, Nat.reduceEqDiff, Nat.reduceMul, Int.reduceToNat, reduceIte, Int.reduceLE, Int.reduceNeg]
  simp [badI, h1]
 ·repeat (first | refine W.seq ?_ | refine W.block ?_ | refine W.skip ?_ | refine W.exit ?_ | refine W.region tab_ok 0 (by decide) (exec_run (by simp only [exa, beq_self_eq_true, ByteArray.size, Nat.reduceAdd, Nat.reduceLeDiff, Nat.reduceEqDiff, Nat.reduceMul, Int.reduceToNat, reduceIte, Int.reduceLE, Int.reduceNeg, h1]; rfl)) ?_)
  refine W.ret ⟨.inr rfl, by rfl, ?_⟩
  simp only [Tryd.f67, resA, resOne, toT, fin, exa, beq_self_eq_true, ByteArray.size, Nat.reduceAdd, Nat.reduceLeDiff, Nat.reduceEqDiff, Nat.reduceMul, Int.reduceToNat, reduceIte, Int.reduceLE, Int.reduceNeg]
  simp [badI, h1]
theorem among_ok (n : Int) (l : List Int) (hlen : l.length ≤ 1000000000000) (m : Mem) : COk Tryd.prog 44 [.c (.int .i64 n), .c (.sl (l.map cZ))] m (.c (.bool (!l.any (badI n)))) := by
 refine (ok_pure tab_ok Tryd.func44 (by kernel_rfl) rfl rfl (by rfl) (by rfl) (by rfl) (fun R hkeep => ?_) m)
 repeat (first | refine W.seq ?_ | refine W.block ?_ | refine W.skip ?_ | refine W.exit ?_ | refine W.region tab_ok 0 (by decide) (exec_run (by simp only [exa, beq_self_eq_true, ByteArray.size, Nat.reduceAdd, Nat.reduceLeDiff, Nat.reduceEqDiff, Nat.reduceMul, Int.reduceToNat, reduceIte, Int.reduceLE, Int.reduceNeg]; rfl)) ?_)
 refine W.regionK tab_ok 0 (by decide) ?_
 refine runk_split 2 (by simp only [exa, beq_self_eq_true, ByteArray.size, Nat.reduceAdd, Nat.reduceLeDiff, Nat.reduceEqDiff, Nat.reduceMul, Int.reduceToNat, reduceIte, Int.reduceLE, Int.reduceNeg]; rfl) ?_
 refine runk_callR rfl rfl rfl rfl rfl (by simp) (cvrs_cons cvr_refl (cvrs_cons (cvr_fn (caps_one rfl rfl)) cvrs_nil)) (by rfl) (by rfl) (anyInt_ok l 67 [[.int .i64 n]] (badI n) hlen (fun x _ m => among1_ok n x m)) ?_
 refine runk_exec (by simp only [exa, beq_self_eq_true, ByteArray.size, Nat.reduceAdd, Nat.reduceLeDiff, Nat.reduceEqDiff, Nat.reduceMul, Int.reduceToNat, reduceIte, Int.reduceLE, Int.reduceNeg]; rfl) ?_
 repeat (first | refine W.seq ?_ | refine W.block ?_ | refine W.skip ?_ | refine W.exit ?_ | refine W.region tab_ok 0 (by decide) (exec_run (by simp only [exa, beq_self_eq_true, ByteArray.size, Nat.reduceAdd, Nat.reduceLeDiff, Nat.reduceEqDiff, Nat.reduceMul, Int.reduceToNat, reduceIte, Int.reduceLE, Int.reduceNeg]; rfl)) ?_)
 refine W.ret ⟨.inr rfl, by rfl, ?_⟩
 simp only [Tryd.f44, resA, resOne, toT, fin, exa, beq_self_eq_true, ByteArray.size, Nat.reduceAdd, Nat.reduceLeDiff, Nat.reduceEqDiff, Nat.reduceMul, Int.reduceToNat, reduceIte, Int.reduceLE, Int.reduceNeg]
end V
end Go.Proofs.YtnmfbaahabcocaaDoor
end
section
namespace Go.Proofs.YtnmfbaahabcocaaDoor
namespace V
open Go.RowKit
theorem cellsAt_get {w : World} {b : Nat} : ∀ {cs : List Value} {o : Nat}, cellsAt w b o cs → ∀ (j : Nat) v, cs[j]? = some v → w.cell? ⟨b, o + j, none⟩ = some v
 | [], _, _, j, v, h => by simp at h
 | u :: cs, o, h, 0, v, hv => by simp at hv; subst hv; exact h.1
 | u :: cs, o, h, j + 1, v, hv => by
  have := cellsAt_get h.2 j v (by simpa using hv)
  rwa [show o + (j + 1) = o + 1 + j by omega]
section
variable {w : World} {I : Nat → Nat → Prop}
theorem rsl_rc {α : Type} {f : α → List C} {sz : Nat} {R : List Value → α → Prop} {J : Nat → Prop} {v : Value} {l : List α} (hI : ∀ b o, J b → I b o) (hR : ∀ cs x, x ∈ l → R cs x → cs.length = sz ∧ RCs w I cs (f x)) (h : RSl sz R w J v l) : RC w I v (.sl (l.map f)) := by
 obtain ⟨a, n, cap, rfl, h1, h2, h3, h4⟩ := h
 have hch : ∀ (i : Nat) x, l[i]? = some x → ∃ cs : List Value, ∃ b off, a = some ⟨b, off, none⟩ ∧ J b ∧ cellsAt w b (off + i * sz) cs ∧ cs.length = sz ∧ RCs w I cs (f x) := fun i x hx => by
  obtain ⟨b, off, cs, e1, e2, e3, e4⟩ := h4 i x hx
  obtain ⟨e5, e6⟩ := hR cs x (List.mem_of_getElem? hx) e4
  exact ⟨cs, b, off, e1, e2, e3, e5, e6⟩
 obtain ⟨g, hg⟩ : ∃ g : Nat → List Value, ∀ (i : Nat) x, l[i]? = some x → ∃ b off, a = some ⟨b, off, none⟩ ∧ J b ∧ cellsAt w b (off + i * sz) (g i) ∧ (g i).length = sz ∧ RCs w I (g i) (f x) := by
  have : ∀ i, ∃ g : List Value, ∀ x, l[i]? = some x → ∃ b off, a = some ⟨b, off, none⟩ ∧ J b ∧ cellsAt w b (off + i * sz) g ∧ g.length = sz ∧ RCs w I g (f x) := fun i => by
   cases hx : l[i]? with
   | none => exact ⟨[], fun x h => by cases h⟩
   | some x =>
    obtain ⟨cs, b, off, q⟩ := hch i x hx
    exact ⟨cs, fun y hy => by cases hy; exact ⟨b, off, q⟩⟩
  exact Classical.skolem.1 this
 have el : ∀ (i : Nat) y, (l.map f)[i]? = some y → ∃ x, l[i]? = some x ∧ y = f x := fun i y hy => by
  rw [List.getElem?_map] at hy
  cases hx : l[i]? with
  | none => rw [hx] at hy; cases hy
  | some x => rw [hx] at hy; exact ⟨x, rfl, (Option.some.inj hy).symm⟩
 refine .sl (e := sz) (fun i j => (g i).getD j undef) (by simpa using h1) h2 (by unfold maxLen; unfold maxS at h3; omega) (fun y hy => ?_) (fun i y hy => ?_) (fun i j y c hy hc => ?_)
 ·obtain ⟨i, hi⟩ := List.getElem?_of_mem hy
  obtain ⟨x, hx, rfl⟩ := el i y hi
  obtain ⟨b, off, -, -, -, q1, q2⟩ := hg i x hx
  rw [← q2.length, q1]
 ·obtain ⟨x, hx, rfl⟩ := el i y hy
  obtain ⟨b, off, q1, q2, q3, q4, -⟩ := hg i x hx
  refine ⟨b, off, q1, fun j hj => ⟨hI b _ q2, ?_⟩⟩
  have hj' : j < (g i).length := by omega
  rw [cellsAt_get q3 j _ (List.getElem?_eq_getElem hj')]
  simp [hj']
 ·obtain ⟨x, hx, rfl⟩ := el i y hy
  obtain ⟨b, off, -, -, -, -, q2⟩ := hg i x hx
  obtain ⟨u, h5, h6⟩ := q2.at j c hc
  simp [h5]; exact h6
end
section
variable {H : Type} {enc : TypeId × Value → H} {w : World} {held : Bool}
end
end V
end Go.Proofs.YtnmfbaahabcocaaDoor
end
section
namespace Go.Proofs.YtnmfbaahabcocaaDoor
open C17
section
variable {H : Type} {enc : TypeId × Value → H} {w : World} {held : Bool}
def wfI (z : Int) : Prop := (Lit.int .i64 z).wf = true
def RIns (w : World) (J : Nat → Prop) (cs : List Value) (x : Ins) : Prop :=
 ∃ v, cs = [.int .i64 x.kind, .int .i64 x.dst, .int .i64 x.a, .int .i64 x.b, .int .i64 x.c, .int .i64 x.tt, .int .i64 x.els, .int .i64 x.num, .string x.name, v] ∧
  (wfI x.kind ∧ wfI x.dst ∧ wfI x.a ∧ wfI x.b ∧ wfI x.c ∧ wfI x.tt ∧ wfI x.els ∧ wfI x.num) ∧ x.name.size ≤ maxS ∧ RSl 1 RInt w J v x.args
theorem fieldsIns : (Tryd.prog.underlying 58).map (fun d => match d with | .struct fs => fs.toList.map (fun f => (f.type, f.offset)) | _ => []) = some [(3, 0), (3, 1), (3, 2), (3, 3), (3, 4), (3, 5), (3, 6), (2, 7), (9, 8), (26, 9)] := by kernel_rfl
theorem c_ins : Tryd.prog.cellsOf 58 = 10 := by kernel_rfl
theorem c_i64 : Tryd.prog.cellsOf 2 = 1 := by kernel_rfl
theorem c_str : Tryd.prog.cellsOf 9 = 1 := by kernel_rfl
theorem c_intsP : Tryd.prog.cellsOf 26 = 1 := by kernel_rfl
theorem len10 {l : List Value} (h : l.length = 10) : ∃ v0 v1 v2 v3 v4 v5 v6 v7 v8 v9, l = [v0, v1, v2, v3, v4, v5, v6, v7, v8, v9] := by
 match l, h with
 | [v0, v1, v2, v3, v4, v5, v6, v7, v8, v9], _ => exact ⟨v0, v1, v2, v3, v4, v5, v6, v7, v8, v9, rfl⟩
theorem len5 {l : List Value} (h : l.length = 5) : ∃ v0 v1 v2 v3 v4, l = [v0, v1, v2, v3, v4] := by
 match l, h with
 | [v0, v1, v2, v3, v4], _ => exact ⟨v0, v1, v2, v3, v4, rfl⟩
theorem read_ins {n : Nat} {cs : List Value} {y : DataW H × List MemPlace} (hfit : Fits Tryd.prog 58 y.1) (h : DataW.trod enc Tryd.prog w 0 (fun _ => true) held n 58 cs = some y) : ∃ x : Ins, RIns w (· < w.heap.size) cs x := by
 obtain ⟨hl, m, _, hall⟩ := read_struct fieldsIns (by simp) hfit h
 rw [c_ins] at hl
 obtain ⟨v0, v1, v2, v3, v4, v5, v6, v7, v8, v9, rfl⟩ := len10 hl
 obtain ⟨y0, h0, f0⟩ := hall (3, 0) (by simp)
 obtain ⟨y1, h1, f1⟩ := hall (3, 1) (by simp)
 obtain ⟨y2, h2, f2⟩ := hall (3, 2) (by simp)
 obtain ⟨y3, h3, f3⟩ := hall (3, 3) (by simp)
 obtain ⟨y4, h4, f4⟩ := hall (3, 4) (by simp)
 obtain ⟨y5, h5, f5⟩ := hall (3, 5) (by simp)
 obtain ⟨y6, h6, f6⟩ := hall (3, 6) (by simp)
 obtain ⟨y7, h7, f7⟩ := hall (2, 7) (by simp)
 obtain ⟨y8, h8, f8⟩ := hall (9, 8) (by simp)
 obtain ⟨y9, h9, f9⟩ := hall (26, 9) (by simp)
 rw [cellsOf_one _ c_int _ _ _ rfl] at h0 h1 h2 h3 h4 h5 h6
 rw [cellsOf_one _ c_i64 _ _ _ rfl] at h7
 rw [cellsOf_one _ c_str _ _ _ rfl] at h8
 rw [cellsOf_one _ c_intsP _ _ _ rfl] at h9
 obtain ⟨s0, e0, -, l0⟩ := DataW.trod_int Tryd.underlying3 h0
 obtain ⟨s1, e1, -, l1⟩ := DataW.trod_int Tryd.underlying3 h1
 obtain ⟨s2, e2, -, l2⟩ := DataW.trod_int Tryd.underlying3 h2
 obtain ⟨s3, e3, -, l3⟩ := DataW.trod_int Tryd.underlying3 h3
 obtain ⟨s4, e4, -, l4⟩ := DataW.trod_int Tryd.underlying3 h4
 obtain ⟨s5, e5, -, l5⟩ := DataW.trod_int Tryd.underlying3 h5
 obtain ⟨s6, e6, -, l6⟩ := DataW.trod_int Tryd.underlying3 h6
 obtain ⟨s7, e7, -, l7⟩ := DataW.trod_int Tryd.underlying2 h7
 obtain ⟨s8, e8, g8, -⟩ := DataW.trod_string Tryd.underlying9 h8
 have l8 : s8.size ≤ maxS := fit_string g8 f8
 obtain ⟨v, l, e9, hr⟩ := read_ints f9 h9
 simp only [List.cons.injEq, and_true] at e0 e1 e2 e3 e4 e5 e6 e7 e8 e9
 subst e0 e1 e2 e3 e4 e5 e6 e7 e8 e9
 exact ⟨⟨s0, s1, s2, s3, s4, s5, s6, s7, s8, l⟩, _, rfl, ⟨l0, l1, l2, l3, l4, l5, l6, l7⟩, l8, hr⟩
def RProc (w : World) (J : Nat → Prop) (cs : List Value) (p : Prc) : Prop :=
 ∃ v, cs = [.string p.cls, .string p.name, .int .i64 p.params, .int .i64 p.regs, v] ∧ p.cls.size ≤ maxS ∧ p.name.size ≤ maxS ∧ wfI p.params ∧ wfI p.regs ∧ RSl 10 (RIns w J) w J v p.code
theorem fieldsPrc : (Tryd.prog.underlying 24).map (fun d => match d with | .struct fs => fs.toList.map (fun f => (f.type, f.offset)) | _ => []) = some [(9, 0), (9, 1), (3, 2), (3, 3), (22, 4)] := by kernel_rfl
theorem c_prc : Tryd.prog.cellsOf 24 = 5 := by kernel_rfl
theorem c_inss : Tryd.prog.cellsOf 22 = 1 := by kernel_rfl
theorem read_proc {n : Nat} {cs : List Value} {y : DataW H × List MemPlace} (hfit : Fits Tryd.prog 24 y.1) (h : DataW.trod enc Tryd.prog w 0 (fun _ => true) held n 24 cs = some y) : ∃ p : Prc, RProc w (· < w.heap.size) cs p := by
 obtain ⟨hl, m, _, hall⟩ := read_struct fieldsPrc (by simp) hfit h
 rw [c_prc] at hl
 obtain ⟨v0, v1, v2, v3, v4, rfl⟩ := len5 hl
 obtain ⟨y0, h0, f0⟩ := hall (9, 0) (by simp)
 obtain ⟨y1, h1, f1⟩ := hall (9, 1) (by simp)
 obtain ⟨y2, h2, f2⟩ := hall (3, 2) (by simp)
 obtain ⟨y3, h3, f3⟩ := hall (3, 3) (by simp)
 obtain ⟨y4, h4, f4⟩ := hall (22, 4) (by simp)
 rw [cellsOf_one _ c_str _ _ _ rfl] at h0 h1
 rw [cellsOf_one _ c_int _ _ _ rfl] at h2 h3
 rw [cellsOf_one _ c_inss _ _ _ rfl] at h4
 obtain ⟨s0, e0, g0, -⟩ := DataW.trod_string Tryd.underlying9 h0
 have l0 : s0.size ≤ maxS := fit_string g0 f0
 obtain ⟨s1, e1, g1, -⟩ := DataW.trod_string Tryd.underlying9 h1
 have l1 : s1.size ≤ maxS := fit_string g1 f1
 obtain ⟨s2, e2, -, l2⟩ := DataW.trod_int Tryd.underlying3 h2
 obtain ⟨s3, e3, -, l3⟩ := DataW.trod_int Tryd.underlying3 h3
 obtain ⟨v, l, e4, hr⟩ := read_slice (R := RIns w (· < w.heap.size)) Tryd.underlying22 c_ins (by decide) (of_decide_eq_true (by kernel_rfl)) f4 (fun _ _ _ _ h f => read_ins f h) h4
 simp only [List.cons.injEq, and_true] at e0 e1 e2 e3 e4
 subst e0 e1 e2 e3 e4
 exact ⟨⟨s0, s1, s2, s3, l⟩, _, rfl, l0, l1, l2, l3, hr⟩
def RBool (cs : List Value) (b : Bool) : Prop := cs = [.bool b]
theorem c_bool : Tryd.prog.cellsOf 4 = 1 := by kernel_rfl
theorem read_bools {n : Nat} {cs : List Value} {y : DataW H × List MemPlace} (hfit : Fits Tryd.prog 36 y.1) (h : DataW.trod enc Tryd.prog w 0 (fun _ => true) held n 36 cs = some y) : ∃ v l, cs = [v] ∧ RSl 1 RBool w (· < w.heap.size) v l :=
 read_slice Tryd.underlying36 c_bool (by decide) (of_decide_eq_true (by kernel_rfl)) hfit (fun _ _ _ _ h _ => by
  obtain ⟨b, e, -⟩ := DataW.trod_bool Tryd.underlying4 h
  exact ⟨b, e⟩) h
namespace V
open Go.RowKit
theorem rv_bools {B : Nat → Value} {v : Value} {l : List Bool} (h : RSl 1 RBool w (· < w.heap.size) v l) : RV B w (fun b _ => b < w.heap.size) (.c (.sl (l.map fun b => [C.bool b]))) v :=
 rsl_rc (sz := 1) (fun _ _ h => h) (fun cs x _ hx => by obtain rfl := hx; exact ⟨rfl, .bool, trivial⟩) h
theorem ins_rcs {cs : List Value} {x : Ins} (h : RIns w (· < w.heap.size) cs x) : cs.length = 10 ∧ RCs w (fun b _ => b < w.heap.size) cs (cIns x) := by
 obtain ⟨v, rfl, ⟨h1, h2, h3, h4, h5, h6, h7, h8⟩, h9, hr⟩ := h
 refine ⟨rfl, .int h1, .int h2, .int h3, .int h4, .int h5, .int h6, .int h7, .int h8, .str h9, ?_, trivial⟩
 exact rsl_rc (sz := 1) (fun _ _ h => h) (fun cs x _ hx => by obtain ⟨rfl, hw⟩ := hx; exact ⟨rfl, .int hw, trivial⟩) hr
theorem rv_proc {B : Nat → Value} {cs : List Value} {p : Prc} (h : RProc w (· < w.heap.size) cs p) : RV B w (fun b _ => b < w.heap.size) (.agg (cP p)) (.agg cs.toArray) := by
 obtain ⟨v, rfl, h1, h2, h3, h4, hr⟩ := h
 refine ⟨_, rfl, .str h1, .str h2, .int h3, .int h4, ?_, trivial⟩
 exact rsl_rc (sz := 10) (fun _ _ h => h) (fun cs x _ hx => ins_rcs hx) hr
end V
theorem proc_len {J : Nat → Prop} {cs : List Value} {p : Prc} (h : RProc w J cs p) : p.code.length ≤ 1000000000000000 := by
 obtain ⟨v, -, -, -, -, -, a, n, cap, -, h1, h2, h3, -⟩ := h
 unfold maxS at h3
 omega
end
end Go.Proofs.YtnmfbaahabcocaaDoor
end
section
namespace Go.Proofs.YtnmfbaahabcocaaDoor
open Go.ChangeShapes Go.WideShapes Go.ChangeAt Go.RowKit
open V
theorem gTab : Tryd.prog.globalNamed "math/bits.deBruijn64tab" = some 0 := by kernel_rfl
theorem gTabType : (Tryd.prog.globals[0]?).map (·.type) = some 110 := by kernel_rfl
theorem cellsTab : Tryd.prog.cellsOf 110 = 64 := by kernel_rfl
theorem cellsByte : Tryd.prog.cellsOf 5 = 1 := by kernel_rfl
def tabZ : List Int := Lib.deBruijn64tab.map fun k : Nat => (k : Int)
theorem tabZ_get : ∀ j, j < 64 → tabZ.getD j 0 = ((Lib.deBruijn64tab.getD j 0 : Nat) : Int) := by decide +kernel
theorem table {W : World} (h : laidMetH Tryd.prog Rows.controlPostsRow.laid W) : V.GlobOk W := fun j hj => by
 have h1 : Lib.TabIs Tryd.prog W "math/bits.deBruijn64tab" .u8 tabZ := Lib.tabIs_of_head (rest := []) (zs := tabZ) gTab gTabType Tryd.underlying110 Tryd.underlying5 cellsByte cellsTab h
 have h2 := h1.cell gTab j hj
 rw [tabZ_get j hj] at h2
 exact h2
noncomputable def laidWorld (os : Os) : World :=
 { World.holding Tryd.prog os ⟨#[], #[], []⟩ with heap := (World.holding Tryd.prog os ⟨#[], #[], []⟩).heap.modify 0 fun
   | .cells _ t frozen => .cells (Lib.deBruijn64tab.map fun k : Nat => Value.int .u8 (k : Int)).toArray t frozen
   | o => o }
end Go.Proofs.YtnmfbaahabcocaaDoor
end
section
namespace Go.Proofs.YtnmfbaahabcocaaDoor
namespace V
open Go.RowKit
def encE (p : Int × Int) : List Value := [.int .i64 p.1, .int .i64 p.2]
theorem encE_len (p : Int × Int) : (encE p).length = 2 := rfl
theorem cE_len2 {L : List (Int × Int)} : ∀ x ∈ L.map cE, x.length = 2 := fun x hx => by obtain ⟨z, -, rfl⟩ := List.mem_map.1 hx; rfl
theorem flat_cE : ∀ L : List (Int × Int), flat (L.map cE) = L.flatMap fun p => [C.int .i64 p.1, C.int .i64 p.2]
 | [] => rfl
 | z :: L => by
  have := flat_cE L
  simp only [flat, List.map_cons, List.flatten_cons, cE, List.flatMap_cons] at this ⊢
  rw [this]
def okE (p : Int × Int) : Prop := (Lit.int .i64 p.1).wf = true ∧ (Lit.int .i64 p.2).wf = true
section
variable {w : World} {I : Nat → Nat → Prop}
theorem rcs_edges : ∀ {L : List (Int × Int)} {vs : List Value}, RCs w I vs (L.flatMap fun p => [C.int .i64 p.1, C.int .i64 p.2]) → vs = L.flatMap encE ∧ ∀ p ∈ L, okE p
 | [], [], _ => ⟨rfl, fun z hz => by cases hz⟩
 | [], _ :: _, h => h.elim
 | p :: L, [], h => h.elim
 | p :: L, [v], h => by
  have h := h.2
  exact h.elim
 | p :: L, v :: u :: vs, h => by
  have h0 : RC w I v (.int .i64 p.1) := h.1
  have h1 : RC w I u (.int .i64 p.2) := h.2.1
  have h2 : RCs w I vs (L.flatMap fun p => [C.int .i64 p.1, C.int .i64 p.2]) := h.2.2
  obtain ⟨e, he⟩ := rcs_edges h2
  obtain ⟨e0, w0⟩ := RC.toInt h0
  obtain ⟨e1, w1⟩ := RC.toInt h1
  exact ⟨by rw [e0, e1, e]; rfl, fun q hq => by rcases List.mem_cons.1 hq with rfl | hq; exact ⟨w0, w1⟩; exact he q hq⟩
theorem edges_rcs : ∀ {L : List (Int × Int)}, (∀ p ∈ L, okE p) → RCs w I (L.flatMap encE) (L.flatMap fun p => [C.int .i64 p.1, C.int .i64 p.2])
 | [], _ => trivial
 | p :: L, h => ⟨.int (h p (by simp)).1, .int (h p (by simp)).2, edges_rcs fun q hq => h q (by simp [hq])⟩
end
theorem fm_len (L : List (Int × Int)) : (L.flatMap encE).length = L.length * 2 := by
 induction L with
 | nil => rfl
 | cons p L ih => rw [List.flatMap_cons, List.length_append, ih, encE_len, List.length_cons]; omega
theorem fm_at : ∀ (L : List (Int × Int)) (i j : Nat), j < 2 → (L.flatMap encE)[i * 2 + j]? = (L[i]?).bind fun p => (encE p)[j]?
 | [], i, j, _ => by simp
 | p :: L, 0, j, hj => by
  rw [List.flatMap_cons, List.getElem?_append_left (by rw [encE_len]; omega)]
  simp
 | p :: L, i + 1, j, hj => by
  rw [List.flatMap_cons, List.getElem?_append_right (by rw [encE_len]; omega), encE_len, show (i + 1) * 2 + j - 2 = i * 2 + j by omega, fm_at L i j hj]
  simp
theorem flatK_eq (L : List (Int × Int)) : Sort.flatK encE 2 L.toArray = (L.flatMap encE).toArray := by
 refine Array.ext (by rw [Sort.size_flatK, List.size_toArray, List.size_toArray, fm_len]) fun t h1 h2 => ?_
 have ht : t < L.length * 2 := by simpa using h1
 have hi : t / 2 < L.length := by omega
 have e1 := fm_at L (t / 2) (t % 2) (by omega)
 rw [show t / 2 * 2 + t % 2 = t by omega, List.getElem?_eq_getElem hi, Option.bind_some, List.getElem?_eq_getElem (by rw [fm_len]; exact ht), List.getElem?_eq_getElem (by rw [encE_len]; omega)] at e1
 have e1 := Option.some.inj e1
 have e2 := Sort.get_flatK encE 2 L.toArray t (by simpa using ht)
 rw [getElem!_pos _ t (by simpa using ht)] at e2
 rw [e2, List.getElem_toArray, e1]
 have hi' : t / 2 < L.toArray.size := by simpa using hi
 rw [getElem!_pos L.toArray (t / 2) hi']
 rw [List.getElem_toArray, getElem!_pos (encE L[t / 2]) (t % 2) (by rw [encE_len]; omega)]
theorem sortE_mut {P : Go.Program} {f g : FuncId} {F : List (Int × Int) → List (Int × Int)} (hF : ∀ L, (F L).length = L.length ∧ (∀ p, p ∈ F L → p ∈ L) ∧ F [] = []) (hen : ∀ args w, (callFunc f args).run P w = .ok (.enter f args) w)
  (hS : ∀ (blk off cap : Nat) (L : List (Int × Int)) (w : World), Sort.HoldsK encE 2 w blk off L.toArray → blk < w.heap.size → L.length < 4611686018427387904 →
   Calls P f #[.slice (some ⟨blk, off, none⟩) L.length cap, .func (.func g) #[] #[]] w fun e w' => e = .returned (.tuple #[]) ∧ ∃ n os, w' = sortWorldK encE 2 w blk off n (F L).toArray os)
  (hN : ∀ (p : Option Addr) (cap : Nat) (w : World), Calls P f #[.slice p 0 cap, .func (.func g) #[] #[]] w fun e w' => e = .returned (.tuple #[]) ∧ w' = w)
  (zs : List (Int × Int)) (hlen : zs.length < 4611686018427387904) (M : Mem) (q0 : Nat) {ty : TypeId} (hM : M q0 = some (.mrow ty 2 (zs.map cE))) :
  CallE P f [.own q0, .fn g []] M [] (.tup []) (upd M q0 (some (.mrow ty 2 ((F zs).map cE)))) := by
 have liv : ∀ j, (M j).isSome = true → (upd M q0 (some (O.mrow ty 2 ((F zs).map cE))) j).isSome = true := fun j hj => by
  unfold upd; split
  ·rfl
  ·exact hj
 refine ⟨hen, fun j hj => by simp [A.ids] at hj, liv, fun hw i o ho j hj => ?_, ?_⟩
 ·unfold upd at ho
  split at ho
  ·cases ho; simp [O.ids] at hj
  ·exact liv j (hw i o ho j hj)
 intro w0 I0 B I w vals hm hv
 match vals, hv with
 | [v, u], ⟨h1, h2, _⟩ =>
  obtain ⟨hvB, -⟩ := h1
  subst hvB
  have hu : u = .func (.func g) #[] #[] := h2
  subst hu
  obtain ⟨vs, hrow, hvs, hlx, hno⟩ := hm.objs q0 _ hM
  rw [flat_cE] at hvs
  obtain ⟨rfl, hwf⟩ := rcs_edges hvs
  rw [List.length_map] at hrow
  obtain ⟨hl', hF2, hF0⟩ := hF zs
  have hwf' : ∀ z ∈ F zs, okE z := fun z hz => hwf z (hF2 z hz)
  obtain ⟨-, ho⟩ := hrow
  rcases ho with ⟨e, hn⟩ | ⟨g', off, cap, cur, e, hg, hnc, hmx, hsz, htk⟩
  ·obtain rfl : zs = [] := List.length_eq_zero_iff.1 hn
   show Calls P f #[B q0, _] w _
   rw [e]
   refine (hN none 0 w).mono ?_
   rintro e' w' ⟨rfl, rfl⟩
   refine ⟨_, B, I, rfl, ?_, Ext.refl _ _, fun _ _ _ => rfl, ⟨[], rfl, trivial⟩⟩
   have : upd M q0 (some (O.mrow ty 2 ((F []).map cE))) = M := by
    funext j; unfold upd; split
    ·rename_i q; subst q; rw [hM, hF0]
    ·rfl
   rw [this]; exact hm
  ·have hglt : g' < w.heap.size := (Array.getElem?_eq_some_iff.1 hg).1
   have hcell : ∀ j, j < zs.length * 2 → cur[off + j]? = (zs.flatMap encE)[j]? := fun j hj => by
    rw [← htk, List.getElem?_take, if_pos hj, List.getElem?_drop, Array.getElem?_toList]
   show Calls P f #[B q0, _] w _
   rw [e]
   refine (hS g' off cap zs w (fun j hj => ?_) hglt hlen).mono ?_
   ·have hj : j < zs.length * 2 := by rw [Sort.size_flatK, List.size_toArray] at hj; exact hj
    rw [flatK_eq]
    have hj' : j < (zs.flatMap encE).toArray.size := by rw [List.size_toArray, fm_len]; exact hj
    refine ⟨?_, ?_⟩
    ·simp only [World.cell?, hg]
     rw [hcell j hj, getElem!_pos _ j hj', List.getElem?_eq_getElem (by rw [fm_len]; exact hj)]
     rfl
    ·simp [World.frozen?, hg]
   rintro e' w' ⟨rfl, n, os, rfl⟩
   unfold sortWorldK Sort.putRowK
   rw [flatK_eq]
   obtain ⟨X, hX⟩ : ∃ X, X = ((F zs).flatMap encE).toArray := ⟨_, rfl⟩
   have hXs : X.size = zs.length * 2 := by rw [hX, List.size_toArray, fm_len, hl']
   rw [← hX]
   have h1 : (Sort.putRow id (Sort.ahead w n) g' off X).heap[g']? = some (.cells (Sort.putCells id off X cur) ty (0, 0)) := by
    simp only [Sort.putRow, Sort.mapBlock, Sort.ahead, Array.getElem?_modify, if_true, hg, Option.map_some, Sort.onCells]
   have h2 : ∀ k, k ≠ g' → (Sort.putRow id (Sort.ahead w n) g' off X).heap[k]? = w.heap[k]? := fun k hk => by
    simp only [Sort.putRow, Sort.mapBlock, Sort.ahead, Array.getElem?_modify, if_neg (Ne.symm hk)]
   have hf : foot B q0 (.mrow ty 2 (zs.map cE)) g' := by show (B q0).ownBlock = some g'; rw [e]; rfl
   have hf' : ∀ k, foot B q0 (.mrow ty 2 ((F zs).map cE)) k → k = g' := fun k hk => by
    have hk : (B q0).ownBlock = some k := hk
    rw [e] at hk; cases hk; rfl
   have hIg : ∀ p, ¬ I g' p := fun p => hno g' (by rw [e]; rfl) p
   have hcs : (Sort.putCells id off X cur).size = cur.size := by simp [Sort.putCells]
   have hbig : off + zs.length * 2 ≤ cur.size := by omega
   have hput : ∀ j, j < zs.length * 2 → (Sort.putCells id off X cur)[off + j]? = X[j]? := fun j hj => by
    unfold Sort.putCells
    rw [Array.getElem?_mapIdx, Array.getElem?_eq_getElem (show off + j < cur.size by omega), Option.map_some, if_pos ⟨by omega, by omega⟩, Nat.add_sub_cancel_left, getElem!_pos X j (by omega), Array.getElem?_eq_getElem (show j < X.size by omega)]
    rfl
   obtain ⟨hm1, hE1⟩ := hm.turn (w' := Sort.putRow id (Sort.ahead w n) g' off X) (o' := .mrow ty 2 ((F zs).map cE)) hM hf hf' hIg rfl rfl rfl (by simp [Sort.putRow, Sort.mapBlock, Sort.ahead]) h2 (fun i hi => by simp [O.ids] at hi) (fun _ => by
    refine ⟨(F zs).flatMap encE, ⟨by rw [fm_len, List.length_map], ?_⟩, by rw [flat_cE]; exact edges_rcs hwf', cE_len2, fun b hb p => ?_⟩
    ·refine .inr ⟨g', off, cap, _, by rw [e, List.length_map, hl'], h1, by rw [List.length_map, hl']; exact hnc, hmx, by rw [hcs]; exact hsz, ?_⟩
     refine List.ext_getElem? fun j => ?_
     rw [List.getElem?_take]
     split
     ·rename_i hj
      have hj : j < zs.length * 2 := by rw [List.length_map, hl'] at hj; exact hj
      rw [List.getElem?_drop, Array.getElem?_toList, hput j hj, hX]
      simp
     ·rename_i hj
      rw [List.getElem?_eq_none (by rw [fm_len]; rw [List.length_map] at hj; omega)]
    ·rw [e] at hb
     have : g' = b := by simpa [Value.ownBlock] using hb
     subst this
     exact hIg p)
   have hbl : Below (Sort.putRow id (Sort.ahead w n) g' off X).heap.size (Sort.putRow id (Sort.ahead w n) g' off X) (Sort.grow (Sort.putRow id (Sort.ahead w n) g' off X) os) :=
    ⟨rfl, rfl, rfl, by simp [Sort.grow], fun k hk => by simp only [Sort.grow]; rw [Array.getElem?_append_left hk]⟩
   refine ⟨_, B, I, rfl, hm1.call hbl, hE1.trans ⟨fun _ _ k => k, fun b o k => hbl.cell (p := ⟨b, o, none⟩) (hm1.there b o k)⟩, fun _ _ _ => rfl, ⟨[], rfl, trivial⟩⟩
end V
end Go.Proofs.YtnmfbaahabcocaaDoor
end
section
namespace Go.Proofs.YtnmfbaahabcocaaDoor
namespace V
open Go.RowKit G
theorem ltE (x y : Int × Int) : ltOf cmpE x y = decide (x.1 < y.1 ∨ (x.1 = y.1 ∧ x.2 < y.2)) := by
 unfold ltOf cmpE Lib.compareInt
 by_cases h1 : x.1 < y.1
 ·simp [h1]
 ·by_cases h2 : y.1 < x.1
  ·simp [h1, h2]; omega
  ·have h3 : x.1 = y.1 := by omega
   by_cases h4 : x.2 < y.2
   ·simp [h3, h4]
   ·by_cases h5 : y.2 < x.2 <;> simp [h3, h4, h5]
theorem swoE : Sort.SWO (ltOf cmpE) where
 irrefl x := by rw [ltE]; simp
 trans x y z h1 h2 := by rw [ltE] at *; simp at *; omega
 ntrans x y z h1 h2 := by rw [ltE] at *; simp at *; omega
def sortE (L : List (Int × Int)) : List (Int × Int) := L.mergeSort fun x y => !(ltOf cmpE) y x
theorem sortE_len (L : List (Int × Int)) : (sortE L).length = L.length := List.length_mergeSort L
theorem mem_sortE {L : List (Int × Int)} {p : Int × Int} : p ∈ sortE L ↔ p ∈ L := List.mem_mergeSort
theorem sortE_ok (L : List (Int × Int)) (hlen : L.length < 4611686018427387904) (M : Mem) (id : Nat) {ty : TypeId} (hM : M id = some (.mrow ty 2 (L.map cE))) :
  CallE Tryd.prog 20 [.own id, .fn 21 []] M [] (.tup []) (upd M id (some (.mrow ty 2 ((sortE L).map cE)))) := by
 refine sortE_mut (F := sortE) (fun L => ⟨sortE_len L, fun p hp => mem_sortE.1 hp, by simp [sortE]⟩) (enters_of Tryd.func20 (by kernel_rfl) rfl) (fun blk off cap L w h1 h2 h3 => ?_) (fun p cap w => ?_) L hlen M id hM
 ·have eg : ∀ args w, (callFunc 21 args).run Tryd.prog w = .ok (.enter 21 args) w := enters_of Tryd.func21 (by kernel_rfl) rfl
  exact AnyQ.slices_SortFunc_total Tryd.laysSort20 2 Tryd.isAgg42 Tryd.sizeOf42 encE encE_len (fun x v hv => by simp [encE] at hv; rcases hv with rfl | rfl <;> rfl) cmpE swoE 21 #[] blk off cap L.toArray w eg
   (fun _ _ _ _ x y => cmpE_any x.1 x.2 y.1 y.2 _) h1 h2 (by simpa using h3) (fun x y a b => by
    rw [ltE] at a b
    simp at a b
    exact Prod.ext (by omega) (by omega))
 ·exact AnyF.slices_SortFunc_none { Tryd.laysSort20 with } p cap _ w
end V
end Go.Proofs.YtnmfbaahabcocaaDoor
end
section
namespace Go.Proofs.YtnmfbaahabcocaaDoor
open Go.Shelf Go.RowKit Go.Lib
section
variable {P : Go.Program} {ρ : Ren}
set_option maxHeartbeats 2000000 in
set_option maxRecDepth 100000 in
theorem clone_zero (L : SlLaysE0.n41 P ρ) (i0 : TypeInfo) (z : Value) (size bytes : Nat) (hi : P.info? (ρ.t 23) = some i0) (hz0 : i0.zero = some z) (hz1 : i0.size = size) (hz2 : i0.bytes = bytes) (hzs : z.cells.size = size) (hsz : 0 < size)
  (z23 : ∀ w, (Go.sizeOf (ρ.t 23)).run P w = .ok size w) (p : Addr) (c : Nat) (w : World) :
  Calls P (ρ.f 41) #[.slice (some p) 0 c] w fun e w' => ∃ v', e = .returned v' ∧ w'.ownsRow w.heap.size (ρ.t 23) size v' 0 [] ∧ Below w.heap.size w w' := by
 have mixed := L.mixed; have t4 := L.t4; have a4 := L.a4; have z4 := L.z4; have v4 := L.v4; have t22 := L.t22; have a22 := L.a22; have z22 := L.z22; have v22 := L.v22
 have q22 : ∀ (w : World) (a : Option Addr) (n c n' c' : Nat), (binOp .eql (ρ.t 22) (.slice a n c) (.slice none n' c')).run P w = .ok (.bool a.isNone) w := fun w a n c n' c' => Lib.run_eql_slice_nil w _ _ a n c n' c' L.t22
 have u22 : ∀ w, Sem.run P (underlying (ρ.t 22)) w = .ok (TypeDesc.slice (ρ.t 23)) w := run_underlying t22
 obtain ⟨_, _, FG⟩ := L.f41
 go_enter FG, SlBodyN.n41_ntmps ρ
 go_wp2_with (at_builtin; refine wpList_append_own _ rfl _ _ (ρ.t 22) rfl w.heap.size (ρ.t 23) i0 z size bytes t22 hi hz0 hz1 hz2 hzs hsz _ _ _ rfl (World.ownsRow_made w #[] 0 (Nat.le_refl _) (Nat.zero_le _) (by simp)) p 0 c [] rfl ?qc1 ?qc2 ?qc3 ?qc4 ?qc5 ?qc6 ?_)
 case qc1 => simp
 case qc2 =>
  intro j u hj
  simp at hj
 case qc3 => intro u hu; cases hu
 case qc4 => rw [Nat.zero_add]; exact Nat.zero_le _
 case qc5 => rw [Nat.zero_add, Nat.zero_mul]; exact Nat.zero_le _
 case qc6 => simp
 intro v' w1 hown hgrow hnil
 go_wp2
 go_ret
 exact ⟨v', rfl, by simpa using hown, ((Below.refl _ w).alloc (Nat.le_refl _) _).grown hgrow (by simp) (by intro k hk; simp [Value.ownBlock] at hk; omega)⟩
end
namespace V
section
variable {w0 w w' : World} {I0 I I' : Nat → Nat → Prop} {B : Nat → Value} {M : Mem}
theorem foot_congr {B B' : Nat → Value} {j : Nat} {o : O} {k : Nat} (h : B' j = B j) : foot B' j o k = foot B j o k := by
 cases o <;> simp only [foot, h]
theorem MR.fresh (h : MR w0 I0 B I M w) {id : Nat} (hid : M id = none) {v : Value} {o' : O} (hb : Below w.heap.size w w') (hf : ∀ k, foot (upd B id v) id o' k → w.heap.size ≤ k ∧ k < w'.heap.size) (hE : Ext w w' I I')
  (hI' : ∀ b p, I' b p → I b p ∨ foot (upd B id v) id o' b) (hob : RO (upd B id v) w' I' id o') (hl : o'.ids = []) : MR w0 I0 (upd B id v) I' (upd M id (some o')) w' := by
 have hne : ∀ j, (M j).isSome = true → j ≠ id := fun j hj e => by subst e; rw [hid] at hj; cases hj
 have hB : ∀ j, (M j).isSome = true → upd B id v j = B j := fun j hj => upd_ne _ _ (hne j hj)
 have liv : ∀ j, (M j).isSome = true → (upd M id (some o') j).isSome = true := fun j hj => by rw [upd_ne _ _ (hne j hj)]; exact hj
 have other : ∀ {j : Nat} {z : O}, upd M id (some o') j = some z → (j = id ∧ z = o') ∨ (j ≠ id ∧ M j = some z) := fun {j z} hz => by
  unfold upd at hz
  split at hz
  ·rename_i e; exact .inl ⟨e, (Option.some.inj hz).symm⟩
  ·rename_i e; exact .inr ⟨e, hz⟩
 have hs0 := h.below.size
 refine ⟨h.below.trans ⟨hb.os, hb.tape, hb.output, hb.size, fun b hlt => hb.block b (Nat.lt_of_lt_of_le hlt hs0)⟩, h.glob, fun b o h0 => hE.more _ _ (h.base b o h0), fun b o hi => ?_, fun b o hi => ?_, fun j z hz => ?_, fun j z hz k hk => ?_, fun j z j' z' hz hz' hjj k hk hk' => ?_, fun j z hz i hi => ?_⟩
 ·rcases hI' b o hi with hi | hi
  ·exact h.old b o hi
  ·exact .inr (Nat.le_trans hs0 (hf b hi).1)
 ·rcases hI' b o hi with hi | hi
  ·exact Nat.lt_of_lt_of_le (h.there b o hi) hb.size
  ·exact (hf b hi).2
 ·rcases other hz with ⟨rfl, rfl⟩ | ⟨hj, hz⟩
  ·exact hob
  ·refine RO.mono hE (hB j (by simp [hz])) (fun i hi => hB i (h.live j z hz i hi)) (fun k hk => hb.block k (h.low j z hz k hk).2) (fun k hk p hp => ?_) (h.objs j z hz)
   rcases hI' k p hp with hp | hp
   ·exact hp
   ·exact absurd (hf k hp).1 (Nat.not_le.2 (h.low j z hz k hk).2)
 ·rcases other hz with ⟨rfl, rfl⟩ | ⟨hj, hz⟩
  ·exact ⟨Nat.le_trans hs0 (hf k hk).1, (hf k hk).2⟩
  ·rw [foot_congr (hB j (by simp [hz]))] at hk
   exact ⟨(h.low j z hz k hk).1, Nat.lt_of_lt_of_le (h.low j z hz k hk).2 hb.size⟩
 ·rcases other hz with ⟨e1, e2⟩ | ⟨hj, hy⟩
  ·rcases other hz' with ⟨e3, e4⟩ | ⟨hj', hy'⟩
   ·exact hjj (e1.trans e3.symm)
   ·rw [foot_congr (hB j' (by simp [hy']))] at hk'
    rw [e1, e2] at hk
    exact absurd (hf k hk).1 (Nat.not_le.2 (h.low j' z' hy' k hk').2)
  ·rw [foot_congr (hB j (by simp [hy]))] at hk
   rcases other hz' with ⟨e3, e4⟩ | ⟨hj', hy'⟩
   ·rw [e3, e4] at hk'
    exact absurd (hf k hk').1 (Nat.not_le.2 (h.low j z hy k hk).2)
   ·rw [foot_congr (hB j' (by simp [hy']))] at hk'
    exact h.apart j z j' z' hy hy' hjj k hk hk'
 ·rcases other hz with ⟨rfl, rfl⟩ | ⟨hj, hz⟩
  ·rw [hl] at hi; cases hi
  ·exact liv i (h.live j z hz i hi)
end
section
variable {P : Go.Program} {ρ : Ren}
theorem clone_run (L : SlLaysE0.n41 P ρ) {size bytes : Nat} (hty : ∃ i z, P.info? (ρ.t 23) = some i ∧ i.zero = some z ∧ i.size = size ∧ i.bytes = bytes ∧ z.cells.size = size) (hsz : 0 < size) {w : World} {I : Nat → Nat → Prop} {v : Value} {rows : List (List C)}
  (h : RC w I v (.sl rows)) (hrow : ∀ x ∈ rows, x.length = size) (hbig : rows.length * bytes ≤ 140737488355328) :
  Calls P (ρ.f 41) #[v] w fun e w' => ∃ v' vs, e = .returned v' ∧ w'.ownsRow w.heap.size (ρ.t 23) size v' rows.length vs ∧ RCs w I vs (flat rows) ∧ Below w.heap.size w w' := by
 obtain ⟨i, z, hi, hz, hs, hb, hzs⟩ := hty
 have z23 : ∀ w, (Go.sizeOf (ρ.t 23)).run P w = .ok size w := fun w => by simp [Go.sizeOf, typeInfo, hi, hs]
 obtain ⟨ad, my, cap, news, rfl, h1, h2, h3, h4, h5⟩ := news_of hsz h hrow
 cases h with
 | @sl _ _ _ e' _ f hn hc hmx hln ha hrr =>
  subst hn
  cases ad with
  | none =>
   have hr : rows = [] := by
    cases rows with
    | nil => rfl
    | cons x l => obtain ⟨b, off, e, -⟩ := ha 0 x rfl; cases e
   subst hr
   refine (AnyE.slices_Clone_nil L _ cap w).mono ?_
   rintro e w' ⟨rfl, rfl⟩
   exact ⟨_, [], rfl, ⟨by simp, .inl ⟨rfl, rfl⟩⟩, trivial, Below.refl _ _⟩
  | some p =>
   cases rows with
   | nil =>
    refine (clone_zero L i z size bytes hi hz hs hb hzs hsz z23 p cap w).mono ?_
    rintro e w' ⟨v', rfl, ho, hbl⟩
    exact ⟨v', [], rfl, ho, trivial, hbl⟩
   | cons x l =>
    obtain ⟨b, off, e, -⟩ := ha 0 x rfl
    cases e
    refine (AnyE.slices_Clone L i z size bytes hi hz hs hb hzs hsz z23 b off (x :: l).length cap news w h2 (Nat.le_trans hc hmx) hbig (fun j u hj => ?_) h5).mono ?_
    ·obtain ⟨a, e, hcell⟩ := h3 j u hj
     cases e
     rw [Addr.add_lit] at hcell
     exact hcell
    ·rintro e w' ⟨v', rfl, ho, -, hbl⟩
     exact ⟨v', news, rfl, ho, h4, hbl⟩
theorem clone_mut (L : SlLaysE0.n41 P ρ) {size bytes : Nat} (hty : ∃ i z, P.info? (ρ.t 23) = some i ∧ i.zero = some z ∧ i.size = size ∧ i.bytes = bytes ∧ z.cells.size = size) (hsz : 0 < size) (hen : ∀ args w, (callFunc (ρ.f 41) args).run P w = .ok (.enter (ρ.f 41) args) w)
  (rows : List (List C)) (hrow : ∀ x ∈ rows, x.length = size) (hbig : rows.length * bytes ≤ 140737488355328) (M : Mem) (id : Nat) (hid : M id = none) : CallE P (ρ.f 41) [.c (.sl rows)] M [] (.own id) (upd M id (some (.mrow (ρ.t 23) size rows))) := by
 have hne : ∀ j, (M j).isSome = true → j ≠ id := fun j hj e => by subst e; rw [hid] at hj; cases hj
 have liv : ∀ j, (M j).isSome = true → (upd M id (some (.mrow (ρ.t 23) size rows)) j).isSome = true := fun j hj => by rw [upd_ne _ _ (hne j hj)]; exact hj
 refine ⟨hen, fun j hj => ?_, liv, fun hw i o ho j hj => ?_, ?_⟩
 ·obtain rfl : j = id := by simpa [A.ids] using hj
  rw [upd_same]; rfl
 ·unfold upd at ho
  split at ho
  ·cases ho; simp [O.ids] at hj
  ·exact liv j (hw i o ho j hj)
 ·intro w0 I0 B I w vals hm hv
  match vals, hv with
  | [v], ⟨h1, _⟩ =>
   have h1 : RC w I v (.sl rows) := h1
   refine (clone_run L hty hsz h1 hrow hbig).mono ?_
   rintro e w' ⟨v', vs, rfl, ⟨hl, ho⟩, hvs, hbl⟩
   have hE : Ext w w' I I := ⟨fun _ _ k => k, fun b o k => hbl.cell (p := ⟨b, o, none⟩) (hm.there b o k)⟩
   have hf : ∀ k, v'.ownBlock = some k → w.heap.size ≤ k ∧ k < w'.heap.size := fun k hk => by
    rcases ho with ⟨rfl, -⟩ | ⟨g, cap, cur, rfl, hg, hcell, -⟩
    ·cases hk
    ·obtain rfl : g = k := by simpa [Value.ownBlock] using hk
     exact ⟨hg, (Array.getElem?_eq_some_iff.1 hcell).1⟩
   refine ⟨v', upd B id v', I, rfl, hm.fresh hid hbl (fun k hk => hf k (by have hk : (upd B id v' id).ownBlock = some k := hk; rwa [upd_same] at hk)) hE (fun b p k => .inl k) ⟨vs, ⟨hl, ?_⟩, hvs.mono hE, hrow, fun b hb o => ?_⟩ rfl, hE, fun j hj _ => upd_ne _ _ (hne j hj), (upd_same ..).symm, ?_⟩
   ·rw [upd_same]
    rcases ho with ⟨e, hn⟩ | ⟨g, cap, cur, e, hg, hcell, q1, q2, q3, q4⟩
    ·exact .inl ⟨e, hn⟩
    ·exact .inr ⟨g, 0, cap, cur, e, hcell, q1, q2, by omega, by simpa using q4⟩
   ·rw [upd_same] at hb
    exact fun k => absurd (hm.there _ _ k) (Nat.not_lt.2 (hf b hb).1)
   ·rcases ho with ⟨e, hn⟩ | ⟨g, cap, cur, e, -⟩
    ·exact ⟨none, 0, 0, e⟩
    ·exact ⟨_, _, _, e⟩
end
end V
end Go.Proofs.YtnmfbaahabcocaaDoor
end
section
namespace Go.Proofs.YtnmfbaahabcocaaDoor
namespace V
open Go.RowKit
section
variable {w0 w : World} {I0 I : Nat → Nat → Prop} {B : Nat → Value} {m : Mem}
theorem MR.moreI (h : MR w0 I0 B I m w) {N : Nat → Nat → Prop} (hN : ∀ b o, N b o → w0.heap.size ≤ b ∧ b < w.heap.size ∧ ∀ j z, m j = some z → ¬ foot B j z b) : MR w0 I0 B (fun b o => I b o ∨ N b o) m w :=
 ⟨h.below, h.glob, fun b o k => .inl (h.base b o k), fun b o k => k.elim (h.old b o) fun k => .inr (hN b o k).1, fun b o k => k.elim (h.there b o) fun k => (hN b o k).2.1,
  fun j z hz => RO.mono ⟨fun _ _ k => .inl k, fun _ _ _ => rfl⟩ rfl (fun _ _ => rfl) (fun _ _ => rfl) (fun k hk p hp => hp.elim id fun hp => absurd hk ((hN k p hp).2.2 j z hz)) (h.objs j z hz), h.low, h.apart, h.live⟩
theorem MR.freeze (h : MR w0 I0 B I m w) {id : Nat} {ty : TypeId} {e : Nat} {xs : List (List C)} (hid : m id = some (.mrow ty e xs)) :
  ∃ I', MR w0 I0 (upd B id (.slice none 0 0)) I' (upd (killM id m) id (some (.arr ty e []))) w ∧ Ext w w I I' ∧ RC w I' (B id) (.sl xs) := by
 have hob := h.objs id _ hid
 obtain ⟨vs, hrow, hvs, hlx, hnI⟩ := hob
 have hnew : RO (upd B id (.slice none 0 0)) w I id (.arr ty e []) := ⟨[], ⟨by simp, .inl ⟨upd_same .., rfl⟩⟩, trivial, (fun x hx => by cases hx), (fun b hb o => by rw [upd_same] at hb; cases hb)⟩
 have h1 := h.reval (v' := .slice none 0 0) (o' := .arr ty e []) (w' := w) (I' := I) hid rfl rfl rfl (Nat.le_refl _) (fun _ _ _ => rfl) (fun k hk => by
   have hk : (upd B id (.slice none 0 0) id).ownBlock = some k := hk
   rw [upd_same] at hk; cases hk) (Ext.refl _ _) (fun b p k => .inl k)
  hnew (fun i hi => by simp [O.ids] at hi)
 have h2 := h1.moreI (N := fun b o => (B id).ownBlock = some b) (fun b o hb => by
  have hf : foot B id (.mrow ty e xs) b := hb
  refine ⟨(h.low id _ hid b hf).1, (h.low id _ hid b hf).2, fun j z hz hk => ?_⟩
  unfold upd at hz
  split at hz
  ·rename_i ej
   cases hz
   subst ej
   have hk : (upd B j (.slice none 0 0) j).ownBlock = some b := hk
   rw [upd_same] at hk; cases hk
  ·rename_i ej
   rw [killM_app] at hz
   cases hmj : m j with
   | none => rw [hmj] at hz; cases hz
   | some z0 =>
    rw [hmj] at hz
    cases hz
    exact h.apart j z0 id _ hmj hid ej b ((foot_kill (upd_ne _ _ ej)).1 hk) hf)
 refine ⟨_, h2, ⟨fun _ _ k => .inl k, fun _ _ _ => rfl⟩, ?_⟩
 have hvs' : RCs w (fun b o => I b o ∨ (B id).ownBlock = some b) vs (flat xs) := hvs.mono ⟨fun _ _ k => .inl k, fun _ _ _ => rfl⟩
 obtain ⟨hl, ho⟩ := hrow
 rcases ho with ⟨ev, hn⟩ | ⟨g, off, cap, cur, ev, hcell, q1, q2, q3, q4⟩
 ·obtain rfl : xs = [] := List.length_eq_zero_iff.1 hn
  rw [ev]
  exact RC.sl (e := 0) (fun _ _ => undef) rfl (Nat.le_refl _) (Nat.zero_le _) (fun x hx => by cases hx) (fun i x hx => by simp at hx) (fun i j x c hx _ => by simp at hx)
 ·have hat : ∀ i j x, xs[i]? = some x → j < e → i * e + j < xs.length * e := fun i j x hx hj => by
   have hi := (List.getElem?_eq_some_iff.1 hx).1
   have : (i + 1) * e ≤ xs.length * e := Nat.mul_le_mul_right _ hi
   rw [Nat.add_mul] at this
   omega
  rw [ev] at hvs' ⊢
  refine RC.sl (e := e) (fun i j => vs.getD (i * e + j) undef) rfl q1 q2 hlx (fun i x hx => ⟨g, off, rfl, fun j hj => ⟨.inr rfl, ?_⟩⟩) (fun i j x c hx hc => ?_)
  ·have hlt := hat i j x hx hj
   have hcur : cur[off + (i * e + j)]? = vs[i * e + j]? := by
    rw [← q4, List.getElem?_take, if_pos hlt, List.getElem?_drop, Array.getElem?_toList]
   rw [Nat.add_assoc]
   have hv : vs[i * e + j]? = some (vs.getD (i * e + j) undef) := by
    rw [List.getD_eq_getElem?_getD, List.getElem?_eq_getElem (by omega)]; rfl
   rw [← hv, ← hcur]
   simp [World.cell?, hcell]
  ·have hj : j < e := by rw [← hlx x (List.mem_of_getElem? hx)]; exact (List.getElem?_eq_some_iff.1 hc).1
   have hfl := flat_at hlx i j x hx hj
   rw [hc] at hfl
   obtain ⟨u, hu, hr⟩ := hvs'.at _ _ hfl
   rw [List.getD_eq_getElem?_getD, hu]
   exact hr
end
section
variable {P : Go.Program}
theorem W.freeze {R : Ref} {n : Nat} {ds : List Deferred} {st : St} {c : Code} {K : Exit → St → Prop} (t id : Nat) {ty : TypeId} {e : Nat} {xs : List (List C)} (ht : st.s t = .own id) (hid : st.m id = some (.mrow ty e xs)) (hkp : ¬ R.keep id)
  (h : W P R n ds ⟨upd (killS id st.s) t (.c (.sl xs)), upd (killM id st.m) id (some (.arr ty e []))⟩ c K) : W P R n ds st c K := by
 intro a w hr
 refine h a w ?_
 obtain ⟨⟨B, I, hm, hx0, hkp0, hs⟩, h2, h3, hnn, h4, h5⟩ := hr
 obtain ⟨I', hm', hE, hrc⟩ := hm.freeze hid
 have hBne : ∀ j, j ≠ id → upd B id (.slice none 0 0) j = B j := fun j hj => upd_ne _ _ hj
 have liv : ∀ i, (st.m i).isSome = true → (upd (killM id st.m) id (some (.arr ty e [])) i).isSome = true := fun i hi => by
  unfold upd; split
  ·rfl
  ·rw [killM_app]; simpa using hi
 have hown : RV B w I (.own id) (a.tmps.getD t undef) := ht ▸ hs t
 have hval : a.tmps.getD t undef = B id := hown.1
 refine ⟨⟨_, I', hm', hx0.trans hE, fun j hj => (hBne j (fun e => hkp (e ▸ hj))).trans (hkp0 j hj), fun u => ?_⟩, fun u j hj => ?_, h3, hnn, ?_, fun i hi => liv i (h5 i hi)⟩
 ·show RV _ w I' (upd (killS id st.s) t (.c (.sl xs)) u) _
  by_cases hu : u = t
  ·subst hu
   rw [upd_same, hval]
   exact hrc
  ·rw [upd_ne _ _ hu, killS_app]
   rcases (A.kill_ids (id := id) (a := st.s u)).2 with k | ⟨k, hn⟩
   ·rw [k]; trivial
   ·rw [k]
    exact (hs u).mono hE fun i hi => hBne i (fun e => hn (e ▸ hi))
 ·have hj : j ∈ (upd (killS id st.s) t (.c (.sl xs)) u).ids := hj
  by_cases hu : u = t
  ·subst hu; rw [upd_same] at hj; simp [A.ids] at hj
  ·rw [upd_ne _ _ hu, killS_app] at hj
   exact liv j (h2 u j ((A.kill_ids (id := id) (a := st.s u)).1 j hj).1)
 ·show _ = dfs (upd (killS id st.s) t (.c (.sl xs)) DID) ++ ds
  by_cases e : DID = t
  ·rw [← e, upd_same]
   rw [← e] at ht
   rw [ht] at h4
   exact h4
  ·rw [upd_ne _ _ e, killS_app, dfs_kill]
   exact h4
end
end V
end Go.Proofs.YtnmfbaahabcocaaDoor
end
section
namespace Go.Proofs.YtnmfbaahabcocaaDoor
namespace V
open Go.RowKit G
theorem sameInts_ok (a b : List Int) (ha : a.length ≤ 1000000000000) (m : Mem) : COk Tryd.prog 9 [.c (.sl (a.map cZ)), .c (.sl (b.map cZ))] m (.c (.bool (decide (a = b)))) := by
 refine (ok_pure tab_ok Tryd.func9 (by kernel_rfl) rfl rfl (by rfl) (by rfl) (by rfl) (fun R hkeep => ?_) m)
 by_cases hne : a.length = b.length
 ·repeat (first | refine W.seq ?_ | refine W.block ?_ | refine W.skip ?_ | refine W.exit ?_ | refine W.region tab_ok 0 (by decide) (exec_run (by simp only [exa, beq_self_eq_true, ByteArray.size, Nat.reduceAdd, Nat.reduceLeDiff, Nat.reduceEqDiff, Nat.reduceMul, Int.reduceToNat, reduceIte, Int.reduceLE, Int.reduceNeg, hne]; rfl)) ?_)
  refine W.cond rfl ?_ ?_
  ·intro h; simp at h
  ·intro _
   repeat (first | refine W.seq ?_ | refine W.block ?_ | refine W.skip ?_ | refine W.exit ?_ | refine W.region tab_ok 0 (by decide) (exec_run (by simp only [exa, beq_self_eq_true, ByteArray.size, Nat.reduceAdd, Nat.reduceLeDiff, Nat.reduceEqDiff, Nat.reduceMul, Int.reduceToNat, reduceIte, Int.reduceLE, Int.reduceNeg, hne]; rfl)) ?_)
   refine W.loop (ι := Nat) (fun k => ⟨upd (upd (upd (upd (upd (fun _ => .top) 0 (.c (.sl (a.map cZ)))) 1 (.c (.sl (b.map cZ)))) 4 (.c (.bool false))) 12 (.c (.int .i64 b.length))) 13 (.c (.int .i64 k)), Mem.nil⟩) (fun k => k ≤ b.length ∧ a.take k = b.take k) (fun k => b.length - k) 0 ?start ⟨Nat.zero_le _, rfl⟩ ?round
   case start =>
    refine le_mk ?sle ?mle ?swf ?mwf ?kept (by rfl)
    case kept => exact kept_not hkeep
    case swf => repeat (first | exact swf_top _ | refine swf_upd ?_ (by simp [A.ids, upd_app]))
    case mwf => repeat (first | exact mwf_nil _ | refine mwf_upd ?_ (by simp [A.ids, O.ids, upd_app]))
    case mle => repeat (first | exact mle_nil _ | exact mle_refl _ | refine mle_upd ?_ (by first | rfl | (simp only [upd_app, killM_app, Nat.reduceEqDiff, reduceIte]; done)))
    case sle => repeat (first | exact sle_top _ | exact sle_refl _ | refine sle_upd ?_ (by first | rfl | (simp only [upd_app, entry_zero, entry_succ, Nat.reduceEqDiff, reduceIte]; done)))
   case round =>
    rintro k ⟨hkl, hin⟩
    repeat (first | refine W.seq ?_ | refine W.block ?_ | refine W.skip ?_ | refine W.exit ?_ | refine W.region tab_ok 0 (by decide) (exec_run (by simp only [exa, beq_self_eq_true, ByteArray.size, Nat.reduceAdd, Nat.reduceLeDiff, Nat.reduceEqDiff, Nat.reduceMul, Int.reduceToNat, reduceIte, Int.reduceLE, Int.reduceNeg]; rfl)) ?_)
    refine W.cond rfl ?_ ?_
    ·intro hlt
     simp only [decide_eq_true_eq, Int.ofNat_lt] at hlt
     obtain ⟨x, hx⟩ : ∃ x, a[k]? = some x := ⟨_, List.getElem?_eq_getElem (by omega)⟩
     obtain ⟨y, hy⟩ : ∃ y, b[k]? = some y := ⟨_, List.getElem?_eq_getElem (by omega)⟩
     repeat (first | refine W.seq ?_ | refine W.block ?_ | refine W.skip ?_ | refine W.exit ?_ | refine W.region tab_ok 0 (by decide) (exec_run (by simp only [exa, beq_self_eq_true, ByteArray.size, Nat.reduceAdd, Nat.reduceLeDiff, Nat.reduceEqDiff, Nat.reduceMul, Int.reduceToNat, reduceIte, Int.reduceLE, Int.reduceNeg]; rfl)) ?_)
     refine W.regionDK tab_ok 0 follows_mixed (by kernel_rfl) (by decide) ?_
     refine runk_exec (by simp only [exa, beq_self_eq_true, ByteArray.size, Nat.reduceAdd, Nat.reduceLeDiff, Nat.reduceEqDiff, Nat.reduceMul, Int.reduceToNat, reduceIte, Int.reduceLE, Int.reduceNeg, at_map hx, at_map hy, cZ]; rfl) ?_
     refine W.cond rfl ?_ ?_
     ·intro hp
      repeat (first | refine W.seq ?_ | refine W.block ?_ | refine W.skip ?_ | refine W.exit ?_ | refine W.region tab_ok 0 (by decide) (exec_run (by simp only [exa, beq_self_eq_true, ByteArray.size, Nat.reduceAdd, Nat.reduceLeDiff, Nat.reduceEqDiff, Nat.reduceMul, Int.reduceToNat, reduceIte, Int.reduceLE, Int.reduceNeg]; rfl)) ?_)
      refine W.ret ⟨.inr rfl, by rfl, ?_⟩
      simp only [Tryd.f9, resA, resOne, toT, fin, exa, beq_self_eq_true, ByteArray.size, Nat.reduceAdd, Nat.reduceLeDiff, Nat.reduceEqDiff, Nat.reduceMul, Int.reduceToNat, reduceIte, Int.reduceLE, Int.reduceNeg]
      have hxy : x ≠ y := (by simpa [cZ] using hp)
      have : a ≠ b := fun e => by subst e; rw [hx] at hy; exact hxy (Option.some.inj hy)
      simp [this]
     ·intro hp
      repeat (first | refine W.seq ?_ | refine W.block ?_ | refine W.skip ?_ | refine W.exit ?_ | refine W.region tab_ok 0 (by decide) (exec_run (by simp only [exa, beq_self_eq_true, ByteArray.size, Nat.reduceAdd, Nat.reduceLeDiff, Nat.reduceEqDiff, Nat.reduceMul, Int.reduceToNat, reduceIte, Int.reduceLE, Int.reduceNeg]; rfl)) ?_)
      refine ⟨k + 1, ⟨hlt, ?_⟩, by omega, ?_⟩
      ·have hxy : x = y := Decidable.byContradiction fun q => by
        have : x ≠ y := q
        simp [cZ, this] at hp
        try (obtain ⟨x1, x2⟩ := x; obtain ⟨y1, y2⟩ := y; simp at hp; simp [hp] at this)
       rw [List.take_add_one, List.take_add_one, hx, hy, hin, hxy]
      refine le_mk ?sle ?mle ?swf ?mwf ?kept (by rfl)
      case kept => exact kept_not hkeep
      case swf => repeat (first | exact swf_top _ | refine swf_upd ?_ (by simp [A.ids, upd_app]))
      case mwf => repeat (first | exact mwf_nil _ | refine mwf_upd ?_ (by simp [A.ids, O.ids, upd_app]))
      case mle => repeat (first | exact mle_nil _ | exact mle_refl _ | refine mle_upd ?_ (by first | rfl | (simp only [upd_app, killM_app, Nat.reduceEqDiff, reduceIte, wrap_succ (show k + 1 < 9223372036854775808 by omega)]; done)))
      case sle => repeat (first | exact sle_top _ | exact sle_refl _ | refine sle_upd ?_ (by first | rfl | (simp only [upd_app, entry_zero, entry_succ, Nat.reduceEqDiff, reduceIte, wrap_succ (show k + 1 < 9223372036854775808 by omega)]; done)))
    ·intro hge
     simp only [decide_eq_false_iff_not, Int.ofNat_lt] at hge
     obtain rfl : k = b.length := by omega
     rw [List.take_of_length_le (by omega), List.take_length] at hin
     repeat (first | refine W.seq ?_ | refine W.block ?_ | refine W.skip ?_ | refine W.exit ?_ | refine W.region tab_ok 0 (by decide) (exec_run (by simp only [exa, beq_self_eq_true, ByteArray.size, Nat.reduceAdd, Nat.reduceLeDiff, Nat.reduceEqDiff, Nat.reduceMul, Int.reduceToNat, reduceIte, Int.reduceLE, Int.reduceNeg]; rfl)) ?_)
     refine W.ret ⟨.inr rfl, by rfl, ?_⟩
     simp only [Tryd.f9, resA, resOne, toT, fin, exa, beq_self_eq_true, ByteArray.size, Nat.reduceAdd, Nat.reduceLeDiff, Nat.reduceEqDiff, Nat.reduceMul, Int.reduceToNat, reduceIte, Int.reduceLE, Int.reduceNeg]
     simp [hin]
 ·repeat (first | refine W.seq ?_ | refine W.block ?_ | refine W.skip ?_ | refine W.exit ?_ | refine W.region tab_ok 0 (by decide) (exec_run (by simp only [exa, beq_self_eq_true, ByteArray.size, Nat.reduceAdd, Nat.reduceLeDiff, Nat.reduceEqDiff, Nat.reduceMul, Int.reduceToNat, reduceIte, Int.reduceLE, Int.reduceNeg]; rfl)) ?_)
  refine W.cond rfl ?_ ?_
  ·intro _
   repeat (first | refine W.seq ?_ | refine W.block ?_ | refine W.skip ?_ | refine W.exit ?_ | refine W.region tab_ok 0 (by decide) (exec_run (by simp only [exa, beq_self_eq_true, ByteArray.size, Nat.reduceAdd, Nat.reduceLeDiff, Nat.reduceEqDiff, Nat.reduceMul, Int.reduceToNat, reduceIte, Int.reduceLE, Int.reduceNeg]; rfl)) ?_)
   refine W.ret ⟨.inr rfl, by rfl, ?_⟩
   simp only [Tryd.f9, resA, resOne, toT, fin, exa, beq_self_eq_true, ByteArray.size, Nat.reduceAdd, Nat.reduceLeDiff, Nat.reduceEqDiff, Nat.reduceMul, Int.reduceToNat, reduceIte, Int.reduceLE, Int.reduceNeg]
   have : a ≠ b := fun e => by subst e; exact hne rfl
   simp [this]
  ·intro h
   exfalso
   simp at h
   omega
theorem sameEdges_ok (a b : List (Int × Int)) (ha : a.length ≤ 1000000000000) (m : Mem) : COk Tryd.prog 12 [.c (.sl (a.map cE)), .c (.sl (b.map cE))] m (.c (.bool (decide (a = b)))) := by
 refine (ok_pure tab_ok Tryd.func12 (by kernel_rfl) rfl rfl (by rfl) (by rfl) (by rfl) (fun R hkeep => ?_) m)
 by_cases hne : a.length = b.length
 ·repeat (first | refine W.seq ?_ | refine W.block ?_ | refine W.skip ?_ | refine W.exit ?_ | refine W.region tab_ok 0 (by decide) (exec_run (by simp only [exa, beq_self_eq_true, ByteArray.size, Nat.reduceAdd, Nat.reduceLeDiff, Nat.reduceEqDiff, Nat.reduceMul, Int.reduceToNat, reduceIte, Int.reduceLE, Int.reduceNeg, hne]; rfl)) ?_)
  refine W.cond rfl ?_ ?_
  ·intro h; simp at h
  ·intro _
   repeat (first | refine W.seq ?_ | refine W.block ?_ | refine W.skip ?_ | refine W.exit ?_ | refine W.region tab_ok 0 (by decide) (exec_run (by simp only [exa, beq_self_eq_true, ByteArray.size, Nat.reduceAdd, Nat.reduceLeDiff, Nat.reduceEqDiff, Nat.reduceMul, Int.reduceToNat, reduceIte, Int.reduceLE, Int.reduceNeg, hne]; rfl)) ?_)
   refine W.loop (ι := Nat) (fun k => ⟨upd (upd (upd (upd (upd (fun _ => .top) 0 (.c (.sl (a.map cE)))) 1 (.c (.sl (b.map cE)))) 4 (.c (.bool false))) 12 (.c (.int .i64 b.length))) 13 (.c (.int .i64 k)), Mem.nil⟩) (fun k => k ≤ b.length ∧ a.take k = b.take k) (fun k => b.length - k) 0 ?start ⟨Nat.zero_le _, rfl⟩ ?round
   case start =>
    refine le_mk ?sle ?mle ?swf ?mwf ?kept (by rfl)
    case kept => exact kept_not hkeep
    case swf => repeat (first | exact swf_top _ | refine swf_upd ?_ (by simp [A.ids, upd_app]))
    case mwf => repeat (first | exact mwf_nil _ | refine mwf_upd ?_ (by simp [A.ids, O.ids, upd_app]))
    case mle => repeat (first | exact mle_nil _ | exact mle_refl _ | refine mle_upd ?_ (by first | rfl | (simp only [upd_app, killM_app, Nat.reduceEqDiff, reduceIte]; done)))
    case sle => repeat (first | exact sle_top _ | exact sle_refl _ | refine sle_upd ?_ (by first | rfl | (simp only [upd_app, entry_zero, entry_succ, Nat.reduceEqDiff, reduceIte]; done)))
   case round =>
    rintro k ⟨hkl, hin⟩
    repeat (first | refine W.seq ?_ | refine W.block ?_ | refine W.skip ?_ | refine W.exit ?_ | refine W.region tab_ok 0 (by decide) (exec_run (by simp only [exa, beq_self_eq_true, ByteArray.size, Nat.reduceAdd, Nat.reduceLeDiff, Nat.reduceEqDiff, Nat.reduceMul, Int.reduceToNat, reduceIte, Int.reduceLE, Int.reduceNeg]; rfl)) ?_)
    refine W.cond rfl ?_ ?_
    ·intro hlt
     simp only [decide_eq_true_eq, Int.ofNat_lt] at hlt
     obtain ⟨x, hx⟩ : ∃ x, a[k]? = some x := ⟨_, List.getElem?_eq_getElem (by omega)⟩
     obtain ⟨y, hy⟩ : ∃ y, b[k]? = some y := ⟨_, List.getElem?_eq_getElem (by omega)⟩
     repeat (first | refine W.seq ?_ | refine W.block ?_ | refine W.skip ?_ | refine W.exit ?_ | refine W.region tab_ok 0 (by decide) (exec_run (by simp only [exa, beq_self_eq_true, ByteArray.size, Nat.reduceAdd, Nat.reduceLeDiff, Nat.reduceEqDiff, Nat.reduceMul, Int.reduceToNat, reduceIte, Int.reduceLE, Int.reduceNeg]; rfl)) ?_)
     refine W.regionDK tab_ok 0 follows_mixed (by kernel_rfl) (by decide) ?_
     refine runk_exec (by simp only [exa, beq_self_eq_true, ByteArray.size, Nat.reduceAdd, Nat.reduceLeDiff, Nat.reduceEqDiff, Nat.reduceMul, Int.reduceToNat, reduceIte, Int.reduceLE, Int.reduceNeg, at_map hx, at_map hy, cE]; rfl) ?_
     refine W.cond rfl ?_ ?_
     ·intro hp
      repeat (first | refine W.seq ?_ | refine W.block ?_ | refine W.skip ?_ | refine W.exit ?_ | refine W.region tab_ok 0 (by decide) (exec_run (by simp only [exa, beq_self_eq_true, ByteArray.size, Nat.reduceAdd, Nat.reduceLeDiff, Nat.reduceEqDiff, Nat.reduceMul, Int.reduceToNat, reduceIte, Int.reduceLE, Int.reduceNeg]; rfl)) ?_)
      refine W.ret ⟨.inr rfl, by rfl, ?_⟩
      simp only [Tryd.f12, resA, resOne, toT, fin, exa, beq_self_eq_true, ByteArray.size, Nat.reduceAdd, Nat.reduceLeDiff, Nat.reduceEqDiff, Nat.reduceMul, Int.reduceToNat, reduceIte, Int.reduceLE, Int.reduceNeg]
      have hxy : x ≠ y := (fun e => by subst e; simp at hp)
      have : a ≠ b := fun e => by subst e; rw [hx] at hy; exact hxy (Option.some.inj hy)
      simp [this]
     ·intro hp
      repeat (first | refine W.seq ?_ | refine W.block ?_ | refine W.skip ?_ | refine W.exit ?_ | refine W.region tab_ok 0 (by decide) (exec_run (by simp only [exa, beq_self_eq_true, ByteArray.size, Nat.reduceAdd, Nat.reduceLeDiff, Nat.reduceEqDiff, Nat.reduceMul, Int.reduceToNat, reduceIte, Int.reduceLE, Int.reduceNeg]; rfl)) ?_)
      refine ⟨k + 1, ⟨hlt, ?_⟩, by omega, ?_⟩
      ·have hxy : x = y := Decidable.byContradiction fun q => by
        have : x ≠ y := q
        simp [cE, this] at hp
        try (obtain ⟨x1, x2⟩ := x; obtain ⟨y1, y2⟩ := y; simp at hp; simp [hp] at this)
       rw [List.take_add_one, List.take_add_one, hx, hy, hin, hxy]
      refine le_mk ?sle ?mle ?swf ?mwf ?kept (by rfl)
      case kept => exact kept_not hkeep
      case swf => repeat (first | exact swf_top _ | refine swf_upd ?_ (by simp [A.ids, upd_app]))
      case mwf => repeat (first | exact mwf_nil _ | refine mwf_upd ?_ (by simp [A.ids, O.ids, upd_app]))
      case mle => repeat (first | exact mle_nil _ | exact mle_refl _ | refine mle_upd ?_ (by first | rfl | (simp only [upd_app, killM_app, Nat.reduceEqDiff, reduceIte, wrap_succ (show k + 1 < 9223372036854775808 by omega)]; done)))
      case sle => repeat (first | exact sle_top _ | exact sle_refl _ | refine sle_upd ?_ (by first | rfl | (simp only [upd_app, entry_zero, entry_succ, Nat.reduceEqDiff, reduceIte, wrap_succ (show k + 1 < 9223372036854775808 by omega)]; done)))
    ·intro hge
     simp only [decide_eq_false_iff_not, Int.ofNat_lt] at hge
     obtain rfl : k = b.length := by omega
     rw [List.take_of_length_le (by omega), List.take_length] at hin
     repeat (first | refine W.seq ?_ | refine W.block ?_ | refine W.skip ?_ | refine W.exit ?_ | refine W.region tab_ok 0 (by decide) (exec_run (by simp only [exa, beq_self_eq_true, ByteArray.size, Nat.reduceAdd, Nat.reduceLeDiff, Nat.reduceEqDiff, Nat.reduceMul, Int.reduceToNat, reduceIte, Int.reduceLE, Int.reduceNeg]; rfl)) ?_)
     refine W.ret ⟨.inr rfl, by rfl, ?_⟩
     simp only [Tryd.f12, resA, resOne, toT, fin, exa, beq_self_eq_true, ByteArray.size, Nat.reduceAdd, Nat.reduceLeDiff, Nat.reduceEqDiff, Nat.reduceMul, Int.reduceToNat, reduceIte, Int.reduceLE, Int.reduceNeg]
     simp [hin]
 ·repeat (first | refine W.seq ?_ | refine W.block ?_ | refine W.skip ?_ | refine W.exit ?_ | refine W.region tab_ok 0 (by decide) (exec_run (by simp only [exa, beq_self_eq_true, ByteArray.size, Nat.reduceAdd, Nat.reduceLeDiff, Nat.reduceEqDiff, Nat.reduceMul, Int.reduceToNat, reduceIte, Int.reduceLE, Int.reduceNeg]; rfl)) ?_)
  refine W.cond rfl ?_ ?_
  ·intro _
   repeat (first | refine W.seq ?_ | refine W.block ?_ | refine W.skip ?_ | refine W.exit ?_ | refine W.region tab_ok 0 (by decide) (exec_run (by simp only [exa, beq_self_eq_true, ByteArray.size, Nat.reduceAdd, Nat.reduceLeDiff, Nat.reduceEqDiff, Nat.reduceMul, Int.reduceToNat, reduceIte, Int.reduceLE, Int.reduceNeg]; rfl)) ?_)
   refine W.ret ⟨.inr rfl, by rfl, ?_⟩
   simp only [Tryd.f12, resA, resOne, toT, fin, exa, beq_self_eq_true, ByteArray.size, Nat.reduceAdd, Nat.reduceLeDiff, Nat.reduceEqDiff, Nat.reduceMul, Int.reduceToNat, reduceIte, Int.reduceLE, Int.reduceNeg]
   have : a ≠ b := fun e => by subst e; exact hne rfl
   simp [this]
  ·intro h
   exfalso
   simp at h
   omega
def turnE (e : Int × Int) : Int × Int := (e.2, e.1)
theorem refTurn_ok (l : List (Int × Int)) (hlen : l.length ≤ 100000000) (m : Mem) : COk Tryd.prog 19 [.c (.sl (l.map cE))] m (.c (.sl ((l.map turnE).map cE))) := by
 refine (ok_pure tab_ok Tryd.func19 (by kernel_rfl) rfl rfl (by rfl) (by rfl) (by rfl) (fun R hkeep => ?_) m)
 repeat (first | refine W.seq ?_ | refine W.block ?_ | refine W.skip ?_ | refine W.exit ?_ | refine W.region tab_ok 0 (by decide) (exec_run (by simp only [exa, beq_self_eq_true, ByteArray.size, Nat.reduceAdd, Nat.reduceLeDiff, Nat.reduceEqDiff, Nat.reduceMul, Int.reduceToNat, reduceIte, Int.reduceLE, Int.reduceNeg]; rfl)) ?_)
 refine W.newArr 3 100 42 2 rfl rfl ?_
 refine W.loop (ι := Nat) (fun k => ⟨upd (upd (upd (upd (fun _ => .top) 3 (.own 100)) 6 (.c (.sl (l.map cE)))) 7 (.c (.int .i64 l.length))) 8 (.c (.int .i64 k)), upd Mem.nil 100 (some (.arr 42 2 (((l.take k).map turnE).map cE)))⟩) (fun k => k ≤ l.length) (fun k => l.length - k) 0 ?start (Nat.zero_le _) ?round
 case start =>
  refine le_mk ?sle ?mle ?swf ?mwf ?kept (by rfl)
  case kept => exact kept_not hkeep
  case swf => repeat (first | exact swf_top _ | refine swf_upd ?_ (by simp [A.ids, upd_app]))
  case mwf => repeat (first | exact mwf_nil _ | refine mwf_upd ?_ (by simp [A.ids, O.ids, upd_app]))
  case mle => repeat (first | exact mle_nil _ | exact mle_refl _ | refine mle_upd ?_ (by first | rfl | (simp only [upd_app, killM_app, Nat.reduceEqDiff, reduceIte]; done)))
  case sle => repeat (first | exact sle_top _ | exact sle_refl _ | refine sle_upd ?_ (by first | rfl | (simp only [upd_app, entry_zero, entry_succ, Nat.reduceEqDiff, reduceIte]; done)))
 case round =>
  intro k hkl
  repeat (first | refine W.seq ?_ | refine W.block ?_ | refine W.skip ?_ | refine W.exit ?_ | refine W.region tab_ok 0 (by decide) (exec_run (by simp only [exa, beq_self_eq_true, ByteArray.size, Nat.reduceAdd, Nat.reduceLeDiff, Nat.reduceEqDiff, Nat.reduceMul, Int.reduceToNat, reduceIte, Int.reduceLE, Int.reduceNeg]; rfl)) ?_)
  refine W.cond rfl ?_ ?_
  ·intro hlt
   simp only [decide_eq_true_eq, Int.ofNat_lt] at hlt
   obtain ⟨⟨x, y⟩, hx⟩ : ∃ x, l[k]? = some x := ⟨_, List.getElem?_eq_getElem hlt⟩
   repeat (first | refine W.seq ?_ | refine W.block ?_ | refine W.skip ?_ | refine W.exit ?_ | refine W.region tab_ok 0 (by decide) (exec_run (by simp only [exa, beq_self_eq_true, ByteArray.size, Nat.reduceAdd, Nat.reduceLeDiff, Nat.reduceEqDiff, Nat.reduceMul, Int.reduceToNat, reduceIte, Int.reduceLE, Int.reduceNeg, at_map hx, cE]; rfl)) ?_)
   refine W.regionK tab_ok 0 (by decide) ?_
   refine runk_split 7 (by simp only [exa, beq_self_eq_true, ByteArray.size, Nat.reduceAdd, Nat.reduceLeDiff, Nat.reduceEqDiff, Nat.reduceMul, Int.reduceToNat, reduceIte, Int.reduceLE, Int.reduceNeg, cE]; rfl) ?_
   refine runk_append tab_ok 100 rfl rfl rfl rfl rfl rfl rfl rfl (by first | rfl | (simp only [exa, beq_self_eq_true, ByteArray.size, Nat.reduceAdd, Nat.reduceLeDiff, Nat.reduceEqDiff, Nat.reduceMul, Int.reduceToNat, reduceIte, Int.reduceLE, Int.reduceNeg, cE]; rfl)) rfl rfl rfl rfl (nokeep hkeep) (fun z hz => by simp at hz; subst hz; rfl) (by simp only [List.length_map, List.length_cons, List.length_nil]; have := List.length_take_le k l; omega) (by decide) ?_
   refine runk_exec (by simp only [exa, beq_self_eq_true, ByteArray.size, Nat.reduceAdd, Nat.reduceLeDiff, Nat.reduceEqDiff, Nat.reduceMul, Int.reduceToNat, reduceIte, Int.reduceLE, Int.reduceNeg]; rfl) ?_
   repeat (first | refine W.seq ?_ | refine W.block ?_ | refine W.skip ?_ | refine W.exit ?_ | refine W.region tab_ok 0 (by decide) (exec_run (by simp only [exa, beq_self_eq_true, ByteArray.size, Nat.reduceAdd, Nat.reduceLeDiff, Nat.reduceEqDiff, Nat.reduceMul, Int.reduceToNat, reduceIte, Int.reduceLE, Int.reduceNeg]; rfl)) ?_)
   refine ⟨k + 1, hlt, by omega, ?_⟩
   refine le_mk ?sle ?mle ?swf ?mwf ?kept (by rfl)
   case kept => exact kept_not hkeep
   case swf => repeat (first | exact swf_top _ | refine swf_upd ?_ (by simp [A.ids, upd_app]))
   case mwf => repeat (first | exact mwf_nil _ | refine mwf_upd ?_ (by simp [A.ids, O.ids, upd_app]))
   case mle => repeat (first | exact mle_nil _ | exact mle_refl _ | refine mle_upd ?_ (by first | rfl | (simp only [upd_app, killM_app, Nat.reduceEqDiff, reduceIte, wrap_succ (show k + 1 < 9223372036854775808 by omega), List.take_add_one, hx, Option.toList_some, List.map_append, turnE, cE, List.map_cons, List.map_nil]; done)))
   case sle => repeat (first | exact sle_top _ | exact sle_refl _ | refine sle_upd ?_ (by first | rfl | (simp only [upd_app, entry_zero, entry_succ, Nat.reduceEqDiff, reduceIte, wrap_succ (show k + 1 < 9223372036854775808 by omega), List.take_add_one, hx, Option.toList_some, List.map_append, turnE, cE, List.map_cons, List.map_nil]; done)))
  ·intro hge
   simp only [decide_eq_false_iff_not, Int.ofNat_lt] at hge
   obtain rfl : k = l.length := by omega
   repeat (first | refine W.seq ?_ | refine W.block ?_ | refine W.skip ?_ | refine W.exit ?_ | refine W.region tab_ok 0 (by decide) (exec_run (by simp only [exa, beq_self_eq_true, ByteArray.size, Nat.reduceAdd, Nat.reduceLeDiff, Nat.reduceEqDiff, Nat.reduceMul, Int.reduceToNat, reduceIte, Int.reduceLE, Int.reduceNeg]; rfl)) ?_)
   refine W.ret ⟨.inr rfl, by rfl, ?_⟩
   simp only [Tryd.f19, resA, resOne, toT, fin, exa, beq_self_eq_true, ByteArray.size, Nat.reduceAdd, Nat.reduceLeDiff, Nat.reduceEqDiff, Nat.reduceMul, Int.reduceToNat, reduceIte, Int.reduceLE, Int.reduceNeg, List.take_length]
end V
end Go.Proofs.YtnmfbaahabcocaaDoor
end
section
namespace Go.Proofs.YtnmfbaahabcocaaDoor
namespace V
open Go.RowKit
theorem mle_refl' {m m' : Mem} (h : m = m') : MLe m m' := h ▸ mle_refl m
theorem mle_skip {m m' : Mem} {j : Nat} {x : Option O} (h : MLe m m') (hj : m' j = none) : MLe (upd m j x) m' := fun u => by
 unfold upd; split
 ·rename_i e; subst e; exact .inl hj
 ·exact h u
theorem upd_upd {α : Type} (f : Nat → α) (t : Nat) (x y : α) : upd (upd f t x) t y = upd f t y := by
 funext u; unfold upd; split <;> rfl
theorem upd_id {α : Type} (f : Nat → α) {t : Nat} {x : α} (h : f t = x) : upd f t x = f := by
 funext u; unfold upd; split
 ·rename_i e; subst e; exact h.symm
 ·rfl
theorem base_ne {M : Mem} {b0 : Nat} (hM : ∀ d, M (b0 + d) = none) {p : Nat} {o : O} (h : M p = some o) (d : Nat) : (p = b0 + d) = False := by
 refine eq_false fun e => ?_
 subst e; rw [hM] at h; cases h
theorem base_more {M : Mem} {b0 : Nat} (hM : ∀ d, M (b0 + d) = none) (k : Nat) : ∀ d, M (b0 + k + d) = none := fun d => by rw [Nat.add_assoc]; exact hM _
theorem mwf_some {M : Mem} {j : Nat} {o : O} (hw : WFm M) (ho : ∀ i ∈ o.ids, (upd M j (some o) i).isSome = true) : WFm (upd M j (some o)) := fun id z hz i hi => by
 unfold upd at hz
 split at hz
 ·cases hz; exact ho i hi
 ·have := hw id z hz i hi
  unfold upd; split
  ·rfl
  ·exact this
theorem live_upd {M : Mem} {j : Nat} {o : O} : ∀ i, (M i).isSome = true → (upd M j (some o) i).isSome = true := fun i hi => by
 unfold upd; split
 ·rfl
 ·exact hi
theorem ren1_id : A1.ren (fun j => j) = id := funext fun a => by cases a <;> rfl
theorem ren_id : A.ren (fun j => j) = id := funext fun a => by cases a <;> simp [A.ren, ren1_id]
theorem renO_id (o : O) : O.ren (fun j => j) o = o := by cases o <;> simp [O.ren, ren1_id, ren_id]
theorem ok_eff {P : Go.Program} {T : Tab} (hT : T.Ok P) {f : FuncId} {fn : Func} {c : Code} {l : List ResultVar} {args : List A} {M : Mem} (D : List Nat) {r : A} {M' : Mem} (hf : P.funcs[f]? = some fn) (hn : (fn.name == "runtime.NumGoroutine") = false) (hb : fn.body = some c) (hl : fn.results.toList = l)
  (hle : decide (args.length ≤ fn.ntmps ∧ fn.ntmps ≤ DID) = true) (hdf : args.all (fun a => !(match a with | .defs _ => true | _ => false)) = true) (hids : ∀ a ∈ args, ∀ j ∈ a.ids, (M j).isSome = true) (hr : ∀ j ∈ r.ids, (M' j).isSome = true) (hsub : ∀ j, (M j).isSome = true → (M' j).isSome = true) (hwm : WFm M → WFm M')
  (hW : WFm M → ∀ R : Ref, R.keep = (fun j => (M j).isSome = true ∧ j ∉ D) → W P R fn.ntmps [] ⟨entry args, M⟩ c (fun e st => (e = .normal ∨ e = .ret) ∧ dfs (st.s DID) = [] ∧ resE T st l = some r ∧ MLe st.m M')) : CallE P f args M D r M' := by
 refine ⟨enters_of hf hn hb, hr, hsub, hwm, ?_⟩
 intro w0 I0 B I w vals hm hv
 have hWF : WFm M := hm.live
 refine (call_eff hT (D := D) hf hb hl (of_decide_eq_true hle).1 (of_decide_eq_true hle).2 hids (fun a ha l e => by have := List.all_eq_true.1 hdf a ha; subst e; simp at this) (enters_of hf hn hb) hr hsub hwm (fun R hR => ?_)).2.2.2.2 w0 I0 B I w vals hm hv
 refine W.mono (hW hWF R hR) fun e st ⟨h1, h2, h3, h4⟩ => ⟨h1, h2, fun j => j, r, h3, ?_⟩
 have hwf' : WFm M' := hwm hWF
 refine ⟨fun t => .inr ?_, fun j o ho => ?_, fun i j _ _ e => e, ⟨fun t j hj => ?_, hwf'⟩, fun j hj => ?_, ?_⟩
 ·show (upd (fun _ => A.top) 0 r t).ren (fun j => j) = _
  rw [ren_id]; rfl
 ·rw [renO_id]
  rcases h4 j with q | q
  ·rw [show (⟨upd (fun _ => A.top) 0 r, M'⟩ : St).m j = M' j from rfl, q] at ho; cases ho
  ·exact q.symm.trans ho
 ·show (M' j).isSome = true
  have hj : j ∈ (upd (fun _ => A.top) 0 r t).ids := hj
  unfold upd at hj
  split at hj
  ·exact hr j hj
  ·simp [A.ids] at hj
 ·rw [hR] at hj
  exact ⟨rfl, hsub j hj.1⟩
 ·show dfs (upd (fun _ => A.top) 0 r DID) = dfs (upd (fun _ => A.top) 0 r DID)
  rfl
theorem kill_free {M : Mem} {id : Nat} (hw : WFm M) (hM : M id = none) : killM id M = M := by
 funext j
 rw [killM_app]
 cases hj : M j with
 | none => rfl
 | some o =>
  rw [Option.map_some]
  congr 1
  have hno : id ∉ o.ids := fun h => by have := hw j o hj id h; rw [hM] at this; cases this
  cases o with
  | box ty cells =>
   simp only [O.kill, O.box.injEq, true_and]
   refine (List.map_congr_left fun a ha => ?_).trans (List.map_id _)
   rcases (A.kill_ids (id := id) (a := a)).2 with e | ⟨e, -⟩
   ·have hn : id ∉ a.ids := fun h => hno (List.mem_flatMap.2 ⟨a, ha, h⟩)
    have : ∀ a : A, id ∉ a.ids → a.kill id = a := fun a hn => by
     cases a with
     | ptr j off => simp only [A.ids, List.mem_singleton] at hn; simp [A.kill, Ne.symm hn]
     | own j => simp only [A.ids, List.mem_singleton] at hn; simp [A.kill, Ne.symm hn]
     | fn f ids => simp only [A.ids] at hn; simp [A.kill, hn]
     | pinP v j off => simp only [A.ids, List.mem_singleton] at hn; simp [A.kill, Ne.symm hn]
     | eptr j e i f => simp only [A.ids, List.mem_singleton] at hn; simp [A.kill, Ne.symm hn]
     | win j e lo hi => simp only [A.ids, List.mem_singleton] at hn; simp [A.kill, Ne.symm hn]
     | map j => simp only [A.ids, List.mem_singleton] at hn; simp [A.kill, Ne.symm hn]
     | tupA xs => simp only [A.ids] at hn; simp only [A.kill]; rw [if_neg (by simpa using hn)]
     | aggA xs => simp only [A.ids] at hn; simp only [A.kill]; rw [if_neg (by simpa using hn)]
     | _ => rfl
    exact this a hn
   ·exact e
  | rows ty xs =>
   simp only [O.kill, O.rows.injEq, true_and]
   refine (List.map_congr_left fun a ha => ?_).trans (List.map_id _)
   have hn : id ∉ a.ids := fun h => hno (List.mem_flatMap.2 ⟨a, ha, h⟩)
   unfold A1.kill
   rw [if_neg (by simpa using hn)]; rfl
  | map ents =>
   simp only [O.kill, O.map.injEq]
   refine (List.map_congr_left fun p hp => ?_).trans (List.map_id _)
   have hn : id ∉ p.1.ids ++ p.2.ids := fun h => hno (List.mem_flatMap.2 ⟨p, hp, h⟩)
   rw [List.mem_append, not_or] at hn
   unfold A1.kill
   rw [if_neg (by simpa using hn.1), if_neg (by simpa using hn.2)]; rfl
  | _ => rfl
theorem kill_own {M : Mem} {id : Nat} {x y : Option O} (hw : WFm M) (hM : M id = none) : upd (killM id (upd M id x)) id y = upd M id y := by
 funext j
 unfold upd
 split
 ·rfl
 ·rename_i e
  show ((if j = id then x else M j).map (O.kill id)) = M j
  rw [if_neg e]
  exact congrFun (kill_free hw hM) j
theorem W.asData {P : Go.Program} {R : Ref} {n : Nat} {ds : List Deferred} {st : St} {c : Code} {K : Exit → St → Prop} (t : Nat) {x : C} (h : asC st.m (st.s t) = some x) (hc : W P R n ds ⟨upd st.s t (.c x), st.m⟩ c K) (htd : t ≠ DID) : W P R n ds st c K := by
 intro a w hr
 refine hc a w ?_
 obtain ⟨⟨B, I, hm, hx0, hkp0, hs⟩, h2, h3, hnn, h4, h5⟩ := hr
 refine ⟨⟨B, I, hm, hx0, hkp0, fun u => ?_⟩, fun u j hj => ?_, h3, hnn, ?_, h5⟩
 ·show RV B w I (upd st.s t (.c x) u) _
  by_cases hu : u = t
  ·subst hu; rw [upd_same]; exact asC_rc hm h (hs u)
  ·rw [upd_ne _ _ hu]; exact hs u
 ·replace hj : j ∈ (upd st.s t (.c x) u).ids := hj
  by_cases hu : u = t
  ·subst hu; rw [upd_same] at hj; simp [A.ids] at hj
  ·rw [upd_ne _ _ hu] at hj; exact h2 u j hj
 ·show _ = dfs (upd st.s t (.c x) DID) ++ ds
  rw [upd_ne _ _ (fun e => htd e.symm)]; exact h4
end V
end Go.Proofs.YtnmfbaahabcocaaDoor
end
section
namespace Go.Proofs.YtnmfbaahabcocaaDoor
namespace V
def cN (i : Nat) : List C := [.int .i64 (i : Int)]
end V
end Go.Proofs.YtnmfbaahabcocaaDoor
end
section
namespace Go.Proofs.YtnmfbaahabcocaaDoor
namespace V
open Go.RowKit
def cW (R : Nat → Bool) (c : Nat) : List (List C) := (List.range c).map fun i => [.int .u64 (wd R i : Nat)]
theorem cW_len (R : Nat → Bool) (c : Nat) : (cW R c).length = c := by simp [cW]
theorem cW_at {R : Nat → Bool} {c i : Nat} (h : i < c) : (cW R c)[i]? = some [.int .u64 (wd R i : Nat)] := by simp [cW, h]
theorem cW_set {R : Nat → Bool} {c k : Nat} : (cW R c).set (wi k) [.int .u64 (wd (addF R k) (wi k) : Nat)] = cW (addF R k) c := by
 refine List.ext_getElem? fun i => ?_
 rw [List.getElem?_set, cW_len]
 by_cases hi : i < c
 ·rw [cW_at hi, cW_at hi]
  by_cases e : wi k = i
  ·subst e; rw [if_pos rfl, if_pos hi]
  ·rw [if_neg e, wd_addF R k i (Ne.symm e)]
 ·have h1 : (cW R c)[i]? = none := by rw [List.getElem?_eq_none]; rw [cW_len]; omega
  have h2 : (cW (addF R k) c)[i]? = none := by rw [List.getElem?_eq_none]; rw [cW_len]; omega
  rw [h1, h2]
  split
  ·rw [if_neg (by omega)]
  ·rfl
theorem bne_dec (x y : Int) : (x != y) = !decide (x = y) := by by_cases h : x = y <;> simp [h]
theorem cW_zero (c : Nat) : List.replicate c [C.int .u64 0] = cW (fun _ => false) c := by
 refine List.ext_getElem? fun i => ?_
 by_cases hi : i < c
 ·rw [cW_at hi, wd_zero]; simp [hi]
 ·rw [List.getElem?_eq_none (by simpa using hi), List.getElem?_eq_none (by rw [cW_len]; omega)]
def setO (n q : Nat) : O := .box 98 [.c (.int .i64 n), .own q]
def wordsO (n : Nat) (R : Nat → Bool) : O := .mrow 94 1 (cW R (nw n))
theorem cok_calls {P : Go.Program} {f : FuncId} {args : List A} {r : A} (hen : ∀ args w, (callFunc f args).run P w = .ok (.enter f args) w) (hr : r.ids = [])
  (h : ∀ (B : Nat → Value) (I : Nat → Nat → Prop) (w : World) (vals : List Value), GlobOk w → RVl B w I args vals → Calls P f vals.toArray w fun e w' => w' = w ∧ ∃ v, e = .returned v ∧ RV B w I r v) (m : Mem) : COk P f args m r :=
 ⟨hen, hr, fun m' _ w0 I0 B I w vals hm hv => (h B I w vals hm.globNow hv).mono (by
  rintro e w' ⟨rfl, v, rfl, hv⟩
  exact ⟨v, I, rfl, Below.refl _ _, fun _ _ k => k, fun _ _ k => .inl k, hv⟩)⟩
theorem at_ok (k : Nat) (hk : k < 1000000) (m : Mem) : COk Tryd.prog 70 [.c (.int .i64 k)] m (.tup [(false, [.int .i64 (wi k : Nat)]), (false, [.int .u64 (pw k : Nat)])]) := by
 refine cok_calls (enters_of Tryd.func70 (by kernel_rfl) rfl) rfl (fun B I w vals hG hv => ?_) m
 match vals, hv with
 | [v], ⟨h1, _⟩ =>
  obtain ⟨rfl, -⟩ := RC.toInt h1
  refine (at_any k hk w).mono ?_
  rintro e w' ⟨rfl, rfl⟩
  refine ⟨rfl, _, rfl, [_, _], rfl, ⟨_, rfl, .int ?_⟩, ⟨_, rfl, .int ?_⟩, trivial⟩
  ·rw [lit_wf]; simp [IntKind.min, IntKind.max, IntKind.bits, IntKind.signed, wi]; omega
  ·have := pw_lt k; rw [lit_wf]; simp [IntKind.min, IntKind.max, IntKind.bits, IntKind.signed]; omega
theorem tz_ok (x : Nat) (hx : x < 18446744073709551616) (h0 : x ≠ 0) (m : Mem) : COk Tryd.prog 71 [.c (.int .u64 x)] m (.c (.int .i64 (Lib.ctz 64 x : Nat))) := by
 refine cok_calls (enters_of Tryd.func71 (by kernel_rfl) rfl) rfl (fun B I w vals hG hv => ?_) m
 match vals, hv with
 | [v], ⟨h1, _⟩ =>
  obtain ⟨rfl, -⟩ := RC.toInt h1
  refine (tz_any x hx h0 w hG).mono ?_
  rintro e w' ⟨rfl, rfl⟩
  refine ⟨rfl, _, rfl, .int ?_⟩
  have := (ctz_bit x h0 hx).1
  rw [lit_wf]; simp [IntKind.min, IntKind.max, IntKind.bits, IntKind.signed]; omega
theorem new_ok (n : Nat) (hn : n ≤ 1000000) (M : Mem) (b : Nat) (hM : ∀ d, M (b + d) = none) : CallE Tryd.prog 45 [.c (.int .i64 n)] M [] (.ptr (b + 12) 0) (upd (upd M (b + 10) (some (wordsO n fun _ => false))) (b + 12) (some (setO n (b + 10)))) := by
 refine (ok_eff tab_ok [] Tryd.func45 (by kernel_rfl) rfl rfl (by rfl) (by rfl) ?ids ?res ?sub ?wfm (fun hWF Rr hkeep => ?_))
 case ids => intro a ha j hj; simp at ha; subst ha; simp [A.ids] at hj
 case res => intro j hj; simp [A.ids] at hj; subst hj; rw [upd_same]; rfl
 case sub => exact fun j hj => live_upd j (live_upd j hj)
 case wfm => exact fun hw => mwf_some (mwf_some hw (fun i hi => by simp [wordsO, O.ids] at hi)) (fun i hi => by simp [setO, O.ids, A.ids] at hi; subst hi; rw [upd_ne _ _ (by omega), upd_same]; rfl)
 have h1 : ¬ 1000000 < (n : Int) := by omega
 have h1' : ¬ (1000000 : Int) < n := h1
 have h2 : ¬ (n : Int) < 0 := by omega
 have h3 : IntKind.i64.wrap ((n : Int) + 63) = ((n + 63 : Nat) : Int) := by
  have := wrap_nat (k := n + 63) (by omega); simpa using this
 have h4 : ((n + 63 : Nat) : Int).tdiv 64 = ((nw n : Nat) : Int) := by
  unfold nw; rw [Int.tdiv_eq_ediv_of_nonneg (by omega)]; omega
 have h5 : IntKind.i64.wrap ((nw n : Nat) : Int) = ((nw n : Nat) : Int) := wrap_nat (by unfold nw; omega)
 have h6 : nw n * 8 ≤ 140737488355328 := by unfold nw; omega
 have h7 : ((nw n : Nat) : Int) ≤ 9223372036854775807 := by unfold nw; omega
 have hz : (Lit.int IntKind.u64 0).wf = true := by decide
 have h8 : (64 : Int) = 0 ↔ False := by decide
 have h9 : 0 < (n : Int) ∨ (n : Int) = 0 := by omega
 have e0 : (if (0 : Int) < n then (n : Int) else 0) = n := by split <;> omega
 have e1 : (if (1000000 : Int) < n then (1000000 : Int) else n) = n := by split <;> omega
 repeat (first | refine W.seq ?_ | refine W.block ?_ | refine W.skip ?_ | refine W.exit ?_ | refine W.region tab_ok b (by decide) (exec_run (by simp only [exa, beq_self_eq_true, ByteArray.size, Nat.reduceAdd, Nat.reduceLeDiff, Nat.reduceEqDiff, Nat.reduceMul, Int.reduceToNat, reduceIte, Int.reduceLE, Int.reduceNeg, h1, h2, h3, h4, h5, h6, h7, h8, e0, e1, hM, Int.toNat_natCast, and_self, Nat.add_left_cancel_iff, hz, Bool.false_eq_true]; rfl)) ?_)
 refine W.ret ⟨.inr rfl, by rfl, ?_, ?mle⟩
 simp only [Tryd.f45, resE, resOne, fin, toT, exa, beq_self_eq_true, ByteArray.size, Nat.reduceAdd, Nat.reduceLeDiff, Nat.reduceEqDiff, Nat.reduceMul, Int.reduceToNat, reduceIte, Int.reduceLE, Int.reduceNeg]
 case mle =>
  refine mle_refl' ?_
  rw [cW_zero]; rfl
theorem has_ok (n : Nat) (hn : n ≤ 1000000) (R : Nat → Bool) (k : Nat) (M : Mem) (b p q : Nat) (hM : ∀ d, M (b + d) = none) (hp : M p = some (setO n q)) (hq : M q = some (wordsO n R)) :
  CallE Tryd.prog 69 [.ptr p 0, .c (.int .i64 k)] M [] (.c (.bool (decide (k < n) && R k))) M := by
 refine (ok_eff tab_ok [] Tryd.func69 (by kernel_rfl) rfl rfl (by rfl) (by rfl) ?ids ?res ?sub ?wfm (fun hWF Rr hkeep => ?_))
 case ids => intro a ha j hj; simp at ha; rcases ha with rfl | rfl <;> simp [A.ids] at hj; subst hj; simp [hp]
 case res => intro j hj; simp [A.ids] at hj
 case sub => exact fun j hj => hj
 case wfm => exact fun hw => hw
 have h0 : ¬ (k : Int) < 0 := by omega
 by_cases hk : n ≤ k
 ·repeat (first | refine W.seq ?_ | refine W.block ?_ | refine W.skip ?_ | refine W.exit ?_ | refine W.region tab_ok b (by decide) (exec_run (by simp only [exa, beq_self_eq_true, ByteArray.size, Nat.reduceAdd, Nat.reduceLeDiff, Nat.reduceEqDiff, Nat.reduceMul, Int.reduceToNat, reduceIte, Int.reduceLE, Int.reduceNeg, h0, hp, setO, hk, Int.ofNat_le]; rfl)) ?_)
  refine W.cond rfl ?_ ?_
  ·intro _
   repeat (first | refine W.seq ?_ | refine W.block ?_ | refine W.skip ?_ | refine W.exit ?_ | refine W.region tab_ok b (by decide) (exec_run (by simp only [exa, beq_self_eq_true, ByteArray.size, Nat.reduceAdd, Nat.reduceLeDiff, Nat.reduceEqDiff, Nat.reduceMul, Int.reduceToNat, reduceIte, Int.reduceLE, Int.reduceNeg]; rfl)) ?_)
   refine W.ret ⟨.inr rfl, by rfl, ?_, ?mle⟩
   simp only [Tryd.f69, resE, resOne, fin, toT, exa, beq_self_eq_true, ByteArray.size, Nat.reduceAdd, Nat.reduceLeDiff, Nat.reduceEqDiff, Nat.reduceMul, Int.reduceToNat, reduceIte, Int.reduceLE, Int.reduceNeg]
   case mle => exact mle_refl _
   simp only [show ¬ k < n by omega, decide_false, Bool.false_and]
  ·intro h; cases h
 ·have hkn : k < n := by omega
  have hw := wi_lt hkn
  repeat (first | refine W.seq ?_ | refine W.block ?_ | refine W.skip ?_ | refine W.exit ?_ | refine W.region tab_ok b (by decide) (exec_run (by simp only [exa, beq_self_eq_true, ByteArray.size, Nat.reduceAdd, Nat.reduceLeDiff, Nat.reduceEqDiff, Nat.reduceMul, Int.reduceToNat, reduceIte, Int.reduceLE, Int.reduceNeg, h0, hp, setO, hk, Int.ofNat_le]; rfl)) ?_)
  refine W.cond rfl ?_ ?_
  ·intro h; cases h
  ·intro _
   repeat (first | refine W.seq ?_ | refine W.block ?_ | refine W.skip ?_ | refine W.exit ?_ | refine W.region tab_ok b (by decide) (exec_run (by simp only [exa, beq_self_eq_true, ByteArray.size, Nat.reduceAdd, Nat.reduceLeDiff, Nat.reduceEqDiff, Nat.reduceMul, Int.reduceToNat, reduceIte, Int.reduceLE, Int.reduceNeg]; rfl)) ?_)
   refine W.regionK tab_ok b (by decide) ?_
   refine runk_split 1 (by simp only [exa, beq_self_eq_true, ByteArray.size, Nat.reduceAdd, Nat.reduceLeDiff, Nat.reduceEqDiff, Nat.reduceMul, Int.reduceToNat, reduceIte, Int.reduceLE, Int.reduceNeg]; rfl) ?_
   refine runk_call rfl rfl rfl rfl rfl (by simp) (cvs_cons cv_refl cvs_nil) (at_ok k (by omega) _) ?_
   refine runk_exec (by simp only [exa, beq_self_eq_true, ByteArray.size, Nat.reduceAdd, Nat.reduceLeDiff, Nat.reduceEqDiff, Nat.reduceMul, Int.reduceToNat, reduceIte, Int.reduceLE, Int.reduceNeg]; rfl) ?_
   repeat (first | refine W.seq ?_ | refine W.block ?_ | refine W.skip ?_ | refine W.exit ?_ | refine W.region tab_ok b (by decide) (exec_run (by simp only [exa, beq_self_eq_true, ByteArray.size, Nat.reduceAdd, Nat.reduceLeDiff, Nat.reduceEqDiff, Nat.reduceMul, Int.reduceToNat, reduceIte, Int.reduceLE, Int.reduceNeg, hp, hq, setO, wordsO, cW_len, cW_at hw, hw, Int.toNat_natCast, and_self]; rfl)) ?_)
   refine W.ret ⟨.inr rfl, by rfl, ?_, ?mle⟩
   simp only [Tryd.f69, resE, resOne, fin, toT, exa, beq_self_eq_true, ByteArray.size, Nat.reduceAdd, Nat.reduceLeDiff, Nat.reduceEqDiff, Nat.reduceMul, Int.reduceToNat, reduceIte, Int.reduceLE, Int.reduceNeg]
   case mle => exact mle_refl _
   simp only [hkn, decide_true, Bool.true_and]
   rw [← and_pw R k, bne_dec]
   rfl
theorem add_ok (n : Nat) (hn : n ≤ 1000000) (R : Nat → Bool) (k : Nat) (M : Mem) (b p q : Nat) (hM : ∀ d, M (b + d) = none) (hp : M p = some (setO n q)) (hq : M q = some (wordsO n R)) :
  CallE Tryd.prog 48 [.ptr p 0, .c (.int .i64 k)] M [] (.c (.bool (decide (k < n) && !R k))) (if k < n ∧ R k = false then upd M q (some (wordsO n (addF R k))) else M) := by
 by_cases hk : n ≤ k
 ·rw [if_neg (by omega)]
  refine (ok_eff tab_ok [] Tryd.func48 (by kernel_rfl) rfl rfl (by rfl) (by rfl) ?ids ?res ?sub ?wfm (fun hWF Rr hkeep => ?_))
  case ids => intro a ha j hj; simp at ha; rcases ha with rfl | rfl <;> simp [A.ids] at hj; subst hj; simp [hp]
  case res => intro j hj; simp [A.ids] at hj
  case sub => exact fun j hj => hj
  case wfm => exact fun hw => hw
  have h0 : ¬ (k : Int) < 0 := by omega
  repeat (first | refine W.seq ?_ | refine W.block ?_ | refine W.skip ?_ | refine W.exit ?_ | refine W.region tab_ok b (by decide) (exec_run (by simp only [exa, beq_self_eq_true, ByteArray.size, Nat.reduceAdd, Nat.reduceLeDiff, Nat.reduceEqDiff, Nat.reduceMul, Int.reduceToNat, reduceIte, Int.reduceLE, Int.reduceNeg, h0, hp, setO, hk, Int.ofNat_le]; rfl)) ?_)
  refine W.cond rfl ?_ ?_
  ·intro _
   repeat (first | refine W.seq ?_ | refine W.block ?_ | refine W.skip ?_ | refine W.exit ?_ | refine W.region tab_ok b (by decide) (exec_run (by simp only [exa, beq_self_eq_true, ByteArray.size, Nat.reduceAdd, Nat.reduceLeDiff, Nat.reduceEqDiff, Nat.reduceMul, Int.reduceToNat, reduceIte, Int.reduceLE, Int.reduceNeg]; rfl)) ?_)
   refine W.ret ⟨.inr rfl, by rfl, ?_, ?mle⟩
   simp only [Tryd.f48, resE, resOne, fin, toT, exa, beq_self_eq_true, ByteArray.size, Nat.reduceAdd, Nat.reduceLeDiff, Nat.reduceEqDiff, Nat.reduceMul, Int.reduceToNat, reduceIte, Int.reduceLE, Int.reduceNeg]
   case mle => exact mle_refl _
   simp only [show ¬ k < n by omega, decide_false, Bool.false_and]
  ·intro h; cases h
 ·have hkn : k < n := by omega
  have hw := wi_lt hkn
  have h0 : ¬ (k : Int) < 0 := by omega
  cases hR : R k with
  | true =>
   rw [if_neg (by simp)]
   refine (ok_eff tab_ok [] Tryd.func48 (by kernel_rfl) rfl rfl (by rfl) (by rfl) ?ids ?res ?sub ?wfm (fun hWF Rr hkeep => ?_))
   case ids => intro a ha j hj; simp at ha; rcases ha with rfl | rfl <;> simp [A.ids] at hj; subst hj; simp [hp]
   case res => intro j hj; simp [A.ids] at hj
   case sub => exact fun j hj => hj
   case wfm => exact fun hw => hw
   repeat (first | refine W.seq ?_ | refine W.block ?_ | refine W.skip ?_ | refine W.exit ?_ | refine W.region tab_ok b (by decide) (exec_run (by simp only [exa, beq_self_eq_true, ByteArray.size, Nat.reduceAdd, Nat.reduceLeDiff, Nat.reduceEqDiff, Nat.reduceMul, Int.reduceToNat, reduceIte, Int.reduceLE, Int.reduceNeg]; rfl)) ?_)
   refine W.regionK tab_ok b (by decide) ?_
   refine runk_split 13 (by simp only [exa, beq_self_eq_true, ByteArray.size, Nat.reduceAdd, Nat.reduceLeDiff, Nat.reduceEqDiff, Nat.reduceMul, Int.reduceToNat, reduceIte, Int.reduceLE, Int.reduceNeg, h0, hp, setO, hk, Int.ofNat_le]; rfl) ?_
   refine runk_callE (D := []) rfl rfl rfl rfl rfl (fun j hj => by simp at hj) (by simp) (cvs_cons cv_refl (cvs_cons cv_refl cvs_nil)) (has_ok n hn R k M (b + 100) p q (base_more hM 100) hp hq) ?_
   simp only [killL, putS, upd_upd]
   refine runk_exec (by simp only [exa, beq_self_eq_true, ByteArray.size, Nat.reduceAdd, Nat.reduceLeDiff, Nat.reduceEqDiff, Nat.reduceMul, Int.reduceToNat, reduceIte, Int.reduceLE, Int.reduceNeg, h0, hk, hR, hkn]; rfl) ?_
   refine W.cond rfl ?_ ?_
   ·intro _
    repeat (first | refine W.seq ?_ | refine W.block ?_ | refine W.skip ?_ | refine W.exit ?_ | refine W.region tab_ok b (by decide) (exec_run (by simp only [exa, beq_self_eq_true, ByteArray.size, Nat.reduceAdd, Nat.reduceLeDiff, Nat.reduceEqDiff, Nat.reduceMul, Int.reduceToNat, reduceIte, Int.reduceLE, Int.reduceNeg]; rfl)) ?_)
    refine W.ret ⟨.inr rfl, by rfl, ?_, ?mle⟩
    simp only [Tryd.f48, resE, resOne, fin, toT, exa, beq_self_eq_true, ByteArray.size, Nat.reduceAdd, Nat.reduceLeDiff, Nat.reduceEqDiff, Nat.reduceMul, Int.reduceToNat, reduceIte, Int.reduceLE, Int.reduceNeg]
    case mle => exact mle_refl _
    simp
   ·intro h; cases h
  | false =>
   rw [if_pos ⟨hkn, rfl⟩]
   refine (ok_eff tab_ok [] Tryd.func48 (by kernel_rfl) rfl rfl (by rfl) (by rfl) ?ids ?res ?sub ?wfm (fun hWF Rr hkeep => ?_))
   case ids => intro a ha j hj; simp at ha; rcases ha with rfl | rfl <;> simp [A.ids] at hj; subst hj; simp [hp]
   case res => intro j hj; simp [A.ids] at hj
   case sub => exact fun j hj => live_upd j hj
   case wfm => exact fun hw => mwf_some hw (fun i hi => by simp [wordsO, O.ids] at hi)
   repeat (first | refine W.seq ?_ | refine W.block ?_ | refine W.skip ?_ | refine W.exit ?_ | refine W.region tab_ok b (by decide) (exec_run (by simp only [exa, beq_self_eq_true, ByteArray.size, Nat.reduceAdd, Nat.reduceLeDiff, Nat.reduceEqDiff, Nat.reduceMul, Int.reduceToNat, reduceIte, Int.reduceLE, Int.reduceNeg]; rfl)) ?_)
   refine W.regionK tab_ok b (by decide) ?_
   refine runk_split 13 (by simp only [exa, beq_self_eq_true, ByteArray.size, Nat.reduceAdd, Nat.reduceLeDiff, Nat.reduceEqDiff, Nat.reduceMul, Int.reduceToNat, reduceIte, Int.reduceLE, Int.reduceNeg, h0, hp, setO, hk, Int.ofNat_le]; rfl) ?_
   refine runk_callE (D := []) rfl rfl rfl rfl rfl (fun j hj => by simp at hj) (by simp) (cvs_cons cv_refl (cvs_cons cv_refl cvs_nil)) (has_ok n hn R k M (b + 100) p q (base_more hM 100) hp hq) ?_
   simp only [killL, putS, upd_upd]
   refine runk_exec (by simp only [exa, beq_self_eq_true, ByteArray.size, Nat.reduceAdd, Nat.reduceLeDiff, Nat.reduceEqDiff, Nat.reduceMul, Int.reduceToNat, reduceIte, Int.reduceLE, Int.reduceNeg, h0, hk, hR, hkn]; rfl) ?_
   refine W.cond rfl ?_ ?_
   ·intro h; cases h
   ·intro _
    repeat (first | refine W.seq ?_ | refine W.block ?_ | refine W.skip ?_ | refine W.exit ?_ | refine W.region tab_ok b (by decide) (exec_run (by simp only [exa, beq_self_eq_true, ByteArray.size, Nat.reduceAdd, Nat.reduceLeDiff, Nat.reduceEqDiff, Nat.reduceMul, Int.reduceToNat, reduceIte, Int.reduceLE, Int.reduceNeg]; rfl)) ?_)
    refine W.regionK tab_ok b (by decide) ?_
    refine runk_split 1 (by simp only [exa, beq_self_eq_true, ByteArray.size, Nat.reduceAdd, Nat.reduceLeDiff, Nat.reduceEqDiff, Nat.reduceMul, Int.reduceToNat, reduceIte, Int.reduceLE, Int.reduceNeg]; rfl) ?_
    refine runk_call rfl rfl rfl rfl rfl (by simp) (cvs_cons cv_refl cvs_nil) (at_ok k (by omega) _) ?_
    refine runk_exec (by simp only [exa, beq_self_eq_true, ByteArray.size, Nat.reduceAdd, Nat.reduceLeDiff, Nat.reduceEqDiff, Nat.reduceMul, Int.reduceToNat, reduceIte, Int.reduceLE, Int.reduceNeg]; rfl) ?_
    repeat (first | refine W.seq ?_ | refine W.block ?_ | refine W.skip ?_ | refine W.exit ?_ | refine W.region tab_ok b (by decide) (exec_run (by simp only [exa, beq_self_eq_true, ByteArray.size, Nat.reduceAdd, Nat.reduceLeDiff, Nat.reduceEqDiff, Nat.reduceMul, Int.reduceToNat, reduceIte, Int.reduceLE, Int.reduceNeg, hp, hq, setO, wordsO, cW_len, cW_at hw, hw, Int.toNat_natCast, and_self]; rfl)) ?_)
    refine W.ret ⟨.inr rfl, by rfl, ?_, ?mle⟩
    simp only [Tryd.f48, resE, resOne, fin, toT, exa, beq_self_eq_true, ByteArray.size, Nat.reduceAdd, Nat.reduceLeDiff, Nat.reduceEqDiff, Nat.reduceMul, Int.reduceToNat, reduceIte, Int.reduceLE, Int.reduceNeg]
    case mle =>
     refine mle_refl' ?_
     have h := or_pw R k
     change IntKind.u64.wrap _ = _ at h
     refine congrArg (fun z => upd M q (some (O.mrow 94 1 z))) ?_
     rw [← cW_set]
     refine congrArg (fun z => (cW R (nw n)).set (wi k) [C.int .u64 z]) ?_
     exact h
    simp [hkn]
theorem list_ok (n : Nat) (hn : n ≤ 1000000) (R : Nat → Bool) (hR : ∀ i, R i = true → i < n) (M : Mem) (b p q : Nat) (hM : ∀ d, M (b + d) = none) (hp : M p = some (setO n q)) (hq : M q = some (wordsO n R)) :
  CallE Tryd.prog 49 [.ptr p 0] M [] (.c (.sl ((elems R n).map cN))) M := by
 have HE : elems R (64 * nw n) = elems R n := elems_top R n _ hR (by unfold nw; omega)
 have hnw := nw_le hn
 refine (ok_eff tab_ok [] Tryd.func49 (by kernel_rfl) rfl rfl (by rfl) (by rfl) ?ids ?res ?sub ?wfm (fun hWF Rr hkeep => ?_))
 case ids => intro a ha j hj; simp at ha; subst ha; simp [A.ids] at hj; subst hj; simp [hp]
 case res => intro j hj; simp [A.ids] at hj
 case sub => exact fun j hj => hj
 case wfm => exact fun hw => hw
 have hM5 : M (b + 500) = none := hM 500
 have nk : ¬ Rr.keep (b + 500) := by rw [hkeep]; show ¬ ((M (b + 500)).isSome = true ∧ _); rw [hM5]; exact fun h => absurd h.1 (by simp)
 have kept : ∀ x, ∀ j, Rr.keep j → ((upd M (b + 500) (some x)) j).isSome = true := fun x j hj => by rw [hkeep] at hj; exact live_upd j hj.1
 have hqb : (q = b + 500) = False := base_ne hM hq 500
 have hpb : (p = b + 500) = False := base_ne hM hp 500
 repeat (first | refine W.seq ?_ | refine W.block ?_ | refine W.skip ?_ | refine W.exit ?_ | refine W.region tab_ok b (by decide) (exec_run (by simp only [exa, beq_self_eq_true, ByteArray.size, Nat.reduceAdd, Nat.reduceLeDiff, Nat.reduceEqDiff, Nat.reduceMul, Int.reduceToNat, reduceIte, Int.reduceLE, Int.reduceNeg, hp, hq, setO, wordsO, cW_len]; rfl)) ?_)
 refine W.newArr 2 (b + 500) 3 1 rfl hM5 ?_
 refine W.loop (ι := Nat) (fun k => ⟨upd (upd (upd (upd (fun _ => .top) 2 (.own (b + 500))) 8 (.own q)) 9 (.c (.int .i64 (nw n)))) 10 (.c (.int .i64 k)), upd M (b + 500) (some (.arr 3 1 ((elems R (64 * k)).map cN)))⟩) (fun k => k ≤ nw n) (fun k => nw n - k) 0 ?start (Nat.zero_le _) ?round
 case start =>
  refine le_mk ?sle ?mle ?swf ?mwf (kept _) (by rfl)
  case swf => repeat (first | exact swf_top _ | refine swf_upd ?_ (by simp [A.ids, upd_app, hqb, hq]))
  case mwf => exact mwf_some hWF (fun i hi => by simp [O.ids] at hi)
  case sle => repeat (first | exact sle_top _ | exact sle_refl _ | refine sle_upd ?_ (by first | rfl | (simp only [upd_app, killS_app, A.kill, entry_zero, entry_succ, Nat.reduceEqDiff, reduceIte]; done)))
  case mle => exact mle_refl' rfl
 case round =>
  intro k hk
  repeat (first | refine W.seq ?_ | refine W.block ?_ | refine W.skip ?_ | refine W.exit ?_ | refine W.region tab_ok b (by decide) (exec_run (by simp only [exa, beq_self_eq_true, ByteArray.size, Nat.reduceAdd, Nat.reduceLeDiff, Nat.reduceEqDiff, Nat.reduceMul, Int.reduceToNat, reduceIte, Int.reduceLE, Int.reduceNeg]; rfl)) ?_)
  refine W.cond rfl ?_ ?_
  ·intro hlt
   simp only [decide_eq_true_eq, Int.ofNat_lt] at hlt
   repeat (first | refine W.seq ?_ | refine W.block ?_ | refine W.skip ?_ | refine W.exit ?_ | refine W.region tab_ok b (by decide) (exec_run (by simp only [exa, beq_self_eq_true, ByteArray.size, Nat.reduceAdd, Nat.reduceLeDiff, Nat.reduceEqDiff, Nat.reduceMul, Int.reduceToNat, reduceIte, Int.reduceLE, Int.reduceNeg, hqb, hq, wordsO, cW_len, cW_at hlt, hlt, Int.toNat_natCast, and_self]; rfl)) ?_)
   refine W.loop (ι := Nat × List Nat) (fun i => ⟨upd (upd (upd (upd (upd (upd (fun _ => .top) 2 (.own (b + 500))) 8 (.own q)) 9 (.c (.int .i64 (nw n)))) 10 (.c (.int .i64 k))) 3 (.c (.int .i64 k))) 4 (.c (.int .u64 (i.1 : Nat))), upd M (b + 500) (some (.arr 3 1 (i.2.map cN)))⟩)
    (fun i => i.1 < 18446744073709551616 ∧ elems R (64 * (k + 1)) = i.2 ++ (bitsOf i.1).map (64 * k + ·)) (fun i => i.1) (wd R k, elems R (64 * k)) ?start2 ⟨wd_lt R k, elems_word R k⟩ ?round2
   case start2 =>
    refine le_mk ?sle ?mle ?swf ?mwf (kept _) (by rfl)
    case swf => repeat (first | exact swf_top _ | refine swf_upd ?_ (by simp [A.ids, upd_app, hqb, hq]))
    case mwf => exact mwf_some hWF (fun i hi => by simp [O.ids] at hi)
    case sle => repeat (first | exact sle_top _ | exact sle_refl _ | refine sle_upd ?_ (by first | rfl | (simp only [upd_app, killS_app, A.kill, entry_zero, entry_succ, Nat.reduceEqDiff, reduceIte]; done)))
    case mle => exact mle_refl' rfl
   case round2 =>
    rintro ⟨x, l⟩ ⟨hx, hl⟩
    simp only at hx hl
    by_cases h0 : x = 0
    ·subst h0
     repeat (first | refine W.seq ?_ | refine W.block ?_ | refine W.skip ?_ | refine W.exit ?_ | refine W.region tab_ok b (by decide) (exec_run (by simp only [exa, beq_self_eq_true, ByteArray.size, Nat.reduceAdd, Nat.reduceLeDiff, Nat.reduceEqDiff, Nat.reduceMul, Int.reduceToNat, reduceIte, Int.reduceLE, Int.reduceNeg]; rfl)) ?_)
     refine W.cond rfl ?_ ?_
     ·intro h; simp at h
     ·intro _
      repeat (first | refine W.seq ?_ | refine W.block ?_ | refine W.skip ?_ | refine W.exit ?_ | refine W.region tab_ok b (by decide) (exec_run (by simp only [exa, beq_self_eq_true, ByteArray.size, Nat.reduceAdd, Nat.reduceLeDiff, Nat.reduceEqDiff, Nat.reduceMul, Int.reduceToNat, reduceIte, Int.reduceLE, Int.reduceNeg]; rfl)) ?_)
      rw [bitsOf_zero, List.map_nil, List.append_nil] at hl
      refine ⟨k + 1, hlt, by omega, ?_⟩
      rw [hl]
      refine le_mk ?sle ?mle ?swf ?mwf (kept _) (by rfl)
      case swf => repeat (first | exact swf_top _ | refine swf_upd ?_ (by simp [A.ids, upd_app, hqb, hq]))
      case mwf => exact mwf_some hWF (fun i hi => by simp [O.ids] at hi)
      case sle => repeat (first | exact sle_top _ | exact sle_refl _ | refine sle_upd ?_ (by first | rfl | (simp only [upd_app, killS_app, A.kill, entry_zero, entry_succ, Nat.reduceEqDiff, reduceIte, wrap_succ (show k + 1 < 9223372036854775808 by omega)]; done)))
      case mle => exact mle_refl' rfl
    ·have h0' : ((x : Nat) : Int) = 0 ↔ False := ⟨fun h => h0 (by omega), False.elim⟩
     have hct := (ctz_bit x h0 hx).1
     have hsh : ((2 : Int) ^ min 6 IntKind.i64.bits) = 64 := by decide
     have hbl : (elems R (64 * (k + 1))).length ≤ 64 * (k + 1) := elems_len _ _
     repeat (first | refine W.seq ?_ | refine W.block ?_ | refine W.skip ?_ | refine W.exit ?_ | refine W.region tab_ok b (by decide) (exec_run (by simp only [exa, beq_self_eq_true, ByteArray.size, Nat.reduceAdd, Nat.reduceLeDiff, Nat.reduceEqDiff, Nat.reduceMul, Int.reduceToNat, reduceIte, Int.reduceLE, Int.reduceNeg]; rfl)) ?_)
     refine W.cond rfl ?_ ?_
     ·intro _
      repeat (first | refine W.seq ?_ | refine W.block ?_ | refine W.skip ?_ | refine W.exit ?_ | refine W.region tab_ok b (by decide) (exec_run (by simp only [exa, beq_self_eq_true, ByteArray.size, Nat.reduceAdd, Nat.reduceLeDiff, Nat.reduceEqDiff, Nat.reduceMul, Int.reduceToNat, reduceIte, Int.reduceLE, Int.reduceNeg]; rfl)) ?_)
      refine W.regionK tab_ok b (by decide) ?_
      refine runk_split 4 (by simp only [exa, beq_self_eq_true, ByteArray.size, Nat.reduceAdd, Nat.reduceLeDiff, Nat.reduceEqDiff, Nat.reduceMul, Int.reduceToNat, reduceIte, Int.reduceLE, Int.reduceNeg]; rfl) ?_
      refine runk_call rfl rfl rfl rfl rfl (by simp) (cvs_cons cv_refl cvs_nil) (tz_ok x hx h0 _) ?_
      have e1 : IntKind.i64.wrap ((k : Int) * 2 ^ min 6 IntKind.i64.bits) = ((64 * k : Nat) : Int) := by
       rw [hsh]
       have := wrap_nat (k := 64 * k) (by omega)
       rw [← this]; congr 1; omega
      have e2 : IntKind.i64.wrap (((64 * k : Nat) : Int) + (Lib.ctz 64 x : Nat)) = ((64 * k + Lib.ctz 64 x : Nat) : Int) := by
       have := wrap_nat (k := 64 * k + Lib.ctz 64 x) (by omega)
       rw [← this]; congr 1
      have e6 : ¬ ((6 : Int) < 0) := by decide
      have hll : l.length ≤ 64 * (k + 1) := by rw [hl, List.length_append] at hbl; omega
      refine runk_split 2 (by simp only [exa, beq_self_eq_true, ByteArray.size, Nat.reduceAdd, Nat.reduceLeDiff, Nat.reduceEqDiff, Nat.reduceMul, Int.reduceToNat, reduceIte, Int.reduceLE, Int.reduceNeg, e1, e2, e6]; rfl) ?_
      refine runk_append tab_ok (b + 500) rfl rfl rfl rfl rfl rfl (by simp only [exa, beq_self_eq_true, ByteArray.size, Nat.reduceAdd, Nat.reduceLeDiff, Nat.reduceEqDiff, Nat.reduceMul, Int.reduceToNat, reduceIte, Int.reduceLE, Int.reduceNeg, e1, e2, e6]) (by simp only [exa, beq_self_eq_true, ByteArray.size, Nat.reduceAdd, Nat.reduceLeDiff, Nat.reduceEqDiff, Nat.reduceMul, Int.reduceToNat, reduceIte, Int.reduceLE, Int.reduceNeg, e1, e2, e6]; rfl) (by first | rfl | (simp only [exa, beq_self_eq_true, ByteArray.size, Nat.reduceAdd, Nat.reduceLeDiff, Nat.reduceEqDiff, Nat.reduceMul, Int.reduceToNat, reduceIte, Int.reduceLE, Int.reduceNeg, e1, e2, e6]; rfl)) rfl rfl rfl rfl nk (fun z hz => by simp at hz; subst hz; rfl) (by simp only [List.length_map, List.length_cons, List.length_nil]; omega) (by decide) ?_
      refine runk_exec (by simp only [exa, beq_self_eq_true, ByteArray.size, Nat.reduceAdd, Nat.reduceLeDiff, Nat.reduceEqDiff, Nat.reduceMul, Int.reduceToNat, reduceIte, Int.reduceLE, Int.reduceNeg]; rfl) ?_
      rw [kill_own hWF hM5]
      repeat (first | refine W.seq ?_ | refine W.block ?_ | refine W.skip ?_ | refine W.exit ?_ | refine W.region tab_ok b (by decide) (exec_run (by simp only [exa, beq_self_eq_true, ByteArray.size, Nat.reduceAdd, Nat.reduceLeDiff, Nat.reduceEqDiff, Nat.reduceMul, Int.reduceToNat, reduceIte, Int.reduceLE, Int.reduceNeg]; rfl)) ?_)
      have e3 : IntKind.u64.wrap ((x : Int) - 1) = ((x - 1 : Nat) : Int) := by rw [IntKind.wrap_u64]; omega
      have e4 : IntKind.u64.wrap ((BitVec.ofInt IntKind.u64.bits (x : Int) &&& BitVec.ofInt IntKind.u64.bits (IntKind.u64.wrap ((x : Int) - 1))).toNat : Int) = ((dropLow x : Nat) : Int) := by
       rw [e3]; exact bits_and_u64_nat x (x - 1) hx (by omega)
      refine ⟨(dropLow x, l ++ [64 * k + Lib.ctz 64 x]), ⟨Nat.lt_trans (dropLow_lt x h0) hx, ?_⟩, dropLow_lt x h0, ?_⟩
      ·rw [hl, bitsOf_step x h0 hx]; simp
      refine le_mk ?sle ?mle ?swf ?mwf (kept _) (by rfl)
      case swf => repeat (first | exact swf_top _ | refine swf_upd ?_ (by simp [A.ids, upd_app, hqb, hq]))
      case mwf => exact mwf_some hWF (fun i hi => by simp [O.ids] at hi)
      case sle => repeat (first | exact sle_top _ | exact sle_refl _ | refine sle_upd ?_ (by first | rfl | (simp only [upd_app, killS_app, A.kill, entry_zero, entry_succ, Nat.reduceEqDiff, reduceIte, e4, hqb]; done)))
      case mle => exact mle_refl' (by simp only [e1, e2, List.map_append, List.map_cons, List.map_nil, cN])
     ·intro h; simp [h0] at h
  ·intro hge
   simp only [decide_eq_false_iff_not, Int.ofNat_lt] at hge
   obtain rfl : k = nw n := by omega
   repeat (first | refine W.seq ?_ | refine W.block ?_ | refine W.skip ?_ | refine W.exit ?_ | refine W.region tab_ok b (by decide) (exec_run (by simp only [exa, beq_self_eq_true, ByteArray.size, Nat.reduceAdd, Nat.reduceLeDiff, Nat.reduceEqDiff, Nat.reduceMul, Int.reduceToNat, reduceIte, Int.reduceLE, Int.reduceNeg]; rfl)) ?_)
   rw [HE]
   refine W.asData 2 (by simp only [exa, beq_self_eq_true, ByteArray.size, Nat.reduceAdd, Nat.reduceLeDiff, Nat.reduceEqDiff, Nat.reduceMul, Int.reduceToNat, reduceIte, Int.reduceLE, Int.reduceNeg]; rfl) ?_ (by decide)
   refine W.ret ⟨.inr rfl, by rfl, ?_, ?mle⟩
   simp only [Tryd.f49, resE, resOne, fin, toT, exa, beq_self_eq_true, ByteArray.size, Nat.reduceAdd, Nat.reduceLeDiff, Nat.reduceEqDiff, Nat.reduceMul, Int.reduceToNat, reduceIte, Int.reduceLE, Int.reduceNeg]
   case mle => exact mle_skip (mle_refl _) hM5
end V
end Go.Proofs.YtnmfbaahabcocaaDoor
end
section
namespace Go.Proofs.YtnmfbaahabcocaaDoor
namespace V
open Go.RowKit
section
variable {P : Go.Program} {T : Tab} {base : Nat} {ops : Array Oper} (hT : T.Ok P) {R : Ref} {w : World} {n : Nat} {ds : List Deferred} {l n' : Nat}
include hT
theorem plain_round (hd : ∀ o ∈ ops, ∀ d, o.dst = some d → d < n) (hnd : noDefer ops = true) {Q : Exit → Act → World → Prop} {st' : St} (hQ : ∀ a w, SR R n ds st' a w → Q .normal a w) :
  ∀ (L : List Nat) (st : St) (a : Act) (w : World), Chain P T R.keep base ops L st st' → SR R n ds st a w → wpOpsIn (Fence.wide.inRound l) n' P ops Q L a w
 | [], st, a, w, h, hr => by cases h; exact hQ a w hr
 | i :: L, st, a, w, h, hr => by
  cases h with
  | @cons _ o _ _ st1 _ hi h1 t =>
   unfold wpOpsIn
   simp only [hi]
   have hgo := h1.snd hT hr (hd o (Array.mem_of_getElem? hi)) (K := wpOpsIn (Fence.wide.inRound l) n' P ops Q L) (Q := Q) (fun a' w' hr' => plain_round hd hnd hQ L st1 a' w' t hr')
   split
   ·rename_i hw; rw [if_pos hw] at hgo; exact oper_round (noDefer_spec hnd hi) hgo
   ·rename_i hw; rw [if_neg hw] at hgo; exact ⟨fun _ _ => trivial, hgo⟩
end
def WI (l n' : Nat) (P : Go.Program) (R : Ref) (n : Nat) (ds : List Deferred) (st : St) (c : Code) (K : Exit → St → Prop) : Prop :=
 ∀ a w, SR R n ds st a w → c.wpIn (Fence.wide.inRound l) n' P (fun e a' w' => ∃ st', K e st' ∧ SR R n ds st' a' w') a w
section
variable {l n' : Nat} {P : Go.Program} {T : Tab} {R : Ref} {n : Nat} {ds : List Deferred} {st : St} {K : Exit → St → Prop}
theorem WI.mono {c : Code} {K' : Exit → St → Prop} (h : WI l n' P R n ds st c K) (hk : ∀ e st', K e st' → K' e st') : WI l n' P R n ds st c K' :=
 fun a w hr => wpIn_mono (h a w hr) fun e _ _ ⟨st', h1, h2⟩ => ⟨st', hk e st' h1, h2⟩
theorem WI.region (hT : T.Ok P) (base : Nat) {id : Nat} {ops : Array Oper} {st' : St} (hd : dstOk n ops = true) (hnd : noDefer ops = true) (h : RunL P T R.keep base ops ops.toList st st') (hk : K .normal st') : WI l n' P R n ds st (.region id ops false) K := fun a w hr =>
 wpIn_region (plain_round hT (dstOk_spec hd) hnd (fun a w hr' => ⟨st', hk, hr'⟩) _ st a w (by rw [range_range']; have := h.chain (k := 0) (by simp); simpa using this) hr)
theorem WI.regionD (hT : T.Ok P) (base : Nat) {id : Nat} {ops : Array Oper} {st' : St} (hm : P.follows .mixedOrders = true) (hok : okRegion T ops = true) (hd : dstOk n ops = true) (hnd : noDefer ops = true) (h : RunL P T R.keep base ops ops.toList st st') (hk : K .normal st') : WI l n' P R n ds st (.region id ops true) K := fun a w hr => by
 refine wpIn_mono (Q := fun e a w => e = .normal ∧ SR R n ds st' a w) (region_round (fun ⟨_, _, h, _⟩ => by cases h) hm hnd (any_snd hT hok (dstOk_spec hd) (fun a w hr' => ⟨rfl, hr'⟩) _ _ (List.range ops.size) st a _ (by simp) (by simp) (List.pairwise_lt_range) (fun i => ?_) (fun k o ho hl => ?_) ?_ (by rw [range_range']; have := h.chain (k := 0) (by simp); simpa using this))) fun e a w h => ⟨st', h.1 ▸ hk, h.2⟩
 ·rw [List.mem_range]
  refine ⟨fun hi => ⟨hi, ?_⟩, fun hi => hi.1⟩
  simp [hi]
 ·exfalso
  have hk := (Array.getElem?_eq_some_iff.1 ho).1
  simp [hk] at hl
 ·obtain ⟨⟨B, I, hmr, hx0, hkp, hs⟩, h2, h3, hnn, h4, h5⟩ := hr
  have hE : Ext w w.drew I I := ⟨fun _ _ k => k, fun _ _ _ => rfl⟩
  exact ⟨⟨B, I, hmr.call (Below.refl _ _).drew, hx0.trans hE, hkp, fun t => (hs t).mono hE fun _ _ => rfl⟩, h2, h3, hnn, h4, h5⟩
theorem WI.seq {x y : Code} (h : WI l n' P R n ds st x (thenK (fun st' => WI l n' P R n ds st' y K) K)) : WI l n' P R n ds st (.seq x y) K := fun a w hr =>
 wpIn_seq (wpIn_mono (h a w hr) fun e a' w' ⟨st', h1, h2⟩ => by
  cases e with
  | normal => exact h1 a' w' h2
  | _ => exact ⟨st', h1, h2⟩)
theorem WI.cond {c : Operand} {x y : Code} {b : Bool} (hc : ev st.s c = .c (.bool b)) (ht : b = true → WI l n' P R n ds st x K) (hf : b = false → WI l n' P R n ds st y K) : WI l n' P R n ds st (.cond c x y) K := fun a w hr => by
 obtain ⟨B, I, hm, -, -, hs⟩ := hr.ex
 have := ev_rv hs c
 rw [hc] at this
 exact wpIn_cond_split (RC.toBool this) (fun e => ht e a w hr) (fun e => hf e a w hr)
theorem WI.block {id : Nat} {c : Code} (h : WI l n' P R n ds st c (blockK id K)) : WI l n' P R n ds st (.block id c) K := fun a w hr =>
 wpIn_block (wpIn_mono (h a w hr) fun e a' w' ⟨st', h1, h2⟩ => by
  cases e with
  | exit j =>
   simp only [blockK, Exit.inBlock] at h1 ⊢
   split
   ·rename_i e; rw [if_pos e] at h1; exact ⟨st', h1, h2⟩
   ·rename_i e; rw [if_neg e] at h1; exact ⟨st', h1, h2⟩
  | _ => exact ⟨st', h1, h2⟩)
theorem WI.exit {id : Nat} (h : K (.exit id) st) : WI l n' P R n ds st (.exit id) K := fun _ _ hr => wpIn_exit ⟨st, h, hr⟩
theorem WI.ret (h : K .ret st) : WI l n' P R n ds st .ret K := fun _ _ hr => wpIn_ret ⟨st, h, hr⟩
theorem WI.skip (h : K .normal st) : WI l n' P R n ds st .skip K := fun _ _ hr => wpIn_skip ⟨st, h, hr⟩
theorem WI.weaken {st' : St} {c : Code} (hl : Le R.keep st st') (h : WI l n' P R n ds st' c K) : WI l n' P R n ds st c K := fun a w hr => h a w (hr.le hl)
theorem WI.loop {ι : Type} {c : Code} (mk : ι → St) (Inv : ι → Prop) (μ : ι → Nat) (i0 : ι) (hl : Le R.keep st (mk i0)) (h0 : Inv i0)
  (hround : ∀ i, Inv i → WI l n' P R n ds (mk i) c (thenK (fun st' => ∃ i', Inv i' ∧ μ i' < μ i ∧ Le R.keep st' (mk i')) K)) : WI l n' P R n ds st (.loop c) K := by
 refine WI.weaken hl ?_
 intro a w hr
 refine wpIn_loop_ghost (fun k a w => ∃ i, Inv i ∧ μ i = k ∧ SR R n ds (mk i) a w) (μ i0) ⟨i0, h0, rfl, hr⟩ ?_
 rintro k a w ⟨i, hi, rfl, hr⟩
 refine wpIn_mono (hround i hi a w hr) ?_
 rintro e a' w' ⟨st', h1, h2⟩
 cases e with
 | normal =>
  obtain ⟨i', hi', hlt, hle⟩ := h1
  exact ⟨μ i', hlt, i', hi', rfl, h2.le hle⟩
 | _ => exact ⟨st', h1, h2⟩
theorem WI.regionK (hT : T.Ok P) (base : Nat) {id : Nat} {ops : Array Oper} (hd : dstOk n ops = true) (hnd : noDefer ops = true) (h : RunK P T R.keep base ops ops.toList st (K .normal)) : WI l n' P R n ds st (.region id ops false) K :=
 let ⟨_, h1, h2⟩ := h
 WI.region hT base hd hnd h1 h2
theorem WI.regionDK (hT : T.Ok P) (base : Nat) {id : Nat} {ops : Array Oper} (hm : P.follows .mixedOrders = true) (hok : okRegion T ops = true) (hd : dstOk n ops = true) (hnd : noDefer ops = true) (h : RunK P T R.keep base ops ops.toList st (K .normal)) : WI l n' P R n ds st (.region id ops true) K :=
 let ⟨_, h1, h2⟩ := h
 WI.regionD hT base hm hok hd hnd h1 h2
end
end V
end Go.Proofs.YtnmfbaahabcocaaDoor
end
section
namespace Go.Proofs.YtnmfbaahabcocaaDoor
namespace V
open Go.RowKit
def Runs (P : Go.Program) (T : Tab) (kp : Nat → Prop) (base : Nat) (ops : Array Oper) (K : St → Prop) : Nat → Array Bool → St → Prop
 | 0, listed, st => Region.ready .any ops listed = [] ∧ K st
 | f + 1, listed, st => (Region.ready .any ops listed = [] → K st) ∧ ∀ i ∈ Region.ready .any ops listed, ∀ o, ops[i]? = some o → ∃ st1, HS P T kp base ops o st st1 ∧ Runs P T kp base ops K f (listed.setIfInBounds i true) st1
section
variable {P : Go.Program} {T : Tab} (hT : T.Ok P) {R : Ref} {w : World} {n base : Nat} {ds : List Deferred} {ops : Array Oper}
include hT in
theorem runs_snd (hd : ∀ o ∈ ops, ∀ d, o.dst = some d → d < n) {K : St → Prop} {Q : Exit → Act → World → Prop} (hQ : ∀ st a w, K st → SR R n ds st a w → Q .normal a w) :
  ∀ (fuel : Nat) (listed : Array Bool) (st : St) (a : Act) (w : World), Runs P T R.keep base ops K fuel listed st → SR R n ds st a w → wpAny P .any ops Q fuel listed a w := by
 intro fuel
 induction fuel with
 | zero =>
  intro listed st a w h hr
  exact ⟨h.1, hQ _ _ _ h.2 hr⟩
 | succ fuel ih =>
  intro listed st a w h hr
  obtain ⟨h0, h1⟩ := h
  constructor
  ·intro hnil
   exact hQ _ _ _ (h0 hnil) hr
  ·intro i hi
   obtain ⟨-, oi, h2, -⟩ := mem_ready.1 hi
   obtain ⟨st1, h4, h5⟩ := h1 i hi oi h2
   unfold wpOp
   rw [h2]
   have hgo := h4.snd hT hr (hd oi (Array.mem_of_getElem? h2)) (K := wpAny P .any ops Q fuel (listed.setIfInBounds i true)) (Q := Q) (fun a' w' hr' => ih _ _ _ _ h5 hr')
   dsimp only
   split
   ·rename_i hw; rw [if_pos hw] at hgo; exact .inl hgo
   ·rename_i hw; rw [if_neg hw] at hgo; exact hgo
end
section
variable {P : Go.Program} {T : Tab} {kp : Nat → Prop} {base f : Nat} {ops : Array Oper} {K : St → Prop} {listed : Array Bool} {st st1 st2 : St}
theorem runs_end (hr : Region.ready .any ops listed = []) (hk : K st) : Runs P T kp base ops K f listed st := by
 cases f with
 | zero => exact ⟨hr, hk⟩
 | succ f => exact ⟨fun _ => hk, fun i hi => by rw [hr] at hi; cases hi⟩
theorem run_one {o : Oper} (h : exec T base ops [o] st = some st1) : HS P T kp base ops o st st1 := by
 have := exec_run (P := P) (kp := kp) h
 cases this with
 | cons h t => cases t; exact h
end
section
variable {l n' : Nat} {P : Go.Program} {T : Tab} {R : Ref} {n : Nat} {ds : List Deferred} {st : St} {K : Exit → St → Prop}
theorem WI.regionT (hT : T.Ok P) (base : Nat) {id : Nat} {ops : Array Oper} (hm : P.follows .mixedOrders = true) (hd : dstOk n ops = true) (hnd : noDefer ops = true) (h : Runs P T R.keep base ops (K .normal) ops.size (Array.replicate ops.size false) st) : WI l n' P R n ds st (.region id ops true) K := fun a w hr => by
 refine wpIn_mono (Q := fun e a w => e = .normal ∧ ∃ st', K .normal st' ∧ SR R n ds st' a w) (region_round (fun ⟨_, _, h, _⟩ => by cases h) hm hnd (runs_snd hT (dstOk_spec hd) (fun st' a w hk hr' => ⟨rfl, st', hk, hr'⟩) _ _ st a _ h ?_)) fun e a w h => h.1 ▸ h.2
 obtain ⟨⟨B, I, hmr, hx0, hkp, hs⟩, h2, h3, hnn, h4, h5⟩ := hr
 have hE : Ext w w.drew I I := ⟨fun _ _ k => k, fun _ _ _ => rfl⟩
 exact ⟨⟨B, I, hmr.call (Below.refl _ _).drew, hx0.trans hE, hkp, fun t => (hs t).mono hE fun _ _ => rfl⟩, h2, h3, hnn, h4, h5⟩
theorem W.regionT (hT : T.Ok P) (base : Nat) {id : Nat} {ops : Array Oper} (hm : P.follows .mixedOrders = true) (hd : dstOk n ops = true) (h : Runs P T R.keep base ops (K .normal) ops.size (Array.replicate ops.size false) st) : W P R n ds st (.region id ops true) K := fun a w hr => by
 refine wp_region_any hm (runs_snd hT (dstOk_spec hd) (fun st' a w hk hr' => ⟨st', hk, hr'⟩) _ _ st a _ h ?_)
 obtain ⟨⟨B, I, hmr, hx0, hkp, hs⟩, h2, h3, hnn, h4, h5⟩ := hr
 have hE : Ext w w.drew I I := ⟨fun _ _ k => k, fun _ _ _ => rfl⟩
 exact ⟨⟨B, I, hmr.call (Below.refl _ _).drew, hx0.trans hE, hkp, fun t => (hs t).mono hE fun _ _ => rfl⟩, h2, h3, hnn, h4, h5⟩
end
end V
end Go.Proofs.YtnmfbaahabcocaaDoor
end
section
namespace Go.Proofs.YtnmfbaahabcocaaDoor
namespace V
open Go.RowKit
def firstB (T : Tab) (ops : Array Oper) (listed : Array Bool) (i : Nat) : Bool :=
 (Region.ready .any ops listed).contains i && (List.range ops.size).all fun j => j == i || listed.getD j true || (match ops[i]?, ops[j]? with | some oi, some oj => indep T ops oi oj | _, _ => false) || ancB ops ops.size j i
section
variable {P : Go.Program} {T : Tab} {kp : Nat → Prop} {base : Nat} {ops : Array Oper} {K : St → Prop}
theorem getD_set {listed : Array Bool} {i k : Nat} {d : Bool} : (listed.setIfInBounds i true).getD k d = if i = k ∧ i < listed.size then true else listed.getD k d := by
 rw [Array.getD_eq_getD_getElem?, Array.getD_eq_getD_getElem?, Array.getElem?_setIfInBounds]
 by_cases e : i = k
 ·subst e
  by_cases h : i < listed.size
  ·simp [h]
  ·simp [h]
 ·simp [e]
theorem closed_set {listed : Array Bool} {i : Nat} (hsz : listed.size = ops.size) (hc : ClosedL ops listed) (hi : i ∈ Region.ready .any ops listed) : ClosedL ops (listed.setIfInBounds i true) := by
 obtain ⟨h1, oi, h2, h3⟩ := mem_ready.1 hi
 have hlt := (Array.getElem?_eq_some_iff.1 h2).1
 intro k o hk hl e he hb
 have up : listed.getD e.on false = true → (listed.setIfInBounds i true).getD e.on false = true := fun h => by
  rw [getD_set]; split
  ·rfl
  ·exact h
 rw [getD_set] at hl
 by_cases q : i = k
 ·subst q
  rw [h2] at hk
  cases hk
  exact up (h3 e he hb)
 ·rw [if_neg (fun z => q z.1)] at hl
  exact up (hc k o hk hl e he hb)
theorem ready_set {listed : Array Bool} {i k : Nat} (hne : k ≠ i) (hk : k ∈ Region.ready .any ops listed) : k ∈ Region.ready .any ops (listed.setIfInBounds i true) := by
 obtain ⟨h1, o, h2, h3⟩ := mem_ready.1 hk
 refine mem_ready.2 ⟨?_, o, h2, fun e he hb => ?_⟩
 ·rw [getD_set, if_neg (fun z => hne z.1.symm)]; exact h1
 ·rw [getD_set]; split
  ·rfl
  ·exact h3 e he hb
theorem set_comm {listed : Array Bool} {i k : Nat} (h : i ≠ k) : (listed.setIfInBounds i true).setIfInBounds k true = (listed.setIfInBounds k true).setIfInBounds i true := by
 apply Array.ext_getElem?
 intro j
 simp only [Array.getElem?_setIfInBounds, Array.size_setIfInBounds]
 by_cases h1 : i = j
 ·have h2 : k ≠ j := fun e => h (h1.trans e.symm)
  simp [h1, h2]
 ·simp [h1]
theorem por {i : Nat} {oi : Oper} (hoi : ops[i]? = some oi) : ∀ (f : Nat) (listed : Array Bool) (st st1 : St), listed.size = ops.size → ClosedL ops listed → firstB T ops listed i = true → WF st → HS P T kp base ops oi st st1 → Runs P T kp base ops K f (listed.setIfInBounds i true) st1 →
  Runs P T kp base ops K (f + 1) listed st := by
 intro f
 induction f with
 | zero =>
  intro listed st st1 hsz hc hf hw h hr
  simp only [firstB, Bool.and_eq_true] at hf
  have hi : i ∈ Region.ready .any ops listed := by simpa using hf.1
  refine ⟨(fun e => by rw [e] at hi; cases hi), fun k hk o ho => ?_⟩
  by_cases e : k = i
  ·subst e
   rw [hoi] at ho; cases ho
   exact ⟨st1, h, hr⟩
  ·have := ready_set e hk
   rw [hr.1] at this; cases this
 | succ f ih =>
  intro listed st st1 hsz hc hf hw h hr
  have hf0 := hf
  simp only [firstB, Bool.and_eq_true] at hf
  have hi : i ∈ Region.ready .any ops listed := by simpa using hf.1
  obtain ⟨i1, oi', i2, i3⟩ := mem_ready.1 hi
  refine ⟨(fun e => by rw [e] at hi; cases hi), fun k hk o ho => ?_⟩
  by_cases e : k = i
  ·subst e
   rw [hoi] at ho; cases ho
   exact ⟨st1, h, hr⟩
  ·obtain ⟨k1, ok, k2, k3⟩ := mem_ready.1 hk
   rw [k2] at ho; cases ho
   obtain ⟨st2, q1, q2⟩ := hr.2 k (ready_set e hk) o k2
   have hlt := (Array.getElem?_eq_some_iff.1 k2).1
   have hind : indep T ops oi o = true := by
    have := List.all_eq_true.1 hf.2 k (List.mem_range.2 hlt)
    simp only [Bool.or_eq_true, beq_iff_eq, hoi, k2] at this
    rcases this with ((z | z) | z) | z
    ·exact absurd z e
    ·rw [k1] at z; cases z
    ·exact z
    ·have hl := anc_listed hc _ k o k2 k3 z
     rw [getD_tf hl] at i1; cases i1
   obtain ⟨st3, c1, c2⟩ := HS.comm hind hw h q1
   refine ⟨st3, c1, ih _ st3 st2 (by simpa using hsz) (closed_set hsz hc hk) ?_ (HS.wf hw c1) c2 (by rw [← set_comm (Ne.symm e)]; exact q2)⟩
   simp only [firstB, Bool.and_eq_true]
   refine ⟨by simpa using ready_set (Ne.symm e) hi, List.all_eq_true.2 fun j hj => ?_⟩
   have := List.all_eq_true.1 hf.2 j hj
   simp only [Bool.or_eq_true] at this ⊢
   rcases this with ((z | z) | z) | z
   ·exact .inl (.inl (.inl z))
   ·refine .inl (.inl (.inr ?_))
    rw [getD_set]; split
    ·rfl
    ·exact z
   ·exact .inl (.inr z)
   ·exact .inr z
def RunsW (P : Go.Program) (T : Tab) (kp : Nat → Prop) (base : Nat) (ops : Array Oper) (K : St → Prop) (f : Nat) (listed : Array Bool) (st : St) : Prop := listed.size = ops.size → ClosedL ops listed → WF st → Runs P T kp base ops K f listed st
theorem runs_first {f : Nat} {listed : Array Bool} {st : St} (i : Nat) {o : Oper} (ho : ops[i]? = some o) (hf : firstB T ops listed i = true) (h : ∃ st1, HS P T kp base ops o st st1 ∧ RunsW P T kp base ops K f (listed.setIfInBounds i true) st1) : RunsW P T kp base ops K (f + 1) listed st := by
 intro hsz hc hw
 obtain ⟨st1, h1, h2⟩ := h
 have hi : i ∈ Region.ready .any ops listed := by
  simp only [firstB, Bool.and_eq_true] at hf
  simpa using hf.1
 exact por ho f listed st st1 hsz hc hf hw h1 (h2 (by simpa using hsz) (closed_set hsz hc hi) (HS.wf hw h1))
def Steps (P : Go.Program) (T : Tab) (kp : Nat → Prop) (base : Nat) (ops : Array Oper) (K : St → Prop) (f : Nat) (listed : Array Bool) (st : St) : List Nat → Prop
 | [] => True
 | i :: l => (∃ o st1, ops[i]? = some o ∧ HS P T kp base ops o st st1 ∧ RunsW P T kp base ops K f (listed.setIfInBounds i true) st1) ∧ Steps P T kp base ops K f listed st l
theorem steps_mem {f : Nat} {listed : Array Bool} {st : St} : ∀ {l : List Nat}, Steps P T kp base ops K f listed st l → ∀ i ∈ l, ∃ o st1, ops[i]? = some o ∧ HS P T kp base ops o st st1 ∧ RunsW P T kp base ops K f (listed.setIfInBounds i true) st1
 | [], _, i, hi => by cases hi
 | j :: l, h, i, hi => by
  rcases List.mem_cons.1 hi with rfl | hi
  ·exact h.1
  ·exact steps_mem h.2 i hi
theorem runs_node {f : Nat} {listed : Array Bool} {st : St} (l : List Nat) (hr : Region.ready .any ops listed = l) (hne : l ≠ []) (h : Steps P T kp base ops K f listed st l) : RunsW P T kp base ops K (f + 1) listed st := by
 intro hsz hc hw
 refine ⟨fun e => absurd (hr.symm.trans e) hne, fun i hi o ho => ?_⟩
 obtain ⟨o', st1, h1, h2, h3⟩ := steps_mem h i (hr ▸ hi)
 rw [ho] at h1; cases h1
 exact ⟨st1, h2, h3 (by simpa using hsz) (closed_set hsz hc hi) (HS.wf hw h2)⟩
theorem runsw_end {f : Nat} {listed : Array Bool} {st : St} (hr : Region.ready .any ops listed = []) (hk : K st) : RunsW P T kp base ops K f listed st := fun _ _ _ => runs_end hr hk
def exec1 (T : Tab) (base : Nat) (ops : Array Oper) (i : Nat) (st : St) : Option St := match ops[i]? with
 | some o => exec T base ops [o] st
 | none => none
theorem exec1_hs {i : Nat} {st st1 : St} (h : exec1 T base ops i st = some st1) : ∃ o, ops[i]? = some o ∧ HS P T kp base ops o st st1 := by
 unfold exec1 at h
 split at h
 ·rename_i o ho
  exact ⟨o, ho, run_one h⟩
 ·cases h
theorem step_exec {f i : Nat} {listed : Array Bool} {st : St} {l : List Nat} (h : ∃ st1, exec1 T base ops i st = some st1 ∧ RunsW P T kp base ops K f (listed.setIfInBounds i true) st1) (t : Steps P T kp base ops K f listed st l) : Steps P T kp base ops K f listed st (i :: l) :=
 ⟨let ⟨st1, h1, h2⟩ := h; let ⟨o, ho, hs⟩ := exec1_hs h1; ⟨o, st1, ho, hs, h2⟩, t⟩
theorem first_exec {f : Nat} {listed : Array Bool} {st : St} (i : Nat) (hf : firstB T ops listed i = true) (h : ∃ st1, exec1 T base ops i st = some st1 ∧ RunsW P T kp base ops K f (listed.setIfInBounds i true) st1) : RunsW P T kp base ops K (f + 1) listed st :=
 let ⟨st1, h1, h2⟩ := h; let ⟨_, ho, hs⟩ := exec1_hs h1; runs_first i ho hf ⟨st1, hs, h2⟩
theorem step_append (hT : T.Ok P) {f i : Nat} {listed : Array Bool} {st : St} {rl : List Nat} {o : Oper} (ho : ops[i]? = some o) {c : Call} {x y : Operand} {t d : Nat} (id : Nat) {e n b : Nat} (fz : Bool) {zs : List Value} {xs ys : List (List C)} (h : wantA ops o st.s = some true) (hop : o.op = .call c) (hc : c.callee = .builtin .append) (ha : c.args = #[x, y]) (ht : c.argTypes = #[t, t]) (hd : o.dst = some d)
  (hx : ev st.s x = .own id) (hm : st.m id = some (rowO fz e n xs)) (hy : asC st.m (ev st.s y) = some (.sl ys)) (h1 : T.elem t = some (e, n)) (h2 : T.bytes e = some b) (h3 : T.zero e = some zs) (h4 : zs.length = n) (hkp : ¬ kp id) (hl : ∀ z ∈ ys, z.length = n) (hb : (xs.length + ys.length) * b ≤ 140737488355328) (hb0 : 0 < b)
  (hr : RunsW P T kp base ops K f (listed.setIfInBounds i true) ⟨upd (killS id st.s) d (.own id), upd (killM id st.m) id (some (rowO fz e n (xs ++ ys)))⟩) (tl : Steps P T kp base ops K f listed st rl) : Steps P T kp base ops K f listed st (i :: rl) :=
 ⟨⟨o, _, ho, .eff (eff_append hT hkp ⟨h, hop, hc, ha, ht, hd, hx, hm, hy, h1, h2, h3, h4, hl, hb, app_small hb hb0⟩), hr⟩, tl⟩
theorem runs_mono {K' : St → Prop} (hk : ∀ st, K st → K' st) : ∀ {f : Nat} {listed : Array Bool} {st : St}, Runs P T kp base ops K f listed st → Runs P T kp base ops K' f listed st
 | 0, _, _, h => ⟨h.1, hk _ h.2⟩
 | _ + 1, _, _, h => ⟨fun e => hk _ (h.1 e), fun i hi o ho => let ⟨st1, h1, h2⟩ := h.2 i hi o ho; ⟨st1, h1, runs_mono hk h2⟩⟩
theorem RunsW.mono {K' : St → Prop} (hk : ∀ st, K st → K' st) {f : Nat} {listed : Array Bool} {st : St} (h : RunsW P T kp base ops K f listed st) : RunsW P T kp base ops K' f listed st := fun a b c => runs_mono hk (h a b c)
theorem closed_none {n : Nat} (hn : ops.size = n) : ClosedL ops (Array.replicate n false) := fun k o hk h => by
 have hlt := (Array.getElem?_eq_some_iff.1 hk).1
 rw [Array.getD_eq_getD_getElem?, Array.getElem?_replicate, if_pos (by omega)] at h
 cases h
end
section
variable {l n' : Nat} {P : Go.Program} {T : Tab} {R : Ref} {n : Nat} {ds : List Deferred} {st : St} {K : Exit → St → Prop}
theorem W.regionP (hT : T.Ok P) (base : Nat) {id : Nat} {ops : Array Oper} (hm : P.follows .mixedOrders = true) (hd : dstOk n ops = true) (h : RunsW P T R.keep base ops (K .normal) ops.size (Array.replicate ops.size false) st) : W P R n ds st (.region id ops true) K := fun a w hr =>
 W.regionT hT base hm hd (h (by simp) (closed_none rfl) hr.wf) a w hr
theorem WI.regionP (hT : T.Ok P) (base : Nat) {id : Nat} {ops : Array Oper} (hm : P.follows .mixedOrders = true) (hd : dstOk n ops = true) (hnd : noDefer ops = true) (h : RunsW P T R.keep base ops (K .normal) ops.size (Array.replicate ops.size false) st) : WI l n' P R n ds st (.region id ops true) K := fun a w hr =>
 WI.regionT hT base hm hd hnd (h (by simp) (closed_none rfl) hr.wf) a w hr
theorem W.regionPC (hT : T.Ok P) (base : Nat) {id : Nat} {ops : Array Oper} (hm : P.follows .mixedOrders = true) (hd : dstOk n ops = true) (can : St) (h : RunsW P T R.keep base ops (fun st' => Le R.keep st' can) ops.size (Array.replicate ops.size false) st) (hK : ∀ st', Le R.keep st' can → K .normal st') : W P R n ds st (.region id ops true) K :=
 W.mono (W.regionP hT base hm hd (K := fun e st' => e = .normal ∧ Le R.keep st' can) (by
  refine RunsW.mono (fun st' h' => ⟨rfl, h'⟩) h)) (fun e st' h' => h'.1 ▸ hK st' h'.2)
end
end V
end Go.Proofs.YtnmfbaahabcocaaDoor
end
section
namespace Go.Proofs.YtnmfbaahabcocaaDoor
namespace V
open Go.RowKit
def cI (z : Int) : List C := [.int .i64 z]
def leI (x y : Int) : Bool := decide (x ≤ y)
theorem cI_len {zs : List Int} : ∀ x ∈ zs.map cI, x.length = 1 := fun x hx => by obtain ⟨z, -, rfl⟩ := List.mem_map.1 hx; rfl
theorem flat_cI : ∀ zs : List Int, flat (zs.map cI) = zs.map (C.int .i64)
 | [] => rfl
 | z :: zs => by
  have := flat_cI zs
  simp only [flat, List.map_cons, List.flatten_cons, cI] at this ⊢
  rw [this]; rfl
section
variable {w : World} {I : Nat → Nat → Prop}
theorem rcs_ints : ∀ {vs : List Value} {zs : List Int}, RCs w I vs (zs.map (C.int .i64)) → vs = zs.map (Value.int .i64) ∧ ∀ z ∈ zs, (Lit.int .i64 z).wf = true
 | [], [], _ => ⟨rfl, fun z hz => by cases hz⟩
 | v :: vs, z :: zs, h => by
  obtain ⟨h1, h2⟩ := rcs_ints h.2
  obtain ⟨e, hw⟩ := RC.toInt h.1
  exact ⟨by rw [e, h1]; rfl, fun y hy => by rcases List.mem_cons.1 hy with rfl | hy; exact hw; exact h2 y hy⟩
theorem ints_rcs : ∀ {zs : List Int}, (∀ z ∈ zs, (Lit.int .i64 z).wf = true) → RCs w I (zs.map (Value.int .i64)) (zs.map (C.int .i64))
 | [], _ => trivial
 | z :: zs, h => ⟨.int (h z (by simp)), ints_rcs fun y hy => h y (by simp [hy])⟩
end
theorem putCells_at {enc : Int → Value} {off : Nat} {d : Array Int} {c : Array Value} {j : Nat} (hj : j < d.size) (hc : off + d.size ≤ c.size) : (Sort.putCells enc off d c)[off + j]? = some (enc d[j]!) := by
 unfold Sort.putCells
 rw [Array.getElem?_mapIdx]
 have : off + j < c.size := by omega
 rw [Array.getElem?_eq_getElem this, Option.map_some, if_pos ⟨by omega, by omega⟩, Nat.add_sub_cancel_left]
theorem sort_mut {P : Go.Program} {f : FuncId} (hen : ∀ args w, (callFunc f args).run P w = .ok (.enter f args) w)
  (hS : ∀ (blk off cap : Nat) (zs : List Int) (w : World), Sort.Holds (Value.int .i64) w blk off zs.toArray → blk < w.heap.size → zs.length < 4611686018427387904 →
   Calls P f #[.slice (some ⟨blk, off, none⟩) zs.length cap] w fun e w' => e = .returned (.tuple #[]) ∧ ∃ n os, w' = Sort.grow (Sort.putRow (Value.int .i64) (Sort.ahead w n) blk off (zs.mergeSort leI).toArray) os)
  (hN : ∀ (p : Option Addr) (cap : Nat) (w : World), Calls P f #[.slice p 0 cap] w fun e w' => e = .returned (.tuple #[]) ∧ w' = w)
  (zs : List Int) (hlen : zs.length < 4611686018427387904) (M : Mem) (id : Nat) {ty : TypeId} (hM : M id = some (.mrow ty 1 (zs.map cI))) :
  CallE P f [.own id] M [] (.tup []) (upd M id (some (.mrow ty 1 ((zs.mergeSort leI).map cI)))) := by
 have liv : ∀ j, (M j).isSome = true → (upd M id (some (O.mrow ty 1 ((zs.mergeSort leI).map cI))) j).isSome = true := fun j hj => by
  unfold upd; split
  ·rfl
  ·exact hj
 refine ⟨hen, fun j hj => by simp [A.ids] at hj, liv, fun hw i o ho j hj => ?_, ?_⟩
 ·unfold upd at ho
  split at ho
  ·cases ho; simp [O.ids] at hj
  ·exact liv j (hw i o ho j hj)
 intro w0 I0 B I w vals hm hv
 match vals, hv with
 | [v], ⟨h1, _⟩ =>
  obtain ⟨hvB, -⟩ := h1
  subst hvB
  obtain ⟨vs, hrow, hvs, hlx, hno⟩ := hm.objs id _ hM
  rw [flat_cI] at hvs
  obtain ⟨rfl, hwf⟩ := rcs_ints hvs
  rw [List.length_map] at hrow
  have hwf' : ∀ z ∈ zs.mergeSort leI, (Lit.int .i64 z).wf = true := fun z hz => hwf z (List.mem_mergeSort.1 hz)
  have hl' : (zs.mergeSort leI).length = zs.length := List.length_mergeSort zs
  obtain ⟨-, ho⟩ := hrow
  rcases ho with ⟨e, hn⟩ | ⟨g, off, cap, cur, e, hg, hnc, hmx, hsz, htk⟩
  ·obtain rfl : zs = [] := List.length_eq_zero_iff.1 hn
   show Calls P f #[B id] w _
   rw [e]
   refine (hN none 0 w).mono ?_
   rintro e' w' ⟨rfl, rfl⟩
   refine ⟨_, B, I, rfl, ?_, Ext.refl _ _, fun _ _ _ => rfl, ⟨[], rfl, trivial⟩⟩
   have : upd M id (some (O.mrow ty 1 ((([] : List Int).mergeSort leI).map cI))) = M := by
    funext j; unfold upd; split
    ·rename_i q; subst q; rw [hM]; simp
    ·rfl
   rw [this]; exact hm
  ·have hglt : g < w.heap.size := (Array.getElem?_eq_some_iff.1 hg).1
   have hcell : ∀ j, j < zs.length → cur[off + j]? = some (.int .i64 zs[j]!) := fun j hj => by
    have h2 : ((cur.toList.drop off).take (zs.length * 1))[j]? = some (.int .i64 zs[j]!) := by rw [htk, List.getElem?_map, List.getElem?_eq_getElem hj]; simp [hj]
    rw [List.getElem?_take, if_pos (by omega), List.getElem?_drop, Array.getElem?_toList] at h2
    exact h2
   show Calls P f #[B id] w _
   rw [e]
   refine (hS g off cap zs w (fun j hj => ?_) hglt hlen).mono ?_
   ·have hj : j < zs.length := by simpa using hj
    refine ⟨?_, ?_⟩
    ·simp only [World.cell?, hg]
     rw [hcell j hj]; simp
    ·simp [World.frozen?, hg]
   rintro e' w' ⟨rfl, n, os, rfl⟩
   have h1 : (Sort.putRow (Value.int .i64) (Sort.ahead w n) g off (zs.mergeSort leI).toArray).heap[g]? = some (.cells (Sort.putCells (Value.int .i64) off (zs.mergeSort leI).toArray cur) ty (0, 0)) := by
    simp only [Sort.putRow, Sort.mapBlock, Sort.ahead, Array.getElem?_modify, if_true, hg, Option.map_some, Sort.onCells]
   have h2 : ∀ k, k ≠ g → (Sort.putRow (Value.int .i64) (Sort.ahead w n) g off (zs.mergeSort leI).toArray).heap[k]? = w.heap[k]? := fun k hk => by
    simp only [Sort.putRow, Sort.mapBlock, Sort.ahead, Array.getElem?_modify, if_neg (Ne.symm hk)]
   have hf : foot B id (.mrow ty 1 (zs.map cI)) g := by show (B id).ownBlock = some g; rw [e]; rfl
   have hf' : ∀ k, foot B id (.mrow ty 1 ((zs.mergeSort leI).map cI)) k → k = g := fun k hk => by
    have hk : (B id).ownBlock = some k := hk
    rw [e] at hk; cases hk; rfl
   have hIg : ∀ p, ¬ I g p := fun p => hno g (by rw [e]; rfl) p
   have hcs : (Sort.putCells (Value.int .i64) off (zs.mergeSort leI).toArray cur).size = cur.size := by simp [Sort.putCells]
   obtain ⟨hm1, hE1⟩ := hm.turn (w' := Sort.putRow (Value.int .i64) (Sort.ahead w n) g off (zs.mergeSort leI).toArray) (o' := .mrow ty 1 ((zs.mergeSort leI).map cI)) hM hf hf' hIg rfl rfl rfl (by simp [Sort.putRow, Sort.mapBlock, Sort.ahead]) h2 (fun i hi => by simp [O.ids] at hi) (fun _ => by
    refine ⟨(zs.mergeSort leI).map (Value.int .i64), ⟨by simp, ?_⟩, by rw [flat_cI]; exact ints_rcs hwf', cI_len, fun b hb p => ?_⟩
    ·refine .inr ⟨g, off, cap, _, by rw [e]; simp, h1, by simp; omega, hmx, by rw [hcs]; exact hsz, ?_⟩
     refine List.ext_getElem? fun j => ?_
     rw [List.getElem?_take]
     split
     ·rename_i hj
      have hj : j < zs.length := by simpa using hj
      rw [List.getElem?_drop, Array.getElem?_toList, putCells_at (by simp; omega) (by simp; omega), List.getElem?_map, List.getElem?_eq_getElem (by omega)]
      simp [hl', hj]
     ·rename_i hj
      rw [List.getElem?_eq_none (by simp at hj ⊢; omega)]
    ·rw [e] at hb
     have : g = b := by simpa [Value.ownBlock] using hb
     subst this
     exact hIg p)
   have hbl : Below (Sort.putRow (Value.int .i64) (Sort.ahead w n) g off (zs.mergeSort leI).toArray).heap.size (Sort.putRow (Value.int .i64) (Sort.ahead w n) g off (zs.mergeSort leI).toArray) (Sort.grow (Sort.putRow (Value.int .i64) (Sort.ahead w n) g off (zs.mergeSort leI).toArray) os) :=
    ⟨rfl, rfl, rfl, by simp [Sort.grow], fun k hk => by simp only [Sort.grow]; rw [Array.getElem?_append_left hk]⟩
   refine ⟨_, B, I, rfl, hm1.call hbl, hE1.trans ⟨fun _ _ k => k, fun b o k => hbl.cell (p := ⟨b, o, none⟩) (hm1.there b o k)⟩, fun _ _ _ => rfl, ⟨[], rfl, trivial⟩⟩
end V
end Go.Proofs.YtnmfbaahabcocaaDoor
end
section
namespace Go.Proofs.YtnmfbaahabcocaaDoor
namespace V
open Go.RowKit
theorem sort_ok (zs : List Int) (hlen : zs.length < 4611686018427387904) (M : Mem) (id : Nat) {ty : TypeId} (hM : M id = some (.mrow ty 1 (zs.map cI))) :
  CallE Tryd.prog 68 [.own id] M [] (.tup []) (upd M id (some (.mrow ty 1 ((zs.mergeSort leI).map cI)))) :=
 sort_mut (enters_of Tryd.func68 (by kernel_rfl) rfl) (fun blk off cap zs w h1 h2 h3 => Tryd.slices_Sort_int blk off cap zs w h1 h2 h3) (fun p cap w => Tryd.slices_Sort_int_none p cap w) zs hlen M id hM
end V
end Go.Proofs.YtnmfbaahabcocaaDoor
end
