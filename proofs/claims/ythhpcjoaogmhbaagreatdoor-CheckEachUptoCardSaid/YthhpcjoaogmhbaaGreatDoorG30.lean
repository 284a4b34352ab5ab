/- Joined by my own program, in build order: Vi, Vj, Vk, Vl, Vm, Vn, Vo, Vp, Vr, Vq, Bulk, Bulk6, Top, Cd7, Clone, Frz, Vs, Vu, Vw, VUp, Vran, GrowS, Cfn, Ccls. -/
import Derived.Test.YthhpcjoaogmhbaaGreatDoorG29
import Derived.Shelf.Abstract
import Derived.Test.YthhpcjoaogmhbaaGreatDoorG1
import Derived.Test.YthhpcjoaogmhbaaGreatDoorRows
import Derived.Test.YthhpcjoaogmhbaaGreatDoorG2
import Derived.ProofKit
import Derived.OpenShut
import Derived.HandedShaped
import Derived.Deep.DeepHandedRow
import Derived.LaidLaws
import Derived.Test.YthhpcjoaogmhbaaGreatDoorG11
import Derived.Lib.LaidTab
import Derived.Test.YthhpcjoaogmhbaaGreatDoorG12
import Derived.Test.YthhpcjoaogmhbaaGreatDoorG21
import Derived.Sort.LoopGhostIn
import Derived.Test.YthhpcjoaogmhbaaGreatDoorG19
import Derived.Test.YthhpcjoaogmhbaaGreatDoorG20
import Derived.Lib.Walk
import Derived.Lib.SliceRun
import Derived.Lib.AppendZerosOnto
import Derived.Test.YthhpcjoaogmhbaaGreatDoorG18
import Derived.Test.YthhpcjoaogmhbaaGreatDoorG24
import Derived.Test.YthhpcjoaogmhbaaGreatDoorG25
import Derived.Test.YthhpcjoaogmhbaaGreatDoorG26
set_option linter.unusedVariables false
set_option linter.unusedSimpArgs false
section
namespace Go.Proofs.YthhpcjoaogmhbaaGreatDoor
namespace V
open Go.RowKit
def Il (T : Tab) (base : Nat) (ops : Array Oper) (o : Oper) (st : St) : Option St :=
 match fE ops o st.s with
 | some true => (match kind T o.op with
   | .store => (match o.op with
     | .store ty x v => (match qG (ev st.s x), o.dst with
       | some j, none => (match st.m j with
         | some b => (match stO T ty (ev st.s x) (ev st.s v) b with | some b' => some ⟨st.s, upd st.m j (some b')⟩ | none => none)
         | none => none)
       | _, _ => none)
     | _ => none)
   | .barrier => none
   | _ => (match o.dst with
     | some d => (match qv T st.s st.m (base + d) o.op with
       | some (r, none) => some ⟨upd st.s d r, st.m⟩
       | some (r, some x) => (match st.m (base + d) with | none => some ⟨upd st.s d r, upd st.m (base + d) (some x)⟩ | some _ => none)
       | none => none)
     | none => none))
 | some false => (match o.dst with | some d => some ⟨upd st.s d .undef, st.m⟩ | none => some st)
 | none => none
def exec (T : Tab) (base : Nat) (ops : Array Oper) : List Oper → St → Option St
 | [], st => some st
 | o :: l, st => match Il T base ops o st with | some st1 => exec T base ops l st1 | none => none
section
variable {P : Go.Program} {T : Tab} {kp : Nat → Prop} {base : Nat} {ops : Array Oper}
theorem M4 {o : Oper} {st st' : St} (h : Il T base ops o st = some st') : HS P T kp base ops o st st' := by
 unfold Il at h
 split at h
 ·rename_i hw
  split at h
  ·split at h
   ·rename_i ty x v hop
    split at h
    ·rename_i j hx hd
     split at h
     ·rename_i b hj
      split at h
      ·rename_i b' hn
       cases h
       exact .store ⟨hw, hop, hd, hx, hj, hn⟩
      ·cases h
     ·cases h
    ·cases h
   ·cases h
  ·cases h
  ·split at h
   ·rename_i d hd
    have hid : lQ base o = base + d := by simp [lQ, hd]
    split at h
    ·rename_i r hq
     cases h
     have := HS.val (P := P) (T := T) (kp := kp) (HV.val (base := base) hw (by rw [hid]; exact hq) (fun h => by cases h) (fun h => by cases h))
     rw [hd] at this
     exact this
    ·rename_i r x hq
     split at h
     ·rename_i hm
      cases h
      have := HS.val (P := P) (T := T) (kp := kp) (HV.val (base := base) hw (by rw [hid]; exact hq) (fun _ => by rw [hid]; exact hm) (fun _ => by rw [hd]; rfl))
      rw [hd, hid] at this
      exact this
     ·cases h
    ·cases h
   ·cases h
 ·rename_i hw
  have := HS.val (P := P) (T := T) (base := base) (kp := kp) (HV.skip hw)
  split at h
  ·rename_i d hd
   cases h
   rw [hd] at this
   exact this
  ·rename_i hd
   cases h
   rw [hd] at this
   exact this
 ·cases h
theorem aG : ∀ {l : List Oper} {st st' : St}, exec T base ops l st = some st' → RunL P T kp base ops l st st'
 | [], st, st', h => by simp [exec] at h; subst h; exact .nil _
 | o :: l, st, st', h => by
   simp only [exec] at h
   split at h
   ·rename_i st1 h1
    exact .cons (M4 h1) (aG h)
   ·cases h
theorem RunL.append {l1 l2 : List Oper} {st st1 st2 : St} (h : RunL P T kp base ops l1 st st1) (k : RunL P T kp base ops l2 st1 st2) : RunL P T kp base ops (l1 ++ l2) st st2 := by
 induction h with
 | nil => exact k
 | cons h _ ih => exact .cons h (ih k)
theorem Ke {l : List Oper} {st st1 st2 : St} (i : Nat) (h : exec T base ops (l.take i) st = some st1) (k : RunL P T kp base ops (l.drop i) st1 st2) : RunL P T kp base ops l st st2 := by
 have := (aG (P := P) (kp := kp) h).append k
 rwa [List.take_append_drop] at this
def jG (P : Go.Program) (T : Tab) (kp : Nat → Prop) (base : Nat) (ops : Array Oper) (l : List Oper) (st : St) (k : St → Prop) : Prop := ∃ st', RunL P T kp base ops l st st' ∧ k st'
theorem aA {l : List Oper} {st st' : St} {k : St → Prop} (h : exec T base ops l st = some st') (hk : k st') : jG P T kp base ops l st k := ⟨st', aG h, hk⟩
theorem aj {l : List Oper} {st st1 : St} {k : St → Prop} (i : Nat) (h : exec T base ops (l.take i) st = some st1) (hk : jG P T kp base ops (l.drop i) st1 k) : jG P T kp base ops l st k :=
 let ⟨st', h1, h2⟩ := hk
 ⟨st', Ke i h h1, h2⟩
theorem kQ {o : Oper} {l : List Oper} {st st1 : St} {k : St → Prop} (h : HS P T kp base ops o st st1) (ht : jG P T kp base ops l st1 k) : jG P T kp base ops (o :: l) st k :=
 let ⟨st', h1, h2⟩ := ht
 ⟨st', .cons h h1, h2⟩
theorem au {o : Oper} {l : List Oper} {st : St} {k : St → Prop} {r : A} {c : Call} {x : Operand} {f : FuncId} {ids : List Nat} {args : List A} {d : Nat} (h : fE ops o st.s = some true) (hop : o.op = .call c) (hc : c.callee = .value x) (hx : ev st.s x = .fn f ids) (hd : o.dst = some d) (hb : ∀ j ∈ ids, ∃ ty cells, st.m j = some (.box ty cells))
 (ha : Cvs st.m (c.args.toList.map (ev st.s) ++ ids.map (A.ptr · 0)) args) (hk : COk P f args st.m r) (ht : jG P T kp base ops l ⟨upd st.s d r, st.m⟩ k) : jG P T kp base ops (o :: l) st k := by
 refine kQ (st1 := ⟨upd st.s d r, st.m⟩) ?_ ht
 have := HS.val (P := P) (T := T) (base := base) (ops := ops) (o := o) (kp := kp) (HV.call h hop hc hx hb ha hk)
 rw [hd] at this
 exact this
theorem tH {o : Oper} {l : List Oper} {st : St} {k : St → Prop} {r : A} {c : Call} {x : Operand} {f : FuncId} {caps : List (List C)} {args : List A} {d : Nat} (h : fE ops o st.s = some true) (hop : o.op = .call c) (hc : c.callee = .value x) (hx : ev st.s x = .fnR f caps) (hd : o.dst = some d)
 (ha : Cvs st.m (c.args.toList.map (ev st.s) ++ caps.map A.rptr) args) (hk : COk P f args st.m r) (ht : jG P T kp base ops l ⟨upd st.s d r, st.m⟩ k) : jG P T kp base ops (o :: l) st k := by
 refine kQ (st1 := ⟨upd st.s d r, st.m⟩) ?_ ht
 have := HS.val (P := P) (T := T) (base := base) (ops := ops) (o := o) (kp := kp) (HV.callF h hop hc hx ha hk)
 rw [hd] at this
 exact this
theorem bg {o : Oper} {l : List Oper} {st : St} {k : St → Prop} {r : A} {c : Call} {x : Operand} {f : FuncId} {ids : List Nat} {args : List A} {d : Nat} (h : fE ops o st.s = some true) (hop : o.op = .call c) (hc : c.callee = .value x) (hx : ev st.s x = .fn f ids) (hd : o.dst = some d) (hb : ∀ j ∈ ids, ∃ ty cells, st.m j = some (.box ty cells))
 (ha : Bl st.m (c.args.toList.map (ev st.s) ++ ids.map (A.ptr · 0)) args) (hi : args.all (fun a => a.ids.isEmpty) = true) (hf : Nu r = true) (hk : ∀ m, COk P f args m r) (ht : jG P T kp base ops l ⟨upd st.s d r, st.m⟩ k) : jG P T kp base ops (o :: l) st k := by
 refine kQ (st1 := ⟨upd st.s d r, st.m⟩) ?_ ht
 have := HS.val (P := P) (T := T) (base := base) (ops := ops) (o := o) (kp := kp) (HV.callR h hop hc hx hb ha (fun a ha => by have := List.all_eq_true.1 hi a ha; simpa using this) hf hk)
 rw [hd] at this
 exact this
theorem aJ {o : Oper} {l : List Oper} {st : St} {k : St → Prop} {r : A} {c : Call} {x : Operand} {f : FuncId} {ids : List Nat} {args : List A} {D : List Nat} {M' : Mem} (h : fE ops o st.s = some true) (hop : o.op = .call c) (hc : c.callee = .value x) (hbar : kind T o.op = .barrier) (hx : ev st.s x = .fn f ids) (hkp : ∀ j ∈ D, ¬ kp j) (hb : ∀ j ∈ ids, ∃ ty cells, st.m j = some (.box ty cells))
 (ha : Cvs st.m (c.args.toList.map (ev st.s) ++ ids.map (A.ptr · 0)) args) (hk : gU P f args st.m D r M') (ht : jG P T kp base ops l ⟨dw (bQ D st.s) o.dst r, M'⟩ k) : jG P T kp base ops (o :: l) st k :=
 kQ (.eff (FP hkp hbar h hop hc hx hb ha hk)) ht
theorem jW {o : Oper} {l : List Oper} {st : St} {k : St → Prop} {r : A} {c : Call} {x : Operand} {f : FuncId} {ids : List Nat} {args : List A} {M' : Mem} {d : Nat} (h : fE ops o st.s = some true) (hop : o.op = .call c) (hc : c.callee = .value x) (hbar : kind T o.op = .barrier) (hx : ev st.s x = .fn f ids) (hd : o.dst = some d) (hb : ∀ j ∈ ids, ∃ ty cells, st.m j = some (.box ty cells))
 (ha : Cvs st.m (c.args.toList.map (ev st.s) ++ ids.map (A.ptr · 0)) args) (hk : gU P f args st.m [] r M') (ht : jG P T kp base ops l ⟨upd st.s d r, M'⟩ k) : jG P T kp base ops (o :: l) st k :=
 aJ (D := []) h hop hc hbar hx (fun j hj => by simp at hj) hb ha hk (by rw [hd]; exact ht)
theorem Ci {n b : Nat} (h : n * b ≤ 140737488355328) (h0 : 0 < b) : n ≤ maxLen := by
 have : n * 1 ≤ n * b := Nat.mul_le_mul_left _ h0
 unfold maxLen; omega
theorem DL (hT : T.Ok P) {o : Oper} {l : List Oper} {st : St} {k : St → Prop} {c : Call} {x y : Operand} {t d : Nat} (id : Nat) {e n b : Nat} (fz : Bool) {zs : List Value} {xs ys : List (List C)} (h : fE ops o st.s = some true) (hop : o.op = .call c) (hc : c.callee = .builtin .append) (ha : c.args = #[x, y]) (ht : c.argTypes = #[t, t]) (hd : o.dst = some d)
 (hx : ev st.s x = .own id) (hm : st.m id = some (jd fz e n xs)) (hy : asC st.m (ev st.s y) = some (.sl ys)) (h1 : T.elem t = some (e, n)) (h2 : T.bytes e = some b) (h3 : T.zero e = some zs) (h4 : zs.length = n) (hkp : ¬ kp id) (hl : ∀ z ∈ ys, z.length = n) (hb : (xs.length + ys.length) * b ≤ 140737488355328) (hb0 : 0 < b)
 (ht2 : jG P T kp base ops l ⟨upd (gD id st.s) d (.own id), upd (eH id st.m) id (some (jd fz e n (xs ++ ys)))⟩ k) : jG P T kp base ops (o :: l) st k :=
 kQ (.eff (AU hT hkp ⟨h, hop, hc, ha, ht, hd, hx, hm, hy, h1, h2, h3, h4, hl, hb, Ci hb hb0⟩)) ht2
theorem fu (hT : T.Ok P) {o : Oper} {l : List Oper} {st : St} {k : St → Prop} {c : Call} {x y : Operand} {t d : Nat} (id : Nat) {e n b : Nat} {zs : List Value} {xs ys : List (List C)} (h : fE ops o st.s = some true) (hop : o.op = .call c) (hc : c.callee = .builtin .append) (ha : c.args = #[x, y]) (ht : c.argTypes = #[t, t]) (hd : o.dst = some d)
 (hx : ev st.s x = .own id) (hm : st.m id = some (.arr e n xs)) (hy : asC st.m (ev st.s y) = some (.sl ys)) (h1 : T.elem t = some (e, n)) (h2 : T.bytes e = some b) (h3 : T.zero e = some zs) (h4 : zs.length = n) (hkp : ¬ kp id) (hl : ∀ z ∈ ys, z.length = n) (hb : (xs.length + ys.length) * b ≤ 140737488355328) (hb0 : 0 < b)
 (ht2 : jG P T kp base ops l ⟨upd (gD id st.s) d (.own id), upd (eH id st.m) id (some (.arr e n (xs ++ ys)))⟩ k) : jG P T kp base ops (o :: l) st k :=
 DL hT id true h hop hc ha ht hd hx hm hy h1 h2 h3 h4 hkp hl hb hb0 ht2
theorem W.ak {R : Ref} {n : Nat} {ds : List Deferred} {st : St} {K : Exit → St → Prop} (hT : T.Ok P) (base : Nat) {id : Nat} (hd : jM n ops = true) (h : jG P T R.keep base ops ops.toList st (K .normal)) : W P R n ds st (.region id ops false) K :=
 let ⟨_, h1, h2⟩ := h
 W.region hT base hd h1 h2
theorem W.bM {R : Ref} {n : Nat} {ds : List Deferred} {st : St} {K : Exit → St → Prop} (hT : T.Ok P) (base : Nat) {id : Nat} (hm : P.follows .mixedOrders = true) (hok : qO T ops = true) (hd : jM n ops = true) (h : jG P T R.keep base ops ops.toList st (K .normal)) : W P R n ds st (.region id ops true) K :=
 let ⟨_, h1, h2⟩ := h
 W.DC hT base hm hok hd h1 h2
theorem W.newRow {R : Ref} {n : Nat} {ds : List Deferred} {st : St} {c : Code} {K : Exit → St → Prop} (fz : Bool) (t id ty e : Nat) (ht : st.s t = .nil) (hid : st.m id = none) (h : W P R n ds ⟨upd st.s t (.own id), upd st.m id (some (jd fz ty e []))⟩ c K) : W P R n ds st c K := by
 intro a w hr
 refine h a w ?_
 obtain ⟨⟨B, I, hm, hx0, hkp, hs⟩, h2, h3, hnn, h4, h5⟩ := hr
 have hne : ∀ j, (st.m j).isSome = true → j ≠ id := fun j hj e' => by subst e'; rw [hid] at hj; cases hj
 have hB : ∀ j, (st.m j).isSome = true → upd B id (.slice none 0 0) j = B j := fun j hj => upd_ne _ _ (hne j hj)
 have liv : ∀ j, (st.m j).isSome = true → (upd st.m id (some (jd fz ty e [])) j).isSome = true := fun j hj => by rw [upd_ne _ _ (hne j hj)]; exact hj
 have other : ∀ {j : Nat} {z : O}, upd st.m id (some (jd fz ty e [])) j = some z → (j = id ∧ z = jd fz ty e []) ∨ (j ≠ id ∧ st.m j = some z) := fun {j z} hz => by
  unfold upd at hz
  split at hz
  ·rename_i e'; exact .inl ⟨e', (Option.some.inj hz).symm⟩
  ·rename_i e'; exact .inr ⟨e', hz⟩
 have nofoot : ∀ {k : Nat}, ¬ foot (upd B id (.slice none 0 0)) id (jd fz ty e []) k := fun {k} hk => by cases fz <;> simp [jd, foot, upd_same, Value.ownBlock] at hk
 have live : ∀ {j : Nat} {z : O}, st.m j = some z → (st.m j).isSome = true := fun {j z} hj => by simp [hj]
 refine ⟨⟨upd B id (.slice none 0 0), I, ⟨hm.below, hm.glob, hm.base, hm.old, hm.there, fun j z hz => ?_, fun j z hz k hk => ?_, fun j z j' z' hz hz' hne' k hk hk' => ?_, fun j z hz i hi => ?_⟩, hx0, fun j hj => (hB j (h5 j hj)).trans (hkp j hj), fun u => ?_⟩, fun u j hj => ?_, h3, hnn, ?_, fun j hj => liv j (h5 j hj)⟩
 ·rcases other hz with ⟨rfl, rfl⟩ | ⟨hj, ho⟩
  ·cases fz with
   | true => exact ⟨[], by rw [upd_same]; exact World.ownsRow_nil w 0 ty e, trivial, fun x hx => by simp at hx, fun b hb => by simp [upd_same, Value.ownBlock] at hb⟩
   | false => exact ⟨[], by rw [upd_same]; exact ⟨by simp, .inl ⟨rfl, rfl⟩⟩, trivial, fun x hx => by simp at hx, fun b hb => by simp [upd_same, Value.ownBlock] at hb⟩
  ·exact RO.mono (Ext.refl _ _) (hB j (live ho)) (fun i hi => hB i (hm.live j z ho i hi)) (fun _ _ => rfl) (fun _ _ _ hp => hp) (hm.objs j z ho)
 ·rcases other hz with ⟨rfl, rfl⟩ | ⟨hj, ho⟩
  ·exact absurd hk nofoot
  ·exact hm.low j z ho k ((kX (hB j (live ho))).1 hk)
 ·rcases other hz with ⟨rfl, rfl⟩ | ⟨hj, ho⟩
  ·exact nofoot hk
  ·rcases other hz' with ⟨rfl, rfl⟩ | ⟨hj', ho'⟩
   ·exact nofoot hk'
   ·exact hm.apart j z j' z' ho ho' hne' k ((kX (hB j (live ho))).1 hk) ((kX (hB j' (live ho'))).1 hk')
 ·rcases other hz with ⟨rfl, rfl⟩ | ⟨hj, ho⟩
  ·cases fz <;> simp [jd, O.ids] at hi
  ·exact liv i (hm.live j z ho i hi)
 ·show RV _ _ _ (upd st.s t (A.own id) u) _
  by_cases hu : u = t
  ·subst hu
   rw [upd_same]
   have := hs u
   rw [ht] at this
   exact ⟨this.trans (upd_same ..).symm, none, 0, 0, this⟩
  ·rw [upd_ne _ _ hu]
   exact (hs u).mono (Ext.refl _ _) fun j hj => hB j (h2 u j hj)
 ·replace hj : j ∈ (upd st.s t (A.own id) u).ids := hj
  show (upd st.m id (some (jd fz ty e [])) j).isSome = true
  by_cases hu : u = t
  ·subst hu
   rw [upd_same] at hj
   simp [A.ids] at hj
   subst hj
   simp [upd_same]
  ·rw [upd_ne _ _ hu] at hj
   exact liv j (h2 u j hj)
 ·show _ = dfs (upd st.s t (A.own id) DID) ++ ds
  by_cases hu : DID = t
  ·have : dfs (st.s DID) = [] := by rw [hu, ht]; rfl
   rw [h4, this, hu, upd_same]; rfl
  ·rw [upd_ne _ _ hu]; exact h4
theorem MR.K4 {w0 w : World} {I0 I : Nat → Nat → Prop} {B : Nat → Value} {m : Mem} (hm : MR w0 I0 B I m w) {id : Nat} (hid : m id = none) (fz : Bool) (ty e : Nat) : MR w0 I0 (upd B id (.slice none 0 0)) I (upd m id (some (jd fz ty e []))) w := by
 have hne : ∀ j, (m j).isSome = true → j ≠ id := fun j hj e' => by subst e'; rw [hid] at hj; cases hj
 have hB : ∀ j, (m j).isSome = true → upd B id (.slice none 0 0) j = B j := fun j hj => upd_ne _ _ (hne j hj)
 have liv : ∀ j, (m j).isSome = true → (upd m id (some (jd fz ty e [])) j).isSome = true := fun j hj => by rw [upd_ne _ _ (hne j hj)]; exact hj
 have other : ∀ {j : Nat} {z : O}, upd m id (some (jd fz ty e [])) j = some z → (j = id ∧ z = jd fz ty e []) ∨ (j ≠ id ∧ m j = some z) := fun {j z} hz => by
  unfold upd at hz
  split at hz
  ·rename_i e'; exact .inl ⟨e', (Option.some.inj hz).symm⟩
  ·rename_i e'; exact .inr ⟨e', hz⟩
 have nofoot : ∀ {k : Nat}, ¬ foot (upd B id (.slice none 0 0)) id (jd fz ty e []) k := fun {k} hk => by cases fz <;> simp [jd, foot, upd_same, Value.ownBlock] at hk
 have live : ∀ {j : Nat} {z : O}, m j = some z → (m j).isSome = true := fun {j z} hj => by simp [hj]
 refine ⟨hm.below, hm.glob, hm.base, hm.old, hm.there, fun j z hz => ?_, fun j z hz k hk => ?_, fun j z j' z' hz hz' hne' k hk hk' => ?_, fun j z hz i hi => ?_⟩
 ·rcases other hz with ⟨rfl, rfl⟩ | ⟨hj, ho⟩
  ·cases fz with
   | true => exact ⟨[], by rw [upd_same]; exact World.ownsRow_nil w 0 ty e, trivial, fun x hx => by simp at hx, fun b hb => by simp [upd_same, Value.ownBlock] at hb⟩
   | false => exact ⟨[], by rw [upd_same]; exact ⟨by simp, .inl ⟨rfl, rfl⟩⟩, trivial, fun x hx => by simp at hx, fun b hb => by simp [upd_same, Value.ownBlock] at hb⟩
  ·exact RO.mono (Ext.refl _ _) (hB j (live ho)) (fun i hi => hB i (hm.live j z ho i hi)) (fun _ _ => rfl) (fun _ _ _ hp => hp) (hm.objs j z ho)
 ·rcases other hz with ⟨rfl, rfl⟩ | ⟨hj, ho⟩
  ·exact absurd hk nofoot
  ·exact hm.low j z ho k ((kX (hB j (live ho))).1 hk)
 ·rcases other hz with ⟨rfl, rfl⟩ | ⟨hj, ho⟩
  ·exact nofoot hk
  ·rcases other hz' with ⟨rfl, rfl⟩ | ⟨hj', ho'⟩
   ·exact nofoot hk'
   ·exact hm.apart j z j' z' ho ho' hne' k ((kX (hB j (live ho))).1 hk) ((kX (hB j' (live ho'))).1 hk')
 ·rcases other hz with ⟨rfl, rfl⟩ | ⟨hj, ho⟩
  ·cases fz <;> simp [jd, O.ids] at hi
  ·exact liv i (hm.live j z ho i hi)
theorem W.oO {R : Ref} {n : Nat} {ds : List Deferred} {st : St} {c : Code} {K : Exit → St → Prop} (fz : Bool) (j k id ty e : Nat) {tyb : TypeId} {cells : List A} (hj : st.m j = some (.box tyb cells)) (hk : cells[k]? = some .nil) (hid : st.m id = none)
 (h : W P R n ds ⟨st.s, upd (upd st.m id (some (jd fz ty e []))) j (some (.box tyb (cells.set k (.own id))))⟩ c K) : W P R n ds st c K := by
 intro a w hr
 refine h a w ?_
 obtain ⟨⟨B, I, hm, hx0, hkp, hs⟩, h2, h3, hnn, h4, h5⟩ := hr
 have hne : ∀ i, (st.m i).isSome = true → i ≠ id := fun i hi e' => by subst e'; rw [hid] at hi; cases hi
 have hB : ∀ i, (st.m i).isSome = true → upd B id (.slice none 0 0) i = B i := fun i hi => upd_ne _ _ (hne i hi)
 have hm1 := hm.K4 hid fz ty e
 have hj1 : upd st.m id (some (jd fz ty e [])) j = some (.box tyb cells) := by rw [upd_ne _ _ (hne j (by simp [hj]))]; exact hj
 obtain ⟨b, vs, e1, e2, e3, e4⟩ := hm1.objs j _ hj1
 have liv : ∀ i, (st.m i).isSome = true → (upd (upd st.m id (some (jd fz ty e []))) j (some (.box tyb (cells.set k (.own id)))) i).isSome = true := fun i hi => by
  unfold upd; split
  ·rfl
  ·split
   ·rfl
   ·exact hi
 have hm2 := hm1.turn (o' := .box tyb (cells.set k (.own id))) hj1 ⟨0, e1⟩ (fun q hq => by obtain ⟨off, hq⟩ := hq; rw [e1] at hq; cases hq; rfl) e4 rfl rfl rfl rfl (fun _ _ => rfl) (fun i hi => by
  obtain ⟨a', ha', hi'⟩ := List.mem_flatMap.1 hi
  rcases List.mem_or_eq_of_mem_set ha' with ha' | rfl
  ·exact hm1.live j _ hj1 i (List.mem_flatMap.2 ⟨a', ha', hi'⟩)
  ·simp [A.ids] at hi'; subst hi'; rw [upd_same]; rfl) (fun _ => by
  refine ⟨b, vs, e1, e2, ?_, e4⟩
  have hl := e3.length
  refine RVs.of Jj fun q a' v' ha' hv' => ?_
  rw [List.getElem?_set] at ha'
  split at ha'
  ·rename_i hq
   subst hq
   split at ha'
   ·cases ha'
    obtain ⟨v2, q1, q2, q3⟩ := e3.at k _ hk
    rw [hv'] at q1; cases q1
    have hv : v' = .slice none 0 0 := q2
    exact ⟨⟨hv.trans (upd_same ..).symm, none, 0, 0, hv⟩, q3⟩
   ·cases ha'
  ·obtain ⟨v2, q1, q2, q3⟩ := e3.at q _ ha'
   rw [hv'] at q1; cases q1
   exact ⟨q2, q3⟩)
 exact ⟨⟨_, I, hm2.1, hx0, fun i hi => (hB i (h5 i hi)).trans (hkp i hi), fun t => (hs t).mono (Ext.refl _ _) fun i hi => hB i (h2 t i hi)⟩, fun t i hi => liv i (h2 t i hi), h3, hnn, h4, fun i hi => liv i (h5 i hi)⟩
theorem W.Ap {R : Ref} {n : Nat} {ds : List Deferred} {st : St} {c : Code} {K : Exit → St → Prop} (t id ty e : Nat) (ht : st.s t = .nil) (hid : st.m id = none) (h : W P R n ds ⟨upd st.s t (.own id), upd st.m id (some (.arr ty e []))⟩ c K) : W P R n ds st c K := W.newRow true t id ty e ht hid h
end
theorem KC (a b : Bool) : (some a == some b) = (a == b) := rfl
theorem TI (b : Bool) : (b == true) = b := by cases b <;> rfl
theorem TB (b : Bool) : (b == false) = !b := by cases b <;> rfl
theorem JO (b : Bool) : ((none : Option Bool) == some b) = false := rfl
theorem iN : (⟨#[]⟩ : ByteArray).toList = [] := by
 unfold ByteArray.toList ByteArray.toList.loop
 rfl
theorem uV (j : Nat) : (((j + 1 : Nat) : Int) - 1) = (j : Int) := by omega
theorem av {α : Type} (f : Nat → α) (t : Nat) (x : α) (u : Nat) : upd f t x u = if u = t then x else f u := rfl
theorem aN (a : A) (l : List A) : entry (a :: l) 0 = a := rfl
theorem aO (a : A) (l : List A) (n : Nat) : entry (a :: l) (n + 1) = entry l n := rfl
theorem JE (n : Nat) : entry [] n = .undef := by simp [entry]
theorem iR {m : Mem} : Cvs m [] [] := trivial
theorem bZ {m : Mem} {a a' : A} {l l' : List A} (h : Cv m a a') (k : Cvs m l l') : Cvs m (a :: l) (a' :: l') := ⟨h, k⟩
theorem iA {m : Mem} {a : A} : Cv m a a := .inl rfl
theorem bf {m : Mem} : Bl m [] [] := trivial
theorem aB {m : Mem} {a a' : A} {l l' : List A} (h : CvR m a a') (k : Bl m l l') : Bl m (a :: l) (a' :: l') := ⟨h, k⟩
theorem aV {m : Mem} {a : A} : CvR m a a := .inl (.inl rfl)
theorem bX {m : Mem} {j : Nat} {ty : TypeId} {cells : List A} {xs : List C} (hj : m j = some (.box ty cells)) (hx : wT m cells = some xs) : CvR m (.ptr j 0) (.rptr xs) := .inr (.inl ⟨j, ty, cells, xs, rfl, hj, hx, rfl⟩)
theorem wR {m : Mem} {f : FuncId} {ids : List Nat} {caps : List (List C)} (h : nI m ids = some caps) : CvR m (.fn f ids) (.fnR f caps) := .inr (.inr (.inl ⟨f, ids, caps, rfl, h, rfl⟩))
theorem oD {m : Mem} {j : Nat} {ty : TypeId} {cells : List A} {xs : List C} (hj : m j = some (.box ty cells)) (hx : qD m cells = some xs) : nI m [j] = some [xs] := by simp [nI, hj, hx]
theorem NQ {m : Mem} : Cv m .nil (.c (.sl [])) := .inr (.inr ⟨_, rfl, rfl⟩)
theorem Gj {m : Mem} {id ty e : Nat} {xs : List (List C)} (h : m id = some (.arr ty e xs)) : Cv m (.own id) (.c (.sl xs)) := .inr (.inr ⟨_, by simp [asC, h], rfl⟩)
theorem qx (j : Nat) : Mem.nil j = none := rfl
theorem Om (t : Nat) : (fun _ : Nat => A.top) t = .top := rfl
def SLe (s s' : Nat → A) : Prop := ∀ t, s' t = .top ∨ s' t = s t
def MLe (m m' : Mem) : Prop := ∀ j, m' j = none ∨ m' j = m j
theorem aQ (s : Nat → A) : SLe s (fun _ => .top) := fun _ => .inl rfl
theorem aK (s : Nat → A) : SLe s s := fun _ => .inr rfl
theorem aP {s s' : Nat → A} {t : Nat} {x : A} (h : SLe s s') (hx : s t = x) : SLe s (upd s' t x) := fun u => by
 unfold upd; split
 ·rename_i e; subst e; exact .inr hx.symm
 ·exact h u
theorem aZ (m : Mem) : MLe m Mem.nil := fun _ => .inl rfl
theorem aC (m : Mem) : MLe m m := fun _ => .inr rfl
theorem aY {m m' : Mem} {j : Nat} {o : O} (h : MLe m m') (ho : m j = some o) : MLe m (upd m' j (some o)) := fun u => by
 unfold upd; split
 ·rename_i e; subst e; exact .inr ho.symm
 ·exact h u
def SWf (m : Mem) (s : Nat → A) : Prop := ∀ t, ∀ j ∈ (s t).ids, (m j).isSome = true
def MWf (m m' : Mem) : Prop := ∀ id o, m' id = some o → ∀ j ∈ o.ids, (m j).isSome = true
theorem aT (m : Mem) : SWf m (fun _ => .top) := fun _ j hj => by simp [A.ids] at hj
theorem aU {m : Mem} {s : Nat → A} {t : Nat} {x : A} (h : SWf m s) (hx : ∀ j ∈ x.ids, (m j).isSome = true) : SWf m (upd s t x) := fun u j hj => by
 unfold upd at hj; split at hj
 ·exact hx j hj
 ·exact h u j hj
theorem bY (m : Mem) : MWf m Mem.nil := fun _ _ h => absurd h (bO _)
theorem bU {m m' : Mem} {i : Nat} {o : O} (h : MWf m m') (ho : ∀ j ∈ o.ids, (m j).isSome = true) : MWf m (upd m' i (some o)) := fun id x hx j hj => by
 unfold upd at hx; split at hx
 ·cases hx; exact ho j hj
 ·exact h id x hx j hj
theorem dh {kp : Nat → Prop} {st st' : St} (h1 : SLe st.s st'.s) (h2 : MLe st.m st'.m) (h3 : SWf st'.m st'.s) (h4 : MWf st'.m st'.m) (h5 : ∀ j, kp j → (st'.m j).isSome = true) (h6 : dfs (st'.s DID) = dfs (st.s DID)) : Le kp st st' := ⟨h1, h2, ⟨h3, h4⟩, h5, h6⟩
theorem aI {kp : Nat → Prop} (h : kp = fun _ => False) {m : Mem} : ∀ j, kp j → (m j).isSome = true := fun j hj => by rw [h] at hj; exact hj.elim
theorem ku {kp : Nat → Prop} (h : kp = fun _ => False) {j : Nat} : ¬ kp j := by rw [h]; exact fun h => h
theorem q9 {k : Nat} (h : k < 9223372036854775808) : IntKind.i64.wrap (k : Int) = k := by
 have h2 : (k : Int) % 18446744073709551616 = k := by omega
 have h3 : ¬ ((k : Int) ≥ 9223372036854775808) := by omega
 simp [IntKind.wrap, IntKind.bits, IntKind.signed, h2]
 omega
theorem cB {P : Go.Program} {T : Tab} (hT : T.Ok P) {f : FuncId} {fn : Func} {c : Code} {l : List ResultVar} {args : List A} {r : A} (hf : P.funcs[f]? = some fn) (hn : (fn.name == "runtime.NumGoroutine") = false) (hb : fn.body = some c) (hl : fn.results.toList = l) (hd : args.all (fun a => a.ids.isEmpty && !(match a with | .defs _ => true | _ => false)) = true) (hr : r.ids = []) (hle : decide (args.length ≤ fn.ntmps ∧ fn.ntmps ≤ DID) = true)
 (hW : ∀ R : Ref, R.keep = (fun _ => False) → W P R fn.ntmps [] ⟨entry args, Mem.nil⟩ c (fun e st => (e = .normal ∨ e = .ret) ∧ dfs (st.s DID) = [] ∧ bE T st l = some r)) (m : Mem) : COk P f args m r :=
 ⟨enters_of hf hn hb, hr, fun m' _ => JJ hT hf hb hl (fun a ha => by have := List.all_eq_true.1 hd a ha; simp only [Bool.and_eq_true] at this; simpa using this.1) (fun a ha l e => by have := List.all_eq_true.1 hd a ha; subst e; simp at this) (of_decide_eq_true hle).1 (of_decide_eq_true hle).2 hW m'⟩
theorem aR {k : Nat} (h : k + 1 < 9223372036854775808) : IntKind.i64.wrap ((k : Int) + 1) = ((k + 1 : Nat) : Int) := by
 have := q9 h
 simpa using this
theorem BK {k : Nat} (h : k < 9223372036854775808) : IntKind.i64.wrap ((k : Int) - 1) = (k : Int) - 1 := by
 cases k with
 | zero => rfl
 | succ j => rw [uV]; exact q9 (by omega)
theorem wf_i64 {n : Int} (h1 : -9223372036854775808 ≤ n) (h2 : n ≤ 9223372036854775807) : (Lit.int .i64 n).wf = true := by
 simp [Lit.wf, IntKind.min, IntKind.max, IntKind.bits, IntKind.signed]
 omega
theorem cZ {α β : Type} {f : α → β} {l : List α} {k : Nat} {x : α} (h : l[k]? = some x) : (l.map f)[k]? = some (f x) := by simp [h]
theorem exs : (∀ (α : Type) (l : List α) (i : Nat), l.toArray[i]? = l[i]?) ∧ (∀ (α : Type) (a : α) (l : List α) (i : Nat), (a :: l)[i + 1]? = l[i]?) ∧ (∀ (α : Type) (a : α) (l : List α), (a :: l)[0]? = some a) ∧
 (∀ (α β : Type) (a : α) (f : α → Option β), (some a).bind f = f a) ∧ (∀ (α : Type) (l : List α), l.toArray.size = l.length) ∧ (∀ (α β : Type) (f : α → β) (a : α) (l : List α), (a :: l).map f = f a :: l.map f) ∧ (∀ (α β : Type) (f : α → β), ([] : List α).map f = []) ∧
 (∀ (α : Type) (l : List α), l.drop 0 = l) ∧ (∀ (α : Type) (a : α) (l : List α) (i : Nat), (a :: l).drop (i + 1) = l.drop i) ∧ (∀ (α : Type) (i : Nat), ([] : List α).drop i = []) ∧
 (∀ (α : Type) (a : α) (l : List α) (i : Nat), (a :: l).take (i + 1) = a :: l.take i) ∧ (∀ (α : Type) (l : List α), l.take 0 = []) ∧ (∀ (α : Type) (i : Nat), ([] : List α).take i = []) ∧ (∀ (α : Type) (a : α) (l : List α), (a :: l).head? = some a) ∧
 (∀ (α : Type) (a : α) (n : Nat), List.replicate (n + 1) a = a :: List.replicate n a) ∧ (∀ (α : Type) (a : α), List.replicate 0 a = []) ∧ (∀ (α : Type) (l : List α) (r : List (List α)), (l :: r).flatten = l ++ r.flatten) ∧ (∀ (α : Type), ([] : List (List α)).flatten = []) ∧
 (∀ (α : Type) (a : α) (l : List α), (a :: l).length = l.length + 1) ∧ (∀ (α : Type), ([] : List α).length = 0) ∧ (∀ (α β : Type) (f : α → β) (l : List α), (l.map f).length = l.length) ∧ (∀ (α : Type) (l : List α), [] ++ l = l) ∧ (∀ (α : Type) (a : α) (l r : List α), a :: l ++ r = a :: (l ++ r)) ∧ (∀ (α : Type) (l : List α), l ++ [] = l) ∧
 (∀ (α β : Type) (f : α → β) (a : α), (some a).map f = some (f a)) ∧ (∀ (α β : Type) (f : α → β), (none : Option α).map f = none) ∧ (∀ n : Nat, 0 * n = 0) ∧ (∀ n : Nat, 1 * n = n) ∧ (∀ n : Nat, n * 1 = n) ∧ (∀ n : Nat, 0 + n = n) ∧ (∀ n : Nat, n + 0 = n) ∧ (∀ n : Nat, (n : Int).toNat = n) ∧ (∀ n : Nat, (0 ≤ (n : Int)) = True) ∧
 (∀ p : Prop, (p ∨ True) = True) ∧ (∀ p : Prop, (True ∧ p) = p) ∧ (∀ p : Prop, (p ∧ True) = p) ∧ (∀ p : Prop, (p ∧ p) = p) ∧ (∀ (α : Type) (a b : α), (if True then a else b) = a) ∧ (∀ (α : Type) (a b : α), (if False then a else b) = b) ∧ ((!true) = false) ∧ ((!false) = true) :=
 ⟨fun _ _ _ => by simp, fun _ _ _ _ => rfl, fun _ _ _ => rfl, fun _ _ _ _ => rfl, fun _ _ => rfl, fun _ _ _ _ _ => rfl, fun _ _ _ => rfl, fun _ _ => rfl, fun _ _ _ _ => rfl, fun _ _ => by simp, fun _ _ _ _ => rfl, fun _ _ => by simp, fun _ _ => by simp, fun _ _ _ => rfl,
   fun _ _ _ => rfl, fun _ _ => rfl, fun _ _ _ => by simp, fun _ => rfl, fun _ _ _ => rfl, fun _ => rfl, fun _ _ _ _ => by simp, fun _ _ => rfl, fun _ _ _ _ => rfl, fun _ _ => by simp, fun _ _ _ _ => rfl, fun _ _ _ => rfl, fun _ => by simp, fun _ => by simp, fun _ => by simp, fun _ => by simp, fun _ => rfl, fun _ => rfl, fun _ => by simp,
   fun _ => by simp, fun _ => by simp, fun _ => by simp, fun _ => by simp, fun _ _ _ => rfl, fun _ _ _ => rfl, rfl, rfl⟩
theorem GL (place : Nat → Option (Nat × Nat)) (cells : List C) (i : Nat) (v : Option (List C)) (rest : List (Nat × Option (List C))) : oW place cells ((i, v) :: rest) = match place i, v with
 | some (o, n), some xs => if xs.length = n ∧ o + n ≤ cells.length then oW place (cells.take o ++ (xs ++ cells.drop (o + n))) rest else none
 | _, _ => none := rfl
theorem Hf (place : Nat → Option (Nat × Nat)) (cells : List A1) (i : Nat) (v : Option (List A1)) (rest : List (Nat × Option (List A1))) : qV place cells ((i, v) :: rest) = match place i, v with
 | some (o, n), some xs => if xs.length = n ∧ o + n ≤ cells.length then qV place (cells.take o ++ (xs ++ cells.drop (o + n))) rest else none
 | _, _ => none := rfl
theorem Oc (T : Tab) (ty : Nat) (a v : A) (ty0 : TypeId) (cells : List A) : stO T ty a v (.box ty0 cells) = match a, T.ty ty, gQ v with
 | .ptr _ off, some (n, _), some l => if l.length = n ∧ off + l.length ≤ cells.length then some (.box ty0 (vI cells off l)) else none
 | _, _, _ => none := rfl
theorem KT (T : Tab) (ty : Nat) (a v : A) (ty0 : TypeId) (e : Nat) (xs : List (List C)) : stO T ty a v (.mrow ty0 e xs) = match a, T.ty ty, xI v with
 | .eptr _ e' i f, some (n, _), some l => if e' = e ∧ l.length = n ∧ f + l.length ≤ e then (match xs[i]? with | some cs => some (.mrow ty0 e (xs.set i (qW cs f l))) | none => none) else none
 | _, _, _ => none := rfl
theorem LZ (T : Tab) (ty : Nat) (a v : A) (ty0 : TypeId) (xs : List A1) : stO T ty a v (.rows ty0 xs) = match a, T.ty ty, gQ v with
 | .eptr _ e i f, some (n, _), some [b] => if e = 1 ∧ n = 1 ∧ f = 0 ∧ i < xs.length then (match b.down with | some y => some (.rows ty0 (xs.set i y)) | none => none) else none
 | _, _, _ => none := rfl
set_option linter.defProp false in
def exa :=
 And.intro (And.intro (And.intro @qv2.eq_17 @qv2.eq_18) (And.intro @A.kill.eq_9 (And.intro @A.kill.eq_10 (And.intro @vO.eq_1 (And.intro @qV.eq_1 (And.intro @Hf (And.intro @GL (And.intro @Oc (And.intro @KT @LZ))))))))) (And.intro (And.intro (And.intro (And.intro (And.intro (And.intro (And.intro (And.intro @exec.eq_1 @exec.eq_2) (And.intro @Il.eq_1 @fE.eq_1)) (And.intro (And.intro @wC.eq_1 @kind.eq_1) (And.intro @kind.eq_2 @kind.eq_3))) (And.intro (And.intro (And.intro @kind.eq_4 @kind.eq_5) (And.intro @kind.eq_6 @kind.eq_7)) (And.intro (And.intro @kind.eq_8 @kind.eq_9) (And.intro @kind.eq_10 @kind.eq_11)))) (And.intro (And.intro (And.intro (And.intro @kind.eq_12 @kind.eq_13) (And.intro @kind.eq_14 @kind.eq_15)) (And.intro (And.intro @kind.eq_16 @kind.eq_17) (And.intro @kind.eq_18 @kind.eq_19))) (And.intro (And.intro (And.intro @kind.eq_20 @kind.eq_21) (And.intro @kind.eq_22 @kind.eq_23)) (And.intro (And.intro @kind.eq_24 @kind.eq_25) (And.intro @qv.eq_1 (And.intro @qv1.eq_1 @qv1.eq_2)))))) (And.intro (And.intro (And.intro (And.intro (And.intro @qv1.eq_3 @qv1.eq_4) (And.intro @qv1.eq_5 @qv1.eq_6)) (And.intro (And.intro @qv1.eq_7 @qv1.eq_8) (And.intro @qv1.eq_9 @qv1.eq_10))) (And.intro (And.intro (And.intro @qv1.eq_11 @qv1.eq_12) (And.intro @qv1.eq_13 @qv1.eq_14)) (And.intro (And.intro @qv1.eq_15 @qv1.eq_16) (And.intro @qv1.eq_17 @qv1.eq_18)))) (And.intro (And.intro (And.intro (And.intro @qv1.eq_19 @qv2.eq_1) (And.intro @qv2.eq_2 @qv2.eq_3)) (And.intro (And.intro @qv2.eq_4 @qv2.eq_5) (And.intro @qv2.eq_6 @qv2.eq_7))) (And.intro (And.intro (And.intro @qv2.eq_8 @qv2.eq_9) (And.intro @qv2.eq_10 @qv2.eq_11)) (And.intro (And.intro @qv2.eq_12 @qv2.eq_13) (And.intro @qv2.eq_14 (And.intro @qv2.eq_15 @qv2.eq_16))))))) (And.intro (And.intro (And.intro (And.intro (And.intro (And.intro @stO.eq_1 @stO.eq_2) (And.intro @stO.eq_3 @stO.eq_4)) (And.intro (And.intro @stO.eq_5 @stO.eq_6) (And.intro @stO.eq_7 @qG.eq_1))) (And.intro (And.intro (And.intro @qG.eq_2 @qG.eq_3) (And.intro @xI.eq_1 @xI.eq_2)) (And.intro (And.intro @xI.eq_3 @xI.eq_4) (And.intro @xI.eq_5 @qW.eq_1)))) (And.intro (And.intro (And.intro (And.intro @eqNil.eq_1 @eqNil.eq_2) (And.intro @eqNil.eq_3 @eqNil.eq_4)) (And.intro (And.intro @eqNil.eq_5 @eqNil.eq_6) (And.intro @eqNil.eq_7 @eqNil.eq_8))) (And.intro (And.intro (And.intro @eqNil.eq_9 @eqNil.eq_10) (And.intro @eqNil.eq_11 @eqNil.eq_12)) (And.intro (And.intro @eqNil.eq_13 @zq.eq_1) (And.intro @zq.eq_2 (And.intro @zq.eq_3 @mP.eq_1)))))) (And.intro (And.intro (And.intro (And.intro (And.intro @mP.eq_2 @mP.eq_3) (And.intro @A.down.eq_1 @A.down.eq_2)) (And.intro (And.intro @A.down.eq_3 @A.down.eq_4) (And.intro @A.down.eq_5 @A.down.eq_6))) (And.intro (And.intro (And.intro @A.down.eq_7 @A.down.eq_8) (And.intro @A.down.eq_9 @A1.up.eq_1)) (And.intro (And.intro @A1.up.eq_2 @A1.up.eq_3) (And.intro @A1.up.eq_4 @A1.up.eq_5)))) (And.intro (And.intro (And.intro (And.intro @A1.up.eq_6 @A1.up.eq_7) (And.intro @A1.up.eq_8 @oU.eq_1)) (And.intro (And.intro @oU.eq_2 @toR.eq_1) (And.intro @toR.eq_2 @ev.eq_1))) (And.intro (And.intro (And.intro @ev.eq_2 @ev.eq_3) (And.intro @ev.eq_4 @dw.eq_1)) (And.intro (And.intro @dw.eq_2 @jd.eq_1) (And.intro @ofConst.eq_1 (And.intro @ofConst.eq_2 @ofConst.eq_3)))))))) (And.intro (And.intro (And.intro (And.intro (And.intro (And.intro (And.intro @ofConst.eq_4 @ofConst.eq_5) (And.intro @ofConst.eq_6 @ofConst.eq_7)) (And.intro (And.intro @ofConst.eq_8 @ofConst.eq_9) (And.intro @gQ.eq_1 @gQ.eq_2))) (And.intro (And.intro (And.intro @gQ.eq_3 @gQ.eq_4) (And.intro @gQ.eq_5 @gQ.eq_6)) (And.intro (And.intro @gQ.eq_7 @gQ.eq_8) (And.intro @gQ.eq_9 @gQ.eq_10)))) (And.intro (And.intro (And.intro (And.intro @gQ.eq_11 @gQ.eq_12) (And.intro @jh.eq_1 @jh.eq_2)) (And.intro (And.intro @asC.eq_1 @asC.eq_2) (And.intro @asC.eq_3 @asC.eq_4))) (And.intro (And.intro (And.intro @asC.eq_5 @qD.eq_1) (And.intro @qD.eq_2 @ld.eq_1)) (And.intro (And.intro @ldR.eq_1 @ldR.eq_2) (And.intro @bin.eq_1 (And.intro @bin.eq_2 @bin.eq_3)))))) (And.intro (And.intro (And.intro (And.intro (And.intro @bin.eq_4 @bin.eq_5) (And.intro @bin.eq_6 @bin.eq_7)) (And.intro (And.intro @je.eq_1 @je.eq_2) (And.intro @je.eq_3 @je.eq_4))) (And.intro (And.intro (And.intro @je.eq_5 @je.eq_6) (And.intro @je.eq_7 @je.eq_8)) (And.intro (And.intro @je.eq_9 @je.eq_10) (And.intro @je.eq_11 @je.eq_12)))) (And.intro (And.intro (And.intro (And.intro @je.eq_13 @je.eq_14) (And.intro @je.eq_15 @je.eq_16)) (And.intro (And.intro @oo.eq_1 @oo.eq_2) (And.intro @oo.eq_3 @oo.eq_4))) (And.intro (And.intro (And.intro @oo.eq_5 @oo.eq_6) (And.intro @oo.eq_7 @oo.eq_8)) (And.intro (And.intro @uJ.eq_1 @uJ.eq_2) (And.intro @uJ.eq_3 (And.intro @yS.eq_1 @sH.eq_1))))))) (And.intro (And.intro (And.intro (And.intro (And.intro (And.intro @sH.eq_2 @sH.eq_3) (And.intro @vI.eq_1 @oW.eq_1)) (And.intro (And.intro @oW.eq_2 @oW.eq_3) (And.intro @xQ.eq_1 @chunks.eq_1))) (And.intro (And.intro (And.intro @chunks.eq_2 @jV.eq_1) (And.intro @jV.eq_2 @jV.eq_3)) (And.intro (And.intro @A.kill.eq_1 @A.kill.eq_2) (And.intro @A.kill.eq_3 @A.kill.eq_4)))) (And.intro (And.intro (And.intro (And.intro @A.kill.eq_5 @A.kill.eq_6) (And.intro @A.kill.eq_7 @A.kill.eq_8)) (And.intro (And.intro @A.kill.eq_9 @A.kill.eq_10) (And.intro @O.kill.eq_1 @O.kill.eq_2))) (And.intro (And.intro (And.intro @O.kill.eq_3 @O.kill.eq_4) (And.intro @kF.eq_1 @toKey.eq_1)) (And.intro (And.intro @toKey.eq_2 (And.intro @toKey.eq_3 @toKey.eq_4)) (And.intro (And.intro @mM.eq_1 (And.intro @Bp.eq_1 (And.intro @Bp.eq_2 (And.intro @Bp.eq_3 @nM.eq_1)))) (And.intro (And.intro @mM.eq_2 (And.intro @nM.eq_2 @nM.eq_3)) (And.intro @mM.eq_3 @mM.eq_4))))))) (And.intro (And.intro (And.intro (And.intro (And.intro @xE.eq_1 @nO.eq_1) (And.intro @uX.eq_1 @uX.eq_2)) (And.intro (And.intro @uX.eq_3 @eqT.eq_1) (And.intro @eqT.eq_2 @eqT.eq_3))) (And.intro (And.intro (And.intro @eqT.eq_4 @EB.eq_1) (And.intro @EB.eq_2 @EB.eq_3)) (And.intro (And.intro @Bw.eq_1 @Bw.eq_2) (And.intro @av (And.intro @qx @aN))))) (And.intro (And.intro (And.intro (And.intro @aO @JE) (And.intro @Om @aM)) (And.intro (And.intro @aL @wf_i64) (And.intro @decide_true @decide_false))) (And.intro (And.intro (And.intro @KC @JO) (And.intro @TI @TB)) (And.intro (And.intro @iN exs) (And.intro tabs (And.intro @vv.eq_1 @vv.eq_2)))))))))
set_option linter.defProp false in
def exb := And.intro exa (And.intro (@beq_self_eq_true.{0}) (@ByteArray.size.eq_1))
section
variable {P : Go.Program} {T : Tab} {kp : Nat → Prop} {base : Nat} {ops : Array Oper}
theorem xr0 {l : List Oper} {st st' : St} (h : exec T base ops l st = some st' := by (simp only [exb, simprocAttr]; rfl)) : RunL P T kp base ops l st st' := aG h
theorem xe0 {l : List Oper} {st st' : St} {k : St → Prop} (hk : k st') (h : exec T base ops l st = some st' := by (simp only [exb, simprocAttr]; rfl)) : jG P T kp base ops l st k := aA h hk
theorem xs0 {l : List Oper} {st st1 : St} {k : St → Prop} (i : Nat) (hk : jG P T kp base ops (l.drop i) st1 k) (h : exec T base ops (l.take i) st = some st1 := by (simp only [exb, simprocAttr]; rfl)) : jG P T kp base ops l st k := aj i h hk
theorem W.g {R : Ref} {n : Nat} {ds : List Deferred} {st st' : St} {K : Exit → St → Prop} {id : Nat} (hk : K .normal st') (h : exec tab 0 ops ops.toList st = some st' := by (simp only [exb, simprocAttr]; rfl)) (hd : jM n ops = true := by decide) : W Tryz.prog R n ds st (.region id ops false) K := W.region ah 0 hd (aG h) hk
theorem W.ct {R : Ref} {n : Nat} {ds : List Deferred} {st : St} {K : Exit → St → Prop} {c : Operand} {x y : Code} {b : Bool} (hc : ev st.s c = .c (.bool b)) (ht : W P R n ds st x K) (hn : ¬ b = false := by simp) : W P R n ds st (.cond c x y) K := W.cond hc (fun _ => ht) (fun h => absurd h hn)
theorem W.cf {R : Ref} {n : Nat} {ds : List Deferred} {st : St} {K : Exit → St → Prop} {c : Operand} {x y : Code} {b : Bool} (hc : ev st.s c = .c (.bool b)) (ht : W P R n ds st y K) (hn : ¬ b = true := by simp) : W P R n ds st (.cond c x y) K := W.cond hc (fun h => absurd h hn) (fun _ => ht)
theorem dnl {a b : Nat} (h : decide ((a : Int) < (b : Int)) = false) : ¬ a < b := by simpa using h
theorem dtl {a b : Nat} (h : decide ((a : Int) < (b : Int)) = true) : a < b := by simpa using h
theorem W.rt {p q : Prop} (h : q) (g : q → p := by (intro zh; exact W.ret ⟨.inr rfl, by rfl, zh⟩)) : p := g h
theorem W.q {Q : Prop} {R : Ref} {n : Nat} {ds : List Deferred} {st : St} {c : Code} {K : Exit → St → Prop} (h : Q) (g : Q → W Tryz.prog R n ds st c K := by (first | exact W.seq | exact W.block | exact W.skip | exact W.exit)) : W Tryz.prog R n ds st c K := g h
theorem W.go {Q : Prop} {R : Ref} {n : Nat} {ds : List Deferred} {st : St} {c : Code} {K : Exit → St → Prop} (h : Q) (g : Q → W Tryz.prog R n ds st c K := by (intro h; (repeat (first | refine W.seq ?_ | refine W.g ?_ | refine W.block ?_ | refine W.skip ?_ | refine W.exit ?_)); exact h)) : W Tryz.prog R n ds st c K := g h
theorem W.bl {Q : Prop} {R : Ref} {n : Nat} {ds : List Deferred} {st : St} {c : Code} {K : Exit → St → Prop} (h : Q) (g : Q → W Tryz.prog R n ds st c K := by (intro h; (repeat (first | refine W.seq ?_ | refine W.block ?_ | refine W.skip ?_)); exact h)) : W Tryz.prog R n ds st c K := g h
theorem cw1 {m : Mem} {a : A} : Cvs m [a] [a] := bZ iA iR
theorem cw2 {m : Mem} {a b : A} : Cvs m [a, b] [a, b] := bZ iA cw1
theorem cw3 {m : Mem} {a b c : A} : Cvs m [a, b, c] [a, b, c] := bZ iA cw2
theorem cw4 {m : Mem} {a b c d : A} : Cvs m [a, b, c, d] [a, b, c, d] := bZ iA cw3
theorem cw5 {m : Mem} {a b c d e : A} : Cvs m [a, b, c, d, e] [a, b, c, d, e] := bZ iA cw4
theorem cw6 {m : Mem} {a b c d e f : A} : Cvs m [a, b, c, d, e, f] [a, b, c, d, e, f] := bZ iA cw5
theorem nA {kp : Nat → Prop} {st st' : St} (h5 : ∀ j, kp j → (st'.m j).isSome = true) (h1 : SLe st.s st'.s := by (repeat (first | exact aQ _ | exact aK _ | refine aP ?_ (by first | rfl | (simp only [av, aN, aO, Nat.reduceEqDiff, reduceIte]; done))))) (h2 : MLe st.m st'.m := by (repeat (first | exact aZ _ | exact aC _ | refine aY ?_ (by first | rfl | (simp only [av, aL, Nat.reduceEqDiff, reduceIte]; done))))) (h3 : SWf st'.m st'.s := by (repeat (first | exact aT _ | refine aU ?_ (by simp [A.ids, av])))) (h4 : MWf st'.m st'.m := by (repeat (first | exact bY _ | refine bU ?_ (by simp [A.ids, O.ids, av])))) (h6 : dfs (st'.s DID) = dfs (st.s DID) := by rfl) : Le kp st st' := dh h1 h2 h3 h4 h5 h6
theorem oF {kp : Nat → Prop} {st st' : St} (h5 : ∀ j, kp j → (st'.m j).isSome = true) (h1 : SLe st.s st'.s := by (repeat (first | exact aQ _ | exact aK _ | refine aP ?_ (by first | rfl | (simp only [av, aN, aO, Nat.reduceEqDiff, reduceIte, aR (show k + 1 < 9223372036854775808 by omega)]; done))))) (h2 : MLe st.m st'.m := by (repeat (first | exact aZ _ | exact aC _ | refine aY ?_ (by first | rfl | (simp only [av, aL, Nat.reduceEqDiff, reduceIte, aR (show k + 1 < 9223372036854775808 by omega)]; done))))) (h3 : SWf st'.m st'.s := by (repeat (first | exact aT _ | refine aU ?_ (by simp [A.ids, av])))) (h4 : MWf st'.m st'.m := by (repeat (first | exact bY _ | refine bU ?_ (by simp [A.ids, O.ids, av])))) (h6 : dfs (st'.s DID) = dfs (st.s DID) := by rfl) : Le kp st st' := dh h1 h2 h3 h4 h5 h6
theorem Al {kp : Nat → Prop} {st st' : St} (h5 : ∀ j, kp j → (st'.m j).isSome = true) (h1 : SLe st.s st'.s := by (repeat (first | exact aQ _ | exact aK _ | refine aP ?_ (by first | rfl | (simp only [av, aN, aO, Nat.reduceEqDiff, reduceIte, aR (show j + 1 < 9223372036854775808 by omega)]; done))))) (h2 : MLe st.m st'.m := by (repeat (first | exact aZ _ | exact aC _ | refine aY ?_ (by first | rfl | (simp only [av, aL, Nat.reduceEqDiff, reduceIte, aR (show j + 1 < 9223372036854775808 by omega)]; done))))) (h3 : SWf st'.m st'.s := by (repeat (first | exact aT _ | refine aU ?_ (by simp [A.ids, av])))) (h4 : MWf st'.m st'.m := by (repeat (first | exact bY _ | refine bU ?_ (by simp [A.ids, O.ids, av])))) (h6 : dfs (st'.s DID) = dfs (st.s DID) := by rfl) : Le kp st st' := dh h1 h2 h3 h4 h5 h6
theorem TK {kp : Nat → Prop} {st st' : St} (h5 : ∀ j, kp j → (st'.m j).isSome = true) (h1 : SLe st.s st'.s := by (repeat (first | exact aQ _ | exact aK _ | refine aP ?_ (by first | rfl | (simp only [av, aN, aO, Nat.reduceEqDiff, reduceIte, aR (show i + 1 < 9223372036854775808 by omega)]; done))))) (h2 : MLe st.m st'.m := by (repeat (first | exact aZ _ | exact aC _ | refine aY ?_ (by first | rfl | (simp only [av, aL, Nat.reduceEqDiff, reduceIte, aR (show i + 1 < 9223372036854775808 by omega)]; done))))) (h3 : SWf st'.m st'.s := by (repeat (first | exact aT _ | refine aU ?_ (by simp [A.ids, av])))) (h4 : MWf st'.m st'.m := by (repeat (first | exact bY _ | refine bU ?_ (by simp [A.ids, O.ids, av])))) (h6 : dfs (st'.s DID) = dfs (st.s DID) := by rfl) : Le kp st st' := dh h1 h2 h3 h4 h5 h6
theorem nK {kp : Nat → Prop} {st st' : St} (h1 : SLe st.s st'.s) (h2 : MLe st.m st'.m) (h5 : ∀ j, kp j → (st'.m j).isSome = true) (h3 : SWf st'.m st'.s := by (repeat (first | exact aT _ | refine aU ?_ (by simp [A.ids, av])))) (h4 : MWf st'.m st'.m := by (repeat (first | exact bY _ | refine bU ?_ (by simp [A.ids, O.ids, av])))) (h6 : dfs (st'.s DID) = dfs (st.s DID) := by rfl) : Le kp st st' := dh h1 h2 h3 h4 h5 h6
end
def bC (s : Slot) : List C := [.str s.type, .str s.name]
mutual
def cExpr : Expr → List C
 | ⟨k, n, nm, kids⟩ => [.int .i64 k, .int .i64 n, .str nm, .sl (fB kids)]
def fB : List Expr → List (List C)
 | [] => []
 | x :: l => cExpr x :: fB l
end
mutual
def dx : Stmt → List C
 | ⟨k, n, ty, nm, es, th, el⟩ => [.int .i64 k, .int .i64 n, .str ty, .str nm, .sl (fB es), .sl (bJ th), .sl (bJ el)]
def bJ : List Stmt → List (List C)
 | [] => []
 | x :: l => dx x :: bJ l
end
def aS (m : Method) : List C := [.str m.type, .str m.name, .sl (m.params.map bC), .sl (bJ m.body)]
def ay (c : Class) : List C := [.str c.name, .str c.super, .sl (c.fields.map bC), .sl (c.methods.map aS)]
def dz (p : Program) : List C := [.sl (p.classes.map ay), .sl (bJ p.main)]
theorem eZ (l : List Expr) : fB l = l.map cExpr := by induction l with | nil => rfl | cons x l ih => simp [fB, ih]
theorem dO (l : List Stmt) : bJ l = l.map dx := by induction l with | nil => rfl | cons x l ih => simp [bJ, ih]
def dU (name : ByteArray) (c : Class) : Bool := c.name.toList == name.toList
def eU (cs : List Class) (name : ByteArray) : Class := (cs.find? (dU name)).getD ⟨⟨#[]⟩, ⟨#[]⟩, [], []⟩
def wh (cs : List Class) (name : ByteArray) : List C := ay (eU cs name)
theorem rH {α : Type} {p : α → Bool} {l : List α} {k : Nat} {x : α} (h : (l.take k).find? p = none) (hx : l[k]? = some x) : (p x = true → l.find? p = some x) ∧ (p x = false → (l.take (k + 1)).find? p = none) := by
 constructor
 ·intro hp
  have e : l = l.take k ++ (x :: l.drop (k + 1)) := by
   rw [← drop_of_getElem? hx, List.take_append_drop]
  rw [e, List.find?_append, h]
  simp [hp]
 ·intro hp
  rw [List.take_add_one, hx, List.find?_append, h]
  simp [hp]
theorem find_ok (cs : List Class) (mn : C) (name : ByteArray) (hlen : cs.length ≤ 1000000000000) (m : Mem) : COk Tryz.prog 46 [.agg [.sl (cs.map ay), mn], .c (.str name)] m (.tup [(true, wh cs name), (false, [.bool (cs.find? (dU name)).isSome])]) := by
 refine (cB ah Tryz.func46 (by kernel_rfl) rfl rfl (by rfl) (by rfl) (by rfl) (fun R hkeep => ?_) m)
 refine W.go ?_
 refine W.loop (ι := Nat) (fun k => ⟨upd (upd (upd (upd (upd (fun _ => .top) 1 (.c (.str name))) 4 (.ptr 4 0)) 9 (.c (.sl (cs.map ay)))) 10 (.c (.int .i64 cs.length))) 11 (.c (.int .i64 k)), 
  upd Mem.nil 4 (some (.box 42 [.c (.str ⟨#[]⟩), .c (.str ⟨#[]⟩), .nil, .nil]))⟩) (fun k => k ≤ cs.length ∧ (cs.take k).find? (dU name) = none) (fun k => cs.length - k) 0 ?start ⟨Nat.zero_le _, rfl⟩ ?round
 case start =>
  exact nA (aI hkeep)
 case round =>
  rintro k ⟨hk, hall⟩
  refine W.go ?_
  refine W.cond rfl ?_ ?_
  ·intro hlt
   replace hlt := dtl hlt
   obtain ⟨x, hx⟩ : ∃ x, cs[k]? = some x := ⟨_, List.getElem?_eq_getElem hlt⟩
   repeat (first | refine W.q ?_ | refine W.g ?_ QX)
   refine W.cond rfl ?_ ?_
   ·intro heq
    refine W.go ?_
    refine W.rt ?_
    simp only [Tryz.f46, bE, aD, toT, fin, exb, simprocAttr]
    simp [(rH hall hx).1 heq, wh, eU, ay]
   ·intro hne
    refine W.go ?_
    refine ⟨k + 1, ⟨hlt, (rH hall hx).2 hne⟩, by omega, ?_⟩
    exact oF (aI hkeep)
  ·intro hge
   replace hge := dnl hge
   obtain rfl : k = cs.length := by omega
   rw [List.take_length] at hall
   refine W.go ?_
   refine W.rt ?_
   simp only [Tryz.f46, bE, aD, toT, fin, exb, simprocAttr]
   simp [hall, wh, eU, ay]
def gV (cs : List Class) : Nat → ByteArray → List ByteArray
 | 0, _ => []
 | k + 1, name => match cs.find? (dU name) with
   | none => []
   | some c => name :: gV cs k c.super
def cStr (s : ByteArray) : List C := [.str s]
theorem MI (cs : List Class) (mn : C) (name : ByteArray) (hlen : cs.length ≤ 1000000000) (m : Mem) : COk Tryz.prog 19 [.agg [.sl (cs.map ay), mn], .c (.str name)] m (.c (.sl ((gV cs (cs.length + 1) name).map cStr))) := by
 refine (cB ah Tryz.func19 (by kernel_rfl) rfl rfl (by rfl) (by rfl) (by rfl) (fun R hkeep => ?_) m)
 repeat (first | refine W.q ?_ | refine W.g ?_ (by simp only [exb, simprocAttr, aR (show cs.length + 1 < 9223372036854775808 by omega)]; rfl))
 refine W.Ap 5 5 9 1 rfl rfl ?_
 refine W.loop (ι := Nat × ByteArray × List ByteArray) (fun i => ⟨upd (upd (upd (upd (upd (fun _ => .top) 1 (.c (.str i.2.1))) 2 (.ptr 2 0)) 5 (.own 5)) 11 (.c (.int .i64 ((cs.length + 1 : Nat) : Int)))) 12 (.c (.int .i64 i.1)), 
  upd (upd Mem.nil 2 (some (.box 25 [.c (.sl (cs.map ay)), .c mn]))) 5 (some (.arr 9 1 (i.2.2.map cStr)))⟩) (fun i => i.1 ≤ cs.length + 1 ∧ i.2.2.length = i.1 ∧ gV cs (cs.length + 1) name = i.2.2 ++ gV cs (cs.length + 1 - i.1) i.2.1) (fun i => cs.length + 1 - i.1) (0, name, []) ?start ⟨Nat.zero_le _, rfl, rfl⟩ ?round
 case start =>
  exact nA (aI hkeep)
 case round =>
  rintro ⟨k, nm, acc⟩ ⟨hk, hl, hall⟩
  dsimp only at hk hl hall ⊢
  refine W.go ?_
  refine W.cond rfl ?_ ?_
  ·intro hlt
   replace hlt := dtl hlt
   refine W.go ?_
   cases hf : cs.find? (dU nm) with
   | none =>
     refine W.ak ah 0 (by decide) ?_
     refine xs0 2 ?_
     refine au rfl rfl rfl rfl rfl (by simp) cw2 (find_ok cs mn nm (by omega) _) ?_
     refine aA (by simp only [exb, simprocAttr, wh, hf, ay, Option.isSome_none]; rfl) ?_
     refine W.go ?_
     refine W.cond rfl ?_ ?_
     ·intro _
      refine W.go ?_
      refine W.rt ?_
      simp only [Tryz.f19, bE, aD, toT, fin, exb, simprocAttr]
      have e : cs.length + 1 - k = (cs.length - k) + 1 := by omega
      rw [hall, e]
      simp [gV, hf]
     ·intro h; cases h
   | some c =>
     refine W.ak ah 0 (by decide) ?_
     refine xs0 2 ?_
     refine au rfl rfl rfl rfl rfl (by simp) cw2 (find_ok cs mn nm (by omega) _) ?_
     refine aA (by simp only [exb, simprocAttr, wh, hf, ay, Option.isSome_some]; rfl) ?_
     refine W.go ?_
     refine W.cond rfl ?_ ?_
     ·intro h; cases h
     ·intro _
      refine W.go ?_
      refine W.ak ah 0 (by decide) ?_
      refine xs0 3 ?_
      refine fu ah 5 rfl rfl rfl rfl rfl rfl rfl rfl Fz rfl rfl rfl rfl (ku hkeep) (by simp) (by simp; omega) (by decide) ?_
      refine xe0 ?_
      refine W.go ?_
      refine ⟨(k + 1, (eU cs nm).super, acc ++ [nm]), ⟨hlt, by simp [hl], ?_⟩, by dsimp only; omega, ?_⟩
      ·have e : cs.length + 1 - k = (cs.length + 1 - (k + 1)) + 1 := by omega
       rw [hall, e]
       simp [gV, hf, eU]
      refine nK ?sle ?mle (aI hkeep)
      case mle => repeat (first | exact aZ _ | exact aC _ | refine aY ?_ (by first | rfl | (simp only [av, aL, Nat.reduceEqDiff, reduceIte, aR (show k + 1 < 9223372036854775808 by omega), List.map_append, List.map_cons, List.map_nil, cStr]; done)))
      case sle => repeat (first | exact aQ _ | exact aK _ | refine aP ?_ (by first | rfl | (simp only [av, aN, aO, Nat.reduceEqDiff, reduceIte, aR (show k + 1 < 9223372036854775808 by omega), List.map_append, List.map_cons, List.map_nil, cStr]; done)))
  ·intro hge
   replace hge := dnl hge
   obtain rfl : k = cs.length + 1 := by omega
   refine W.go ?_
   refine W.rt ?_
   simp only [Tryz.f19, bE, aD, toT, fin, exb, simprocAttr]
   rw [hall]
   simp [gV]
def H7 (l : List Slot) (i k : Nat) : Bool := match l[i]?, l[k]? with | some x, some y => x.name.toList == y.name.toList | _, _ => false
def nW (l : List Slot) : Bool := (List.range l.length).any fun i => (List.range i).any fun k => H7 l i k
theorem Cu {p : Nat → Bool} {n i : Nat} (hi : i < n) (h : p i = true) : (List.range n).any p = true := List.any_eq_true.2 ⟨i, List.mem_range.2 hi, h⟩
theorem AZ {p : Nat → Bool} {n : Nat} (h : ∀ i < n, p i = false) : (List.range n).any p = false := List.any_eq_false.2 fun i hi => by simp [h i (List.mem_range.1 hi)]
theorem Ag (l : List Slot) (hlen : l.length ≤ 1000000000000) (m : Mem) : COk Tryz.prog 20 [.c (.sl (l.map bC))] m (.c (.bool (nW l))) := by
 refine (cB ah Tryz.func20 (by kernel_rfl) rfl rfl (by rfl) (by rfl) (by rfl) (fun R hkeep => ?_) m)
 refine W.go ?_
 refine W.loop (ι := Nat) (fun i => ⟨upd (upd (upd (fun _ => .top) 0 (.c (.sl (l.map bC)))) 6 (.c (.int .i64 l.length))) 7 (.c (.int .i64 i)), Mem.nil⟩)
  (fun i => i ≤ l.length ∧ ∀ j < i, (List.range j).any (H7 l j) = false) (fun i => l.length - i) 0 ?start ⟨Nat.zero_le _, fun j hj => by omega⟩ ?round
 case start =>
  exact nA (aI hkeep)
 case round =>
  rintro i ⟨hi, hall⟩
  refine W.go ?_
  refine W.cond rfl ?_ ?_
  ·intro hlt
   replace hlt := dtl hlt
   obtain ⟨x, hx⟩ : ∃ x, l[i]? = some x := ⟨_, List.getElem?_eq_getElem hlt⟩
   refine W.go ?_
   refine W.loop (ι := Nat) (fun k => ⟨upd (upd (upd (upd (upd (upd (fun _ => .top) 0 (.c (.sl (l.map bC)))) 6 (.c (.int .i64 l.length))) 7 (.c (.int .i64 i))) 3 (.c (.int .i64 i))) 10 (.c (.int .i64 i))) 11 (.c (.int .i64 k)), Mem.nil⟩)
    (fun k => k ≤ i ∧ ∀ j < k, H7 l i j = false) (fun k => i - k) 0 ?start ⟨Nat.zero_le _, fun j hj => by omega⟩ ?round
   case start =>
    exact nA (aI hkeep)
   case round =>
    rintro k ⟨hk, hin⟩
    refine W.go ?_
    refine W.cond rfl ?_ ?_
    ·intro hlk
     replace hlk := dtl hlk
     obtain ⟨y, hy⟩ : ∃ y, l[k]? = some y := ⟨_, List.getElem?_eq_getElem (by omega)⟩
     have he : H7 l i k = (x.name.toList == y.name.toList) := by simp [H7, hx, hy]
     refine W.go ?_
     refine W.bM ah 0 aF (by kernel_rfl) (by decide) ?_
     refine aA (by simp only [exb, simprocAttr, cZ hx, cZ hy, bC]; rfl) ?_
     refine W.cond rfl ?_ ?_
     ·intro heq
      refine W.go ?_
      refine W.rt ?_
      simp only [Tryz.f20, bE, aD, toT, fin, exb, simprocAttr]
      have : nW l = true := Cu hlt (Cu hlk (he.trans heq))
      rw [this]
     ·intro hne
      refine W.go ?_
      refine ⟨k + 1, ⟨hlk, fun j hj => ?_⟩, by omega, ?_⟩
      ·rcases Nat.lt_succ_iff_lt_or_eq.1 hj with h | h
       ·exact hin j h
       ·subst h; exact he.trans hne
      exact oF (aI hkeep)
    ·intro hge
     replace hge := dnl hge
     obtain rfl : k = i := by omega
     refine W.go ?_
     refine ⟨k + 1, ⟨hlt, fun j hj => ?_⟩, by omega, ?_⟩
     ·rcases Nat.lt_succ_iff_lt_or_eq.1 hj with h | h
      ·exact hall j h
      ·subst h; exact AZ hin
     exact oF (aI hkeep)
  ·intro hge
   replace hge := dnl hge
   obtain rfl : i = l.length := by omega
   refine W.go ?_
   refine W.rt ?_
   simp only [Tryz.f20, bE, aD, toT, fin, exb, simprocAttr]
   have : nW l = false := AZ hall
   rw [this]
def kW (l : List Slot) : List (List UInt8) := l.map fun s => s.type.toList
def uY (x y : Method) : Bool := (x.type.toList == y.type.toList) && decide (kW x.params = kW y.params)
theorem JM {l m : List Slot} {i : Nat} {x y : Slot} (hx : l[i]? = some x) (hy : m[i]? = some y) (h : (x.type.toList == y.type.toList) = false) : decide (kW l = kW m) = false := by
 rw [decide_eq_false_iff_not]
 intro e
 have : (kW l)[i]? = (kW m)[i]? := by rw [e]
 simp [kW, hx, hy] at this
 simp [this] at h
theorem JW {l m : List Slot} (hl : l.length = m.length) (h : ∀ (i : Nat) x y, l[i]? = some x → m[i]? = some y → (x.type.toList == y.type.toList) = true) : decide (kW l = kW m) = true := by
 rw [decide_eq_true_iff]
 apply List.ext_getElem?
 intro i
 simp only [kW, List.getElem?_map]
 by_cases hi : i < l.length
 ·rw [List.getElem?_eq_getElem hi, List.getElem?_eq_getElem (by omega)]
  have := h i _ _ (List.getElem?_eq_getElem hi) (List.getElem?_eq_getElem (by omega : i < m.length))
  simpa using this
 ·rw [List.getElem?_eq_none (by omega), List.getElem?_eq_none (by omega)]
theorem Py (x y : Method) (hlen : x.params.length ≤ 1000000000000) (m : Mem) : COk Tryz.prog 48 [.agg (aS x), .agg (aS y)] m (.c (.bool (uY x y))) := by
 refine (cB ah Tryz.func48 (by kernel_rfl) rfl rfl (by rfl) (by rfl) (by rfl) (fun R hkeep => ?_) m)
 repeat (first | refine W.q ?_ | refine W.g ?_ Ev)
 refine W.ak ah 0 (by decide) ?_
 cases ht : (x.type.toList == y.type.toList) with
 | false =>
   refine aA Qz ?_
   refine W.go ?_
   refine W.cond rfl ?_ ?_
   ·intro _
    refine W.go ?_
    refine W.rt ?_
    simp only [Tryz.f48, bE, aD, toT, fin, exb, simprocAttr]
    simp [uY, ht]
   ·intro h; cases h
 | true =>
   refine aA Qz ?_
   refine W.go ?_
   refine W.cond rfl ?_ ?_
   ·intro hl
    refine W.go ?_
    refine W.rt ?_
    simp only [Tryz.f48, bE, aD, toT, fin, exb, simprocAttr]
    have : decide (kW x.params = kW y.params) = false := by
     rw [decide_eq_false_iff_not]
     intro e
     have := congrArg List.length e
     simp [kW] at this
     simp [this] at hl
    simp [uY, this]
   ·intro hl
    have hll : x.params.length = y.params.length := by simp at hl; omega
    refine W.go ?_
    refine W.loop (ι := Nat) (fun k => ⟨upd (upd (upd (upd (fun _ => .top) 2 (.ptr 2 0)) 3 (.ptr 3 0)) 22 (.c (.int .i64 x.params.length))) 23 (.c (.int .i64 k)),
     upd (upd Mem.nil 2 (some (.box 44 ((aS x).map .c)))) 3 (some (.box 44 ((aS y).map .c)))⟩)
     (fun k => k ≤ x.params.length ∧ ∀ (i : Nat) u v, i < k → x.params[i]? = some u → y.params[i]? = some v → (u.type.toList == v.type.toList) = true) (fun k => x.params.length - k) 0 ?start ⟨Nat.zero_le _, fun i u v hi => by omega⟩ ?round
    case start =>
     exact nA (aI hkeep)
    case round =>
     rintro k ⟨hk, hall⟩
     repeat (first | refine W.q ?_ | refine W.g ?_ Ev)
     refine W.cond rfl ?_ ?_
     ·intro hlt
      replace hlt := dtl hlt
      obtain ⟨u, hu⟩ : ∃ u, x.params[k]? = some u := ⟨_, List.getElem?_eq_getElem hlt⟩
      obtain ⟨v, hv⟩ : ∃ v, y.params[k]? = some v := ⟨_, List.getElem?_eq_getElem (by omega)⟩
      refine W.go ?_
      refine W.bM ah 0 aF (by kernel_rfl) (by decide) ?_
      refine aA (by simp only [exb, simprocAttr, cZ hu, cZ hv, bC, aS]; rfl) ?_
      refine W.cond rfl ?_ ?_
      ·intro hne
       refine W.go ?_
       refine W.rt ?_
       simp only [Tryz.f48, bE, aD, toT, fin, exb, simprocAttr]
       simp [uY, JM hu hv (by simpa using hne)]
      ·intro heq
       refine W.go ?_
       refine ⟨k + 1, ⟨hlt, fun i u' v' hi hu' hv' => ?_⟩, by omega, ?_⟩
       ·rcases Nat.lt_succ_iff_lt_or_eq.1 hi with h | h
        ·exact hall i u' v' h hu' hv'
        ·subst h
         rw [hu] at hu'; rw [hv] at hv'; cases hu'; cases hv'
         simpa using heq
       exact oF (aI hkeep)
     ·intro hge
      replace hge := dnl hge
      obtain rfl : k = x.params.length := by omega
      refine W.go ?_
      refine W.rt ?_
      simp only [Tryz.f48, bE, aD, toT, fin, exb, simprocAttr]
      have := JW hll fun i u v hu hv => hall i u v (List.getElem?_eq_some_iff.1 hu).1 hu hv
      simp [uY, ht, this]
def eO (name : ByteArray) (m : Method) : Bool := m.name.toList == name.toList
def gM (cs : List Class) (name : ByteArray) : List ByteArray → Option (Method × ByteArray)
 | [] => none
 | n :: l => match (eU cs n).methods.find? (eO name) with | some x => some (x, n) | none => gM cs name l
def zeroMethod : Method := ⟨⟨#[]⟩, ⟨#[]⟩, [], []⟩
def kY (o : Option (Method × ByteArray)) : List (Bool × List C) := match o with
 | some (x, n) => [(true, aS x), (false, [.str n]), (false, [.bool true])]
 | none => [(true, aS zeroMethod), (false, [.str ⟨#[]⟩]), (false, [.bool false])]
theorem Dh {cs : List Class} {name n : ByteArray} {l : List ByteArray} (h : (eU cs n).methods.find? (eO name) = none) : gM cs name (n :: l) = gM cs name l := by simp [gM, h]
theorem J3 (cs : List Class) (mn : C) (l : List ByteArray) (name : ByteArray) (hlen : cs.length ≤ 1000000000000) (hl : l.length ≤ 1000000000000) (hm : ∀ n, (eU cs n).methods.length ≤ 1000000000000) (m : Mem) :
 COk Tryz.prog 47 [.agg [.sl (cs.map ay), mn], .c (.sl (l.map cStr)), .c (.str name)] m (.tup (kY (gM cs name l))) := by
 refine (cB ah Tryz.func47 (by kernel_rfl) rfl rfl (by rfl) (by rfl) (by rfl) (fun R hkeep => ?_) m)
 refine W.go ?_
 refine W.loop (ι := Nat) (fun k => ⟨upd (upd (upd (upd (upd (upd (fun _ => .top) 2 (.c (.str name))) 3 (.ptr 3 0)) 6 (.ptr 6 0)) 15 (.c (.sl (l.map cStr)))) 16 (.c (.int .i64 l.length))) 17 (.c (.int .i64 k)),
  upd (upd Mem.nil 3 (some (.box 25 [.c (.sl (cs.map ay)), .c mn]))) 6 (some (.box 44 [.c (.str ⟨#[]⟩), .c (.str ⟨#[]⟩), .nil, .nil]))⟩)
  (fun k => k ≤ l.length ∧ gM cs name l = gM cs name (l.drop k)) (fun k => l.length - k) 0 ?start ⟨Nat.zero_le _, rfl⟩ ?round
 case start =>
  exact nA (aI hkeep)
 case round =>
  rintro k ⟨hk, hall⟩
  refine W.go ?_
  refine W.cond rfl ?_ ?_
  ·intro hlt
   replace hlt := dtl hlt
   obtain ⟨n, hn⟩ : ∃ n, l[k]? = some n := ⟨_, List.getElem?_eq_getElem hlt⟩
   have hd := drop_of_getElem? hn
   have hmn := hm n
   repeat (first | refine W.q ?_ | refine W.g ?_ (by simp only [exb, simprocAttr, cZ hn, cStr]; rfl))
   refine W.ak ah 0 (by decide) ?_
   refine xs0 2 ?_
   refine au rfl rfl rfl rfl rfl (by simp) cw2 (find_ok cs mn n hlen _) ?_
   refine aA QJ ?_
   refine W.go ?_
   refine W.loop (ι := Nat) (fun j => ⟨upd (upd (upd (upd (upd (upd (upd (upd (upd (upd (fun _ => .top) 2 (.c (.str name))) 3 (.ptr 3 0)) 6 (.ptr 6 0)) 15 (.c (.sl (l.map cStr)))) 16 (.c (.int .i64 l.length))) 17 (.c (.int .i64 k))) 10 (.c (.str n))) 28 (.c (.sl ((eU cs n).methods.map aS)))) 29 (.c (.int .i64 (eU cs n).methods.length))) 30 (.c (.int .i64 j)),
    upd (upd Mem.nil 3 (some (.box 25 [.c (.sl (cs.map ay)), .c mn]))) 6 (some (.box 44 [.c (.str ⟨#[]⟩), .c (.str ⟨#[]⟩), .nil, .nil]))⟩)
    (fun j => j ≤ (eU cs n).methods.length ∧ ((eU cs n).methods.take j).find? (eO name) = none) (fun j => (eU cs n).methods.length - j) 0 ?start ⟨Nat.zero_le _, rfl⟩ ?round
   case start =>
    exact nA (aI hkeep)
   case round =>
    rintro j ⟨hj, hin⟩
    refine W.go ?_
    refine W.cond rfl ?_ ?_
    ·intro hlj
     replace hlj := dtl hlj
     obtain ⟨x, hx⟩ : ∃ x, (eU cs n).methods[j]? = some x := ⟨_, List.getElem?_eq_getElem hlj⟩
     repeat (first | refine W.q ?_ | refine W.g ?_ R8)
     refine W.cond rfl ?_ ?_
     ·intro heq
      refine W.go ?_
      refine W.rt ?_
      simp only [Tryz.f47, bE, aD, toT, fin, exb, simprocAttr]
      rw [hall, hd]
      simp [gM, kY, (rH hin hx).1 heq, aS]
     ·intro hne
      refine W.go ?_
      refine ⟨j + 1, ⟨hlj, (rH hin hx).2 hne⟩, by omega, ?_⟩
      exact Al (aI hkeep)
    ·intro hge
     replace hge := dnl hge
     obtain rfl : j = (eU cs n).methods.length := by omega
     rw [List.take_length] at hin
     refine W.go ?_
     refine ⟨k + 1, ⟨hlt, by rw [hall, hd, Dh hin]⟩, by omega, ?_⟩
     exact oF (aI hkeep)
  ·intro hge
   replace hge := dnl hge
   obtain rfl : k = l.length := by omega
   rw [List.drop_length] at hall
   refine W.go ?_
   refine W.rt ?_
   simp only [Tryz.f47, bE, aD, toT, fin, exb, simprocAttr]
   rw [hall]
   simp [gM, kY, aS, zeroMethod, bJ]
def lD (cs : List Class) (above : List ByteArray) (l : List Method) (i : Nat) : Bool :=
 match l[i]? with
 | none => true
 | some x => !((l.take i).any fun o => o.name.toList == x.name.toList) && !((match gM cs x.name above with | some (o, _) => !(uY x o) | none => false) || nW x.params)
def iW (cs : List Class) (above : List ByteArray) (l : List Method) : Bool := (List.range l.length).all (lD cs above l)
theorem xB {p : Nat → Bool} {n : Nat} (h : ∀ i < n, p i = true) : (List.range n).all p = true := List.all_eq_true.2 fun i hi => h i (List.mem_range.1 hi)
theorem kR {p : Nat → Bool} {n i : Nat} (hi : i < n) (h : p i = false) : (List.range n).all p = false := List.all_eq_false.2 ⟨i, List.mem_range.2 hi, by simp [h]⟩
theorem D5 {α : Type} {p : α → Bool} {l : List α} {k : Nat} {x : α} (h : (l.take k).any p = false) (hx : l[k]? = some x) (hp : p x = false) : (l.take (k + 1)).any p = false := by
 rw [List.take_add_one, hx, List.any_append, h]
 simp [hp]
theorem K8 {α : Type} {p : α → Bool} {l : List α} {k i : Nat} {x : α} (hk : k < i) (hx : l[k]? = some x) (hp : p x = true) : (l.take i).any p = true :=
 List.any_eq_true.2 ⟨x, List.mem_of_getElem? (i := k) (by rw [List.getElem?_take, if_pos hk]; exact hx), hp⟩
theorem Gn (cs : List Class) (mn : C) (c : Class) (l : List ByteArray) (hlen : cs.length ≤ 1000000000000) (hl : l.length ≤ 1000000000000) (hm : ∀ n, (eU cs n).methods.length ≤ 1000000000000) (hc : c.methods.length ≤ 1000000000000) (hp : ∀ x ∈ c.methods, x.params.length ≤ 1000000000000) (m : Mem) :
 COk Tryz.prog 22 [.agg [.sl (cs.map ay), mn], .agg (ay c), .c (.sl (l.map cStr))] m (.c (.bool (iW cs l c.methods))) := by
 refine (cB ah Tryz.func22 (by kernel_rfl) rfl rfl (by rfl) (by rfl) (by rfl) (fun R hkeep => ?_) m)
 repeat (first | refine W.q ?_ | refine W.g ?_ sI)
 refine W.loop (ι := Nat) (fun k => ⟨upd (upd (upd (upd (upd (upd (fun _ => .top) 2 (.c (.sl (l.map cStr)))) 3 (.ptr 3 0)) 4 (.ptr 4 0)) 15 (.c (.sl (c.methods.map aS)))) 16 (.c (.int .i64 c.methods.length))) 17 (.c (.int .i64 k)),
  upd (upd Mem.nil 3 (some (.box 25 [.c (.sl (cs.map ay)), .c mn]))) 4 (some (.box 42 ((ay c).map .c)))⟩)
  (fun k => k ≤ c.methods.length ∧ ∀ i < k, lD cs l c.methods i = true) (fun k => c.methods.length - k) 0 ?start ⟨Nat.zero_le _, fun i hi => by omega⟩ ?round
 case start =>
  exact nA (aI hkeep)
 case round =>
  rintro k ⟨hk, hall⟩
  refine W.go ?_
  refine W.cond rfl ?_ ?_
  ·intro hlt
   replace hlt := dtl hlt
   obtain ⟨x, hx⟩ : ∃ x, c.methods[k]? = some x := ⟨_, List.getElem?_eq_getElem hlt⟩
   have hpx := hp x (List.mem_of_getElem? hx)
   have hkl : k ≤ c.methods.length := hk
   repeat (first | refine W.q ?_ | refine W.g ?_ (by simp only [exb, simprocAttr, cZ hx, aS, ay, Nat.zero_le, true_or, hkl, ← List.map_take, List.length_take, Nat.min_eq_left hkl]; rfl))
   refine W.loop (ι := Nat) (fun j => ⟨upd (upd (upd (upd (upd (upd (upd (upd (upd (upd (fun _ => .top) 2 (.c (.sl (l.map cStr)))) 3 (.ptr 3 0)) 4 (.ptr 4 0)) 15 (.c (.sl (c.methods.map aS)))) 16 (.c (.int .i64 c.methods.length))) 17 (.c (.int .i64 k))) 8 (.ptr 8 0)) 25 (.c (.sl ((c.methods.take k).map aS)))) 26 (.c (.int .i64 k))) 27 (.c (.int .i64 j)),
    upd (upd (upd Mem.nil 3 (some (.box 25 [.c (.sl (cs.map ay)), .c mn]))) 4 (some (.box 42 ((ay c).map .c)))) 8 (some (.box 44 ((aS x).map .c)))⟩)
    (fun j => j ≤ k ∧ (c.methods.take j).any (fun o => o.name.toList == x.name.toList) = false) (fun j => k - j) 0 ?start ⟨Nat.zero_le _, rfl⟩ ?round
   case start =>
    exact nA (aI hkeep)
   case round =>
    rintro j ⟨hj, hin⟩
    refine W.go ?_
    refine W.cond rfl ?_ ?_
    ·intro hlj
     replace hlj := dtl hlj
     obtain ⟨y, hy⟩ : ∃ y, c.methods[j]? = some y := ⟨_, List.getElem?_eq_getElem (by omega)⟩
     have hy' : (c.methods.take k)[j]? = some y := by rw [List.getElem?_take, if_pos hlj]; exact hy
     repeat (first | refine W.q ?_ | refine W.g ?_ (by simp only [exb, simprocAttr, cZ hy', aS]; rfl))
     refine W.cond rfl ?_ ?_
     ·intro heq
      refine W.go ?_
      refine W.rt ?_
      simp only [Tryz.f22, bE, aD, toT, fin, exb, simprocAttr]
      have : iW cs l c.methods = false := kR hlt (by simp only [lD, hx]; rw [K8 hlj hy heq]; rfl)
      rw [this]
     ·intro hne
      refine W.go ?_
      refine ⟨j + 1, ⟨hlj, D5 hin hy hne⟩, by omega, ?_⟩
      exact Al (aI hkeep)
    ·intro hge
     replace hge := dnl hge
     obtain rfl : j = k := by omega
     have hrow : lD cs l c.methods j = !((match gM cs x.name l with | some (o, _) => !(uY x o) | none => false) || nW x.params) := by
      simp only [lD, hx]; rw [hin]; rfl
     refine W.go ?_
     refine W.ak ah 0 (by decide) ?_
     refine aj 4 Ev ?_
     refine au rfl rfl rfl rfl rfl (by simp) cw3 (J3 cs mn l x.name hlen hl hm _) ?_
     cases hf : gM cs x.name l with
     | none =>
       refine aA (by simp only [exb, simprocAttr, kY, hf, aS, zeroMethod]; rfl) ?_
       rw [hf] at hrow
       refine W.go ?_
       refine W.ak ah 0 (by decide) ?_
       refine aj 10 Ev ?_
       refine au rfl rfl rfl rfl rfl (by simp) cw1 (Ag x.params hpx _) ?_
       refine xe0 ?_
       refine W.cond rfl ?_ ?_
       ·intro ht
        refine W.go ?_
        refine W.rt ?_
        simp only [Tryz.f22, bE, aD, toT, fin, exb, simprocAttr]
        have : iW cs l c.methods = false := kR hlt (by rw [hrow, ht]; rfl)
        rw [this]
       ·intro ht
        refine W.go ?_
        refine ⟨j + 1, ⟨hlt, fun i hi => ?_⟩, by omega, ?_⟩
        ·rcases Nat.lt_succ_iff_lt_or_eq.1 hi with h | h
         ·exact hall i h
         ·subst h; rw [hrow, ht]; rfl
        exact Al (aI hkeep)
     | some p =>
       obtain ⟨o, nm⟩ := p
       rw [hf] at hrow
       refine aA (by simp only [exb, simprocAttr, kY, hf, aS]; rfl) ?_
       refine W.go ?_
       refine W.ak ah 0 (by decide) ?_
       refine xs0 4 ?_
       refine au rfl rfl rfl rfl rfl (by simp) cw2 (Py x o hpx _) ?_
       cases hlk : uY x o with
       | false =>
         refine aA (by simp only [exb, simprocAttr, hlk]; rfl) ?_
         refine W.cond rfl ?_ ?_
         ·intro _
          refine W.go ?_
          refine W.rt ?_
          simp only [Tryz.f22, bE, aD, toT, fin, exb, simprocAttr]
          have : iW cs l c.methods = false := kR hlt (by rw [hrow]; simp [hlk])
          rw [this]
         ·intro h; cases h
       | true =>
         have hrow : lD cs l c.methods j = !(nW x.params) := by rw [hrow]; simp [hlk]
         refine aj 5 (by simp only [exb, simprocAttr, hlk, aS]; rfl) ?_
         refine au rfl rfl rfl rfl rfl (by simp) cw1 (Ag x.params hpx _) ?_
         refine xe0 ?_
         refine W.cond rfl ?_ ?_
         ·intro ht
          refine W.go ?_
          refine W.rt ?_
          simp only [Tryz.f22, bE, aD, toT, fin, exb, simprocAttr]
          have : iW cs l c.methods = false := kR hlt (by rw [hrow, ht]; rfl)
          rw [this]
         ·intro ht
          refine W.go ?_
          refine ⟨j + 1, ⟨hlt, fun i hi => ?_⟩, by omega, ?_⟩
          ·rcases Nat.lt_succ_iff_lt_or_eq.1 hi with h | h
           ·exact hall i h
           ·subst h; rw [hrow, ht]; rfl
          exact Al (aI hkeep)
  ·intro hge
   replace hge := dnl hge
   obtain rfl : k = c.methods.length := by omega
   refine W.go ?_
   refine W.rt ?_
   simp only [Tryz.f22, bE, aD, toT, fin, exb, simprocAttr]
   rw [show iW cs l c.methods = true from xB hall]
def mO (cs : List Class) (i : Nat) : Bool :=
 match cs[i]? with
 | none => true
 | some c => !((cs.take i).any fun d => c.name.toList == d.name.toList) && (c.super.toList == [] || (cs.find? (dU c.super)).isSome)
def mV (cs : List Class) : Bool := (List.range cs.length).all (mO cs)
theorem NP (cs : List Class) (mn : C) (hlen : cs.length ≤ 1000000000000) (m : Mem) : COk Tryz.prog 18 [.agg [.sl (cs.map ay), mn]] m (.c (.bool (mV cs))) := by
 refine (cB ah Tryz.func18 (by kernel_rfl) rfl rfl (by rfl) (by rfl) (by rfl) (fun R hkeep => ?_) m)
 refine W.go ?_
 refine W.loop (ι := Nat) (fun k => ⟨upd (upd (upd (upd (fun _ => .top) 1 (.ptr 1 0)) 10 (.c (.sl (cs.map ay)))) 11 (.c (.int .i64 cs.length))) 12 (.c (.int .i64 k)),
  upd Mem.nil 1 (some (.box 25 [.c (.sl (cs.map ay)), .c mn]))⟩)
  (fun k => k ≤ cs.length ∧ ∀ i < k, mO cs i = true) (fun k => cs.length - k) 0 ?start ⟨Nat.zero_le _, fun i hi => by omega⟩ ?round
 case start =>
  exact nA (aI hkeep)
 case round =>
  rintro k ⟨hk, hall⟩
  refine W.go ?_
  refine W.cond rfl ?_ ?_
  ·intro hlt
   replace hlt := dtl hlt
   obtain ⟨x, hx⟩ : ∃ x, cs[k]? = some x := ⟨_, List.getElem?_eq_getElem hlt⟩
   have hkl : k ≤ cs.length := hk
   repeat (first | refine W.q ?_ | refine W.g ?_ (by simp only [exb, simprocAttr, cZ hx, ay, Nat.zero_le, true_or, hkl, ← List.map_take, List.length_take, Nat.min_eq_left hkl]; rfl))
   refine W.loop (ι := Nat) (fun j => ⟨upd (upd (upd (upd (upd (upd (upd (upd (fun _ => .top) 1 (.ptr 1 0)) 10 (.c (.sl (cs.map ay)))) 11 (.c (.int .i64 cs.length))) 12 (.c (.int .i64 k))) 4 (.ptr 4 0)) 20 (.c (.sl ((cs.take k).map ay)))) 21 (.c (.int .i64 k))) 22 (.c (.int .i64 j)),
    upd (upd Mem.nil 1 (some (.box 25 [.c (.sl (cs.map ay)), .c mn]))) 4 (some (.box 42 ((ay x).map .c)))⟩)
    (fun j => j ≤ k ∧ (cs.take j).any (fun d => x.name.toList == d.name.toList) = false) (fun j => k - j) 0 ?start ⟨Nat.zero_le _, rfl⟩ ?round
   case start =>
    exact nA (aI hkeep)
   case round =>
    rintro j ⟨hj, hin⟩
    refine W.go ?_
    refine W.cond rfl ?_ ?_
    ·intro hlj
     replace hlj := dtl hlj
     obtain ⟨y, hy⟩ : ∃ y, cs[j]? = some y := ⟨_, List.getElem?_eq_getElem (by omega)⟩
     have hy' : (cs.take k)[j]? = some y := by rw [List.getElem?_take, if_pos hlj]; exact hy
     repeat (first | refine W.q ?_ | refine W.g ?_ (by simp only [exb, simprocAttr, cZ hy', ay]; rfl))
     refine W.cond rfl ?_ ?_
     ·intro heq
      refine W.go ?_
      refine W.rt ?_
      simp only [Tryz.f18, bE, aD, toT, fin, exb, simprocAttr]
      have : mV cs = false := kR hlt (by simp only [mO, hx]; rw [K8 hlj hy heq]; rfl)
      rw [this]
     ·intro hne
      refine W.go ?_
      refine ⟨j + 1, ⟨hlj, D5 hin hy hne⟩, by omega, ?_⟩
      exact Al (aI hkeep)
    ·intro hge
     replace hge := dnl hge
     obtain rfl : j = k := by omega
     have hrow : mO cs j = (x.super.toList == [] || (cs.find? (dU x.super)).isSome) := by
      simp only [mO, hx]; rw [hin]; rfl
     refine W.go ?_
     refine W.ak ah 0 (by decide) ?_
     refine aj 3 sI ?_
     refine au rfl rfl rfl rfl rfl (by simp) cw2 (find_ok cs mn x.super hlen _) ?_
     refine aA QJ ?_
     cases hs : (x.super.toList == []) with
     | true =>
       repeat (first | refine W.q ?_ | refine W.g ?_ Qs)
       refine W.cond rfl ?_ ?_
       ·intro h; cases h
       ·intro _
        refine W.go ?_
        refine ⟨j + 1, ⟨hlt, fun i hi => ?_⟩, by omega, ?_⟩
        ·rcases Nat.lt_succ_iff_lt_or_eq.1 hi with h | h
         ·exact hall i h
         ·subst h; rw [hrow, hs]; rfl
        exact Al (aI hkeep)
     | false =>
       repeat (first | refine W.q ?_ | refine W.g ?_ Qs)
       refine W.cond rfl ?_ ?_
       ·intro ht
        refine W.go ?_
        refine W.rt ?_
        simp only [Tryz.f18, bE, aD, toT, fin, exb, simprocAttr]
        have : mV cs = false := kR hlt (by rw [hrow, hs]; simpa using ht)
        rw [this]
       ·intro ht
        refine W.go ?_
        refine ⟨j + 1, ⟨hlt, fun i hi => ?_⟩, by omega, ?_⟩
        ·rcases Nat.lt_succ_iff_lt_or_eq.1 hi with h | h
         ·exact hall i h
         ·subst h; rw [hrow, hs]; simpa using ht
        exact Al (aI hkeep)
  ·intro hge
   replace hge := dnl hge
   obtain rfl : k = cs.length := by omega
   refine W.go ?_
   refine W.rt ?_
   simp only [Tryz.f18, bE, aD, toT, fin, exb, simprocAttr]
   rw [show mV cs = true from xB hall]
def dM (cs : List Class) (l : List ByteArray) : List Slot := l.reverse.flatMap fun n => (eU cs n).fields
theorem Jr (cs : List Class) (mn : C) (l : List ByteArray) (hlen : cs.length ≤ 1000000000000) (hl : l.length ≤ 1000000000000) (hf : (dM cs l).length ≤ 1000000000) (m : Mem) :
 COk Tryz.prog 21 [.agg [.sl (cs.map ay), mn], .c (.sl (l.map cStr))] m (.c (.sl ((dM cs l).map bC))) := by
 refine (cB ah Tryz.func21 (by kernel_rfl) rfl rfl (by rfl) (by rfl) (by rfl) (fun R hkeep => ?_) m)
 repeat (first | refine W.q ?_ | refine W.g ?_ (by simp only [exb, simprocAttr, BK (show l.length < 9223372036854775808 by omega)]; rfl))
 refine W.Ap 5 5 35 2 rfl rfl ?_
 refine W.loop (ι := Nat) (fun k => ⟨upd (upd (upd (upd (fun _ => .top) 1 (.c (.sl (l.map cStr)))) 2 (.ptr 2 0)) 5 (.own 5)) 6 (.c (.int .i64 ((k : Int) - 1))),
  upd (upd Mem.nil 2 (some (.box 25 [.c (.sl (cs.map ay)), .c mn]))) 5 (some (.arr 35 2 ((dM cs (l.drop k)).map bC)))⟩)
  (fun k => k ≤ l.length) (fun k => k) l.length ?start (Nat.le_refl _) ?round
 case start =>
  refine nK ?sle ?mle (aI hkeep)
  case mle => repeat (first | exact aZ _ | exact aC _ | refine aY ?_ (by first | rfl | (simp only [av, aL, Nat.reduceEqDiff, reduceIte, List.drop_length, dM, List.reverse_nil, List.flatMap_nil, List.map_nil]; done)))
  case sle => repeat (first | exact aQ _ | exact aK _ | refine aP ?_ (by first | rfl | (simp only [av, aN, aO, Nat.reduceEqDiff, reduceIte, List.drop_length, dM, List.reverse_nil, List.flatMap_nil, List.map_nil]; done)))
 case round =>
  intro k hk
  cases k with
  | zero =>
    refine W.go ?_
    refine W.cond rfl ?_ ?_
    ·intro h; exact absurd h (by decide)
    ·intro _
     refine W.go ?_
     refine W.rt ?_;simp only [Tryz.f21, bE, aD, toT, fin, exb, simprocAttr]
  | succ j =>
    obtain ⟨n, hn⟩ : ∃ n, l[j]? = some n := ⟨_, List.getElem?_eq_getElem (by omega)⟩
    have hd := drop_of_getElem? hn
    have hff : dM cs (l.drop j) = dM cs (l.drop (j + 1)) ++ (eU cs n).fields := by rw [hd]; simp [dM]
    have hle : (dM cs (l.drop j)).length ≤ (dM cs l).length := by
     have : dM cs l = dM cs (l.drop j) ++ dM cs (l.take j) := by
      unfold dM
      rw [← List.flatMap_append, ← List.reverse_append, List.take_append_drop]
     rw [this, List.length_append]; omega
    have hl2 : (dM cs (l.drop j)).length = (dM cs (l.drop (j + 1))).length + (eU cs n).fields.length := by rw [hff, List.length_append]
    repeat (first | refine W.q ?_ | refine W.g ?_ (by simp only [exb, simprocAttr, uV]; rfl))
    refine W.cond rfl ?_ ?_
    ·intro _
     refine W.go ?_
     refine W.bM ah 0 aF (by kernel_rfl) (by decide) ?_
     refine aj 5 (by simp only [exb, simprocAttr, uV, cZ hn, cStr]; rfl) ?_
     refine au rfl rfl rfl rfl rfl (by simp) cw2 (find_ok cs mn n hlen _) ?_
     refine aA QJ ?_
     refine W.go ?_
     refine W.ak ah 0 (by decide) ?_
     refine xs0 3 ?_
     refine fu ah 5 rfl rfl rfl rfl rfl rfl rfl rfl Fz rfl rfl rfl rfl (ku hkeep) (by simp [bC]) Ql (by decide) ?_
     refine xe0 ?_
     repeat (first | refine W.q ?_ | refine W.g ?_ (by simp only [exb, simprocAttr, uV, BK (show j < 9223372036854775808 by omega)]; rfl))
     refine ⟨j, by omega, by omega, ?_⟩
     refine nK ?sle ?mle (aI hkeep)
     case mle => repeat (first | exact aZ _ | exact aC _ | refine aY ?_ (by first | rfl | (simp only [av, aL, Nat.reduceEqDiff, reduceIte, hff, List.map_append]; done)))
     case sle => repeat (first | exact aQ _ | exact aK _ | refine aP ?_ (by first | rfl | (simp only [av, aN, aO, Nat.reduceEqDiff, reduceIte, hff, List.map_append]; done)))
    ·intro h; simp at h
def gN (cs : List Class) : Prop := ∀ c ∈ cs, c.fields.length ≤ 1048576 ∧ c.methods.length ≤ 1048576 ∧ ∀ m ∈ c.methods, m.params.length ≤ 1048576
theorem gN.eU {cs : List Class} (h : gN cs) (n : ByteArray) : (eU cs n).fields.length ≤ 1048576 ∧ (eU cs n).methods.length ≤ 1048576 := by
 unfold V.eU
 cases hf : cs.find? (dU n) with
 | none => simp
 | some c => have := h c (List.mem_of_find?_eq_some hf); exact ⟨this.1, this.2.1⟩
theorem Ar (cs : List Class) : ∀ (k : Nat) (n : ByteArray), (gV cs k n).length ≤ k
 | 0, _ => Nat.le_refl _
 | k + 1, n => by
   unfold gV
   cases cs.find? (dU n) with
   | none => simp
   | some c => have := Ar cs k c.super; simp; omega
theorem xS {cs : List Class} (h : gN cs) : ∀ l : List ByteArray, (dM cs l).length ≤ l.length * 1048576
 | [] => by simp [dM]
 | n :: l => by
   have ih := xS h l
   have := (h.eU n).1
   unfold dM at *
   rw [List.reverse_cons, List.flatMap_append, List.length_append, List.length_cons]
   have e : ([n].flatMap fun n => (V.eU cs n).fields).length = (V.eU cs n).fields.length := by simp
   rw [e, Nat.add_mul]
   omega
def jE (cs : List Class) (i : Nat) : Bool :=
 match cs[i]? with
 | none => true
 | some c => !(decide (cs.length < (gV cs (cs.length + 1) c.name).length) || nW (dM cs (gV cs (cs.length + 1) c.name))) && iW cs ((gV cs (cs.length + 1) c.name).drop 1) c.methods
def pY (e : Int) (cs : List Class) : Int :=
 if e = 0 then (if 16 < cs.length then 6 else if mV cs = false then 60 else if (List.range cs.length).all (jE cs) = true then 0 else 60) else e
theorem Ch {cs : List Class} {c : Class} (h : c ∈ cs) : ∃ d, cs.find? (dU c.name) = some d := by
 cases hf : cs.find? (dU c.name) with
 | some d => exact ⟨d, rfl⟩
 | none =>
   have := List.find?_eq_none.1 hf c h
   simp [dU] at this
theorem EI (p : Program) (e : Int) (he : (Lit.int .i64 e).wf = true) (hS : gN p.classes) (hlen : p.classes.length ≤ 1000000000) (hck : ∀ m, COk Tryz.prog 17 [.agg (dz p)] m (.c (.int .i64 e))) (m : Mem) :
 COk Tryz.prog 9 [.agg (dz p)] m (.c (.int .i64 (pY e p.classes))) := by
 obtain ⟨cs, mn⟩ := p
 dsimp only at hS hlen hck ⊢
 refine (cB ah Tryz.func9 (by kernel_rfl) rfl rfl (by rfl) (by rfl) (by rfl) (fun R hkeep => ?_) m)
 repeat (first | refine W.q ?_ | refine W.g ?_ jA)
 refine W.ak ah 0 (by decide) ?_
 refine aj 1 jA ?_
 refine au rfl rfl rfl rfl rfl (by simp) cw1 (hck _) ?_
 refine xe0 ?_
 refine W.go ?_
 refine W.cond rfl ?_ ?_
 ·intro h
  have he : e ≠ 0 := by simpa using h
  refine W.go ?_
  refine W.rt ?_
  simp only [Tryz.f9, bE, aD, toT, fin, exb, simprocAttr]
  simp [pY, he]
 intro h
 have he : e = 0 := by simpa using h
 subst he
 repeat (first | refine W.q ?_ | refine W.g ?_ jA)
 refine W.cond rfl ?_ ?_
 ·intro h
  have h16 : 16 < cs.length := by simp at h; omega
  refine W.go ?_
  refine W.rt ?_
  simp only [Tryz.f9, bE, aD, toT, fin, exb, simprocAttr]
  simp [pY, h16]
 intro h
 have h16 : ¬ 16 < cs.length := by simp at h; omega
 refine W.go ?_
 refine W.ak ah 0 (by decide) ?_
 refine aj 1 jA ?_
 refine au rfl rfl rfl rfl rfl (by simp) cw1 (NP cs (.sl (bJ mn)) (by omega) _) ?_
 refine xe0 ?_
 refine W.cond rfl ?_ ?_
 ·intro h
  have hn : mV cs = false := by simpa using h
  refine W.go ?_
  refine W.rt ?_
  simp only [Tryz.f9, bE, aD, toT, fin, exb, simprocAttr]
  simp [pY, h16, hn]
 intro h
 have hn : mV cs = true := by simpa using h
 repeat (first | refine W.q ?_ | refine W.g ?_ jA)
 refine W.loop (ι := Nat) (fun k => ⟨upd (upd (upd (upd (fun _ => .top) 1 (.ptr 1 0)) 20 (.c (.sl (cs.map ay)))) 21 (.c (.int .i64 cs.length))) 22 (.c (.int .i64 k)),
  upd Mem.nil 1 (some (.box 25 [.c (.sl (cs.map ay)), .c (.sl (bJ mn))]))⟩)
  (fun k => k ≤ cs.length ∧ ∀ i < k, jE cs i = true) (fun k => cs.length - k) 0 ?start ⟨Nat.zero_le _, fun i hi => by omega⟩ ?round
 case start =>
  exact nA (aI hkeep)
 case round =>
  rintro k ⟨hk, hall⟩
  refine W.go ?_
  refine W.cond rfl ?_ ?_
  ·intro hlt
   replace hlt := dtl hlt
   obtain ⟨x, hx⟩ : ∃ x, cs[k]? = some x := ⟨_, List.getElem?_eq_getElem hlt⟩
   have hmem := List.mem_of_getElem? hx
   have hSx := hS x hmem
   have hcl := Ar cs (cs.length + 1) x.name
   have hfl := xS hS (gV cs (cs.length + 1) x.name)
   have hfl2 : (dM cs (gV cs (cs.length + 1) x.name)).length ≤ 1000000000 := by
    have : (gV cs (cs.length + 1) x.name).length * 1048576 ≤ 17 * 1048576 := Nat.mul_le_mul_right _ (by omega)
    omega
   have hpos : 1 ≤ (gV cs (cs.length + 1) x.name).length := by
    obtain ⟨d, hd⟩ := Ch hmem
    simp [gV, hd]
   generalize hch : gV cs (cs.length + 1) x.name = ch at *
   have hrow : jE cs k = (!(decide (cs.length < ch.length) || nW (dM cs ch)) && iW cs (ch.drop 1) x.methods) := by simp only [jE, hx, hch]
   repeat (first | refine W.q ?_ | refine W.g ?_ QX)
   refine W.ak ah 0 (by decide) ?_
   refine aj 3 sI ?_
   refine au rfl rfl rfl rfl rfl (by simp) cw2 (hch ▸ MI cs (.sl (bJ mn)) x.name hlen _) ?_
   refine xe0 ?_
   have bad : jE cs k = false → pY 0 cs = 60 := fun h => by simp [pY, h16, hn, kR hlt h]
   by_cases hlong : cs.length < ch.length
   ·have hl' : decide ((cs.length : Int) < (ch.length : Int)) = true := by simp; omega
    repeat (first | refine W.q ?_ | refine W.g ?_ QA)
    refine W.cond rfl ?_ ?_
    ·intro _
     refine W.go ?_
     refine W.rt ?_
     simp only [Tryz.f9, bE, aD, toT, fin, exb, simprocAttr]
     rw [bad (by rw [hrow]; simp [hlong])]
    ·intro h; cases h
   ·have hl' : decide ((cs.length : Int) < (ch.length : Int)) = false := by simp; omega
    refine W.go ?_
    refine W.ak ah 0 (by decide) ?_
    refine aj 9 QA ?_
    refine au rfl rfl rfl rfl rfl (by simp) cw2 (Jr cs (.sl (bJ mn)) ch (by omega) (by omega) hfl2 _) ?_
    refine xs0 0 ?_
    refine au rfl rfl rfl rfl rfl (by simp) cw1 (Ag (dM cs ch) (by omega) _) ?_
    refine xe0 ?_
    refine W.cond rfl ?_ ?_
    ·intro h
     refine W.go ?_
     refine W.rt ?_
     simp only [Tryz.f9, bE, aD, toT, fin, exb, simprocAttr]
     rw [bad (by rw [hrow, h]; simp)]
    ·intro htw
     refine W.go ?_
     have hcs : ∀ x ∈ ch.map cStr, x.length = 1 := by simp [cStr]
     refine W.bM ah 0 aF (by kernel_rfl) (by decide) ?_
     refine aj 4 (by simp only [exb, simprocAttr, hpos, eq_true hcs, Nat.le_refl, ← List.map_take, List.take_length, ← List.map_drop]; rfl) ?_
     refine au rfl rfl rfl rfl rfl (by simp) cw3 (Gn cs (.sl (bJ mn)) x (ch.drop 1) (by omega) MG (fun n => Nat.le_trans (hS.eU n).2 (by omega)) (by omega) (fun m hm => Nat.le_trans (hSx.2.2 m hm) (by omega)) _) ?_
     refine xe0 ?_
     refine W.cond rfl ?_ ?_
     ·intro h
      refine W.go ?_
      refine W.rt ?_
      simp only [Tryz.f9, bE, aD, toT, fin, exb, simprocAttr]
      have h' : iW cs (ch.drop 1) x.methods = false := by simpa using h
      rw [bad (by rw [hrow, h']; simp)]
     ·intro h
      have h' : iW cs (ch.drop 1) x.methods = true := by simpa using h
      refine W.go ?_
      refine ⟨k + 1, ⟨hlt, fun i hi => ?_⟩, by omega, ?_⟩
      ·rcases Nat.lt_succ_iff_lt_or_eq.1 hi with q | q
       ·exact hall i q
       ·subst q; rw [hrow, h', htw]; simp [hlong]
      exact oF (aI hkeep)
  ·intro hge
   replace hge := dnl hge
   obtain rfl : k = cs.length := by omega
   refine W.go ?_
   refine W.rt ?_
   simp only [Tryz.f9, bE, aD, toT, fin, exb, simprocAttr]
   simp [pY, h16, hn, xB hall]
theorem mW {w : World} {b : Nat} : ∀ {cs : List Value} {o : Nat}, (∀ (j : Nat) v, cs[j]? = some v → w.cell? ⟨b, o + j, none⟩ = some v) → gL w b o cs
 | [], _, _ => trivial
 | v :: cs, o, h => ⟨by simpa using h 0 v rfl, mW fun j u hj => by have := h (j + 1) u (by simpa using hj); rwa [show o + (j + 1) = o + 1 + j by omega] at this⟩
theorem qZ {w : World} {b : Nat} : ∀ {cs : List Value} {o : Nat}, gL w b o cs → ∀ (j : Nat) v, cs[j]? = some v → w.cell? ⟨b, o + j, none⟩ = some v
 | [], _, _, j, v, h => by simp at h
 | u :: cs, o, h, 0, v, hv => by simp at hv; subst hv; exact h.1
 | u :: cs, o, h, j + 1, v, hv => by
   have := qZ h.2 j v (by simpa using hv)
   rwa [show o + (j + 1) = o + 1 + j by omega]
section
variable {w : World} {I : Nat → Nat → Prop}
theorem p9 {α : Type} {f : α → List C} {sz : Nat} {R : List Value → α → Prop} {J : Nat → Prop} {v : Value} {l : List α} (hI : ∀ b o, I b o → J b) (hz : 0 < sz) (hf : ∀ x ∈ l, (f x).length = sz) (hR : ∀ cs x, x ∈ l → RCs w I cs (f x) → R cs x) (h : RC w I v (.sl (l.map f))) : RSl sz R w J v l := by
 cases h with
 | @sl a n cap e _ g h1 h2 h3 h4 h5 h6 =>
   refine ⟨a, n, cap, rfl, by simpa using h1, h2, by unfold l8; unfold maxLen at h3; omega, fun i x hx => ?_⟩
   have hx' := cZ (f := f) hx
   have hm := List.mem_of_getElem? hx
   have he : e = sz := by rw [← hf x hm, h4 _ (List.mem_of_getElem? hx')]
   subst he
   obtain ⟨b, off, rfl, hc⟩ := h5 _ _ hx'
   refine ⟨b, off, (List.range e).map (g i), rfl, hI b _ (hc 0 hz).1, mW fun j u hj => ?_, hR _ _ hm (RCs.of (by simp [hf x hm]) fun j u c hj hcj => ?_)⟩
   ·rw [List.getElem?_map] at hj
    by_cases hje : j < e
    ·rw [List.getElem?_range hje] at hj; cases hj; exact (hc j hje).2
    ·rw [List.getElem?_eq_none (by simp; omega)] at hj; cases hj
   ·rw [List.getElem?_map] at hj
    by_cases hje : j < e
    ·rw [List.getElem?_range hje] at hj; cases hj; exact h6 _ _ _ _ hx' hcj
    ·rw [List.getElem?_eq_none (by simp; omega)] at hj; cases hj
theorem nV {α : Type} {f : α → List C} {sz : Nat} {R : List Value → α → Prop} {J : Nat → Prop} {v : Value} {l : List α} (hI : ∀ b o, J b → I b o) (hR : ∀ cs x, x ∈ l → R cs x → cs.length = sz ∧ RCs w I cs (f x)) (h : RSl sz R w J v l) : RC w I v (.sl (l.map f)) := by
 obtain ⟨a, n, cap, rfl, h1, h2, h3, h4⟩ := h
 have hch : ∀ (i : Nat) x, l[i]? = some x → ∃ cs : List Value, ∃ b off, a = some ⟨b, off, none⟩ ∧ J b ∧ gL w b (off + i * sz) cs ∧ cs.length = sz ∧ RCs w I cs (f x) := fun i x hx => by
  obtain ⟨b, off, cs, e1, e2, e3, e4⟩ := h4 i x hx
  obtain ⟨e5, e6⟩ := hR cs x (List.mem_of_getElem? hx) e4
  exact ⟨cs, b, off, e1, e2, e3, e5, e6⟩
 obtain ⟨g, hg⟩ : ∃ g : Nat → List Value, ∀ (i : Nat) x, l[i]? = some x → ∃ b off, a = some ⟨b, off, none⟩ ∧ J b ∧ gL w b (off + i * sz) (g i) ∧ (g i).length = sz ∧ RCs w I (g i) (f x) := by
  have : ∀ i, ∃ g : List Value, ∀ x, l[i]? = some x → ∃ b off, a = some ⟨b, off, none⟩ ∧ J b ∧ gL w b (off + i * sz) g ∧ g.length = sz ∧ RCs w I g (f x) := fun i => by
   cases hx : l[i]? with
   | none => exact ⟨[], fun x h => by cases h⟩
   | some x =>
     obtain ⟨cs, b, off, q⟩ := hch i x hx
     exact ⟨cs, fun y hy => by cases hy; exact ⟨b, off, q⟩⟩
  exact Classical.skolem.1 this
 have el : ∀ (i : Nat) y, (l.map f)[i]? = some y → ∃ x, l[i]? = some x ∧ y = f x := fun i y hy => by
  rw [List.getElem?_map] at hy
  cases hx : l[i]? with
  | none => rw [hx] at hy; cases hy
  | some x => rw [hx] at hy; exact ⟨x, rfl, (Option.some.inj hy).symm⟩
 refine .sl (e := sz) (fun i j => (g i).getD j undef) BR h2 (by unfold maxLen; unfold l8 at h3; omega) (fun y hy => ?_) (fun i y hy => ?_) (fun i j y c hy hc => ?_)
 ·obtain ⟨i, hi⟩ := List.getElem?_of_mem hy
  obtain ⟨x, hx, rfl⟩ := el i y hi
  obtain ⟨b, off, -, -, -, q1, q2⟩ := hg i x hx
  rw [← q2.length, q1]
 ·obtain ⟨x, hx, rfl⟩ := el i y hy
  obtain ⟨b, off, q1, q2, q3, q4, -⟩ := hg i x hx
  refine ⟨b, off, q1, fun j hj => ⟨hI b _ q2, ?_⟩⟩
  have hj' : j < (g i).length := by omega
  rw [qZ q3 j _ (List.getElem?_eq_getElem hj')]
  simp [hj']
 ·obtain ⟨x, hx, rfl⟩ := el i y hy
  obtain ⟨b, off, -, -, -, -, q2⟩ := hg i x hx
  obtain ⟨u, h5, h6⟩ := q2.at j c hc
  simp [h5]; exact h6
variable (hI : ∀ b o, I b o → b < w.heap.size)
theorem Mh {cs : List Value} {x : Slot} (h : RCs w I cs (bC x)) : DW cs x := by
 match cs, h with
 | [a, b], ⟨h1, h2, _⟩ => exact ⟨by rw [h1.toStr.1, h2.toStr.1], h1.toStr.2, h2.toStr.2⟩
theorem Et {cs : List Value} {x : Slot} (h : DW cs x) : cs.length = 2 ∧ RCs w I cs (bC x) := by
 obtain ⟨rfl, h1, h2⟩ := h
 exact ⟨rfl, .str h1, .str h2, trivial⟩
include hI in
theorem FH {v : Value} {l : List Slot} (h : RC w I v (.sl (l.map bC))) : lT w (· < w.heap.size) v l := p9 hI (by decide) (fun _ _ => rfl) (fun _ _ _ h => Mh h) h
mutual
def sN : Expr → Nat
 | ⟨_, _, _, kids⟩ => mY kids + 1
def mY : List Expr → Nat
 | [] => 0
 | x :: l => max (sN x) (mY l)
end
theorem uj {l : List Expr} {x : Expr} (h : x ∈ l) : sN x ≤ mY l := by
 induction l with
 | nil => simp at h
 | cons y l ih =>
   simp only [mY]
   rcases List.mem_cons.1 h with rfl | h
   ·omega
   ·have := ih h; omega
include hI in
theorem A8 : ∀ (d : Nat) {cs : List Value} {x : Expr}, sN x ≤ d → RCs w I cs (cExpr x) → iG d w (· < w.heap.size) cs x
 | 0, cs, ⟨k, n, nm, kids⟩, hd, _ => by simp [sN] at hd
 | d + 1, cs, ⟨k, n, nm, kids⟩, hd, h => by
   simp only [cExpr] at h
   match cs, h with
   | [a, b, c, e], ⟨h1, h2, h3, h4, _⟩ =>
     simp only [sN] at hd
     rw [eZ] at h4
     refine ⟨e, by rw [h1.toInt.1, h2.toInt.1, h3.toStr.1], h1.toInt.2, h2.toInt.2, h3.toStr.2, p9 hI (by decide) (fun x _ => by cases x; rfl) (fun cs x hx hc => A8 d (by have h' : sN x ≤ mY kids := uj hx; omega) hc) h4⟩
theorem EP (hJ : ∀ b o, b < w.heap.size → I b o) : ∀ (d : Nat) {cs : List Value} {x : Expr}, iG d w (· < w.heap.size) cs x → cs.length = 4 ∧ RCs w I cs (cExpr x)
 | 0, _, _, h => h.elim
 | d + 1, cs, ⟨k, n, nm, kids⟩, ⟨kv, h1, h2, h3, h4, h5⟩ => by
   subst h1
   refine ⟨rfl, .int h2, .int h3, .str h4, ?_, trivial⟩
   rw [eZ]
   exact nV hJ (fun _ _ _ h => EP hJ d h) h5
mutual
def sJ : Stmt → Nat
 | ⟨_, _, _, _, es, th, el⟩ => max (mY es) (max (jI th) (jI el)) + 1
def jI : List Stmt → Nat
 | [] => 0
 | x :: l => max (sJ x) (jI l)
end
theorem pG {l : List Stmt} {x : Stmt} (h : x ∈ l) : sJ x ≤ jI l := by
 induction l with
 | nil => simp at h
 | cons y l ih =>
   simp only [jI]
   rcases List.mem_cons.1 h with rfl | h
   ·omega
   ·have := ih h; omega
include hI in
theorem Am : ∀ (d : Nat) {cs : List Value} {x : Stmt}, sJ x ≤ d → RCs w I cs (dx x) → gZ d w (· < w.heap.size) cs x
 | 0, cs, ⟨k, n, ty, nm, es, th, el⟩, hd, _ => by simp [sJ] at hd
 | d + 1, cs, ⟨k, n, ty, nm, es, th, el⟩, hd, h => by
   simp only [dx] at h
   match cs, h with
   | [a, b, c, e, f, g, i], ⟨h1, h2, h3, h4, h5, h6, h7, _⟩ =>
     simp only [sJ] at hd
     rw [eZ] at h5
     rw [dO] at h6 h7
     refine ⟨f, g, i, by rw [h1.toInt.1, h2.toInt.1, h3.toStr.1, h4.toStr.1], h1.toInt.2, h2.toInt.2, h3.toStr.2, h4.toStr.2, p9 hI (by decide) (fun x _ => by cases x; rfl) (fun cs x hx hc => A8 hI d (by have h' : sN x ≤ mY es := uj hx; omega) hc) h5,
      p9 hI (by decide) (fun x _ => by cases x; rfl) (fun cs x hx hc => Am d (by have h' : sJ x ≤ jI th := pG hx; omega) hc) h6, p9 hI (by decide) (fun x _ => by cases x; rfl) (fun cs x hx hc => Am d (by have h' : sJ x ≤ jI el := pG hx; omega) hc) h7⟩
theorem vM (hJ : ∀ b o, b < w.heap.size → I b o) : ∀ (d : Nat) {cs : List Value} {x : Stmt}, gZ d w (· < w.heap.size) cs x → cs.length = 7 ∧ RCs w I cs (dx x)
 | 0, _, _, h => h.elim
 | d + 1, cs, ⟨k, n, ty, nm, es, th, el⟩, ⟨ev, tv, fv, h1, h2, h3, h4, h5, h6, h7, h8⟩ => by
   subst h1
   refine ⟨rfl, .int h2, .int h3, .str h4, .str h5, ?_, ?_, ?_, trivial⟩
   ·rw [eZ]; exact nV hJ (fun _ _ _ h => EP hJ d h) h6
   ·rw [dO]; exact nV hJ (fun _ _ _ h => vM hJ d h) h7
   ·rw [dO]; exact nV hJ (fun _ _ _ h => vM hJ d h) h8
include hI in
theorem E8 {v : Value} {l : List Stmt} {d : Nat} (hd : jI l ≤ d) (h : RC w I v (.sl (bJ l))) : jH d w (· < w.heap.size) v l := by
 rw [dO] at h
 exact p9 hI (by decide) (fun x _ => by cases x; rfl) (fun cs x hx hc => Am hI d (by have h' : sJ x ≤ jI l := pG hx; omega) hc) h
def yZ (x : Method) : Nat := jI x.body
include hI in
theorem tK {cs : List Value} {x : Method} {d : Nat} (hd : yZ x ≤ d) (h : RCs w I cs (aS x)) : jk d w (· < w.heap.size) cs x := by
 match cs, h with
 | [a, b, c, e], ⟨h1, h2, h3, h4, _⟩ => exact ⟨c, e, by rw [h1.toStr.1, h2.toStr.1], h1.toStr.2, h2.toStr.2, FH hI h3, E8 hI hd h4⟩
theorem Gz (hJ : ∀ b o, b < w.heap.size → I b o) {d : Nat} {cs : List Value} {x : Method} (h : jk d w (· < w.heap.size) cs x) : cs.length = 4 ∧ RCs w I cs (aS x) := by
 obtain ⟨pv, bv, rfl, h1, h2, h3, h4⟩ := h
 refine ⟨rfl, .str h1, .str h2, nV hJ (fun _ _ _ h => Et h) h3, ?_, trivial⟩
 rw [dO]; exact nV hJ (fun _ _ _ h => vM hJ d h) h4
def NY (l : List Nat) : Nat := l.foldr max 0
theorem AV {l : List Nat} {x : Nat} (h : x ∈ l) : x ≤ NY l := by
 induction l with
 | nil => simp at h
 | cons y l ih =>
   simp only [NY, List.foldr_cons] at ih ⊢
   rcases List.mem_cons.1 h with rfl | h
   ·omega
   ·have := ih h; omega
def Du (x : Class) : Nat := NY (x.methods.map yZ)
include hI in
theorem Bz {cs : List Value} {x : Class} {d : Nat} (hd : Du x ≤ d) (h : RCs w I cs (ay x)) : kG d w (· < w.heap.size) cs x := by
 match cs, h with
 | [a, b, c, e], ⟨h1, h2, h3, h4, _⟩ =>
   exact ⟨c, e, by rw [h1.toStr.1, h2.toStr.1], h1.toStr.2, h2.toStr.2, FH hI h3, p9 hI (by decide) (fun _ _ => rfl) (fun cs m hm hc => tK hI (Nat.le_trans (AV (List.mem_map_of_mem hm)) hd) hc) h4⟩
theorem KG (hJ : ∀ b o, b < w.heap.size → I b o) {d : Nat} {cs : List Value} {x : Class} (h : kG d w (· < w.heap.size) cs x) : cs.length = 4 ∧ RCs w I cs (ay x) := by
 obtain ⟨pv, bv, rfl, h1, h2, h3, h4⟩ := h
 exact ⟨rfl, .str h1, .str h2, nV hJ (fun _ _ _ h => Et h) h3, nV hJ (fun _ _ _ h => Gz hJ h) h4, trivial⟩
theorem Az (hI : ∀ b o, I b o → b < w.heap.size) {v : Value} {l : List Class} : ∃ d, RC w I v (.sl (l.map ay)) → mK d w (· < w.heap.size) v l :=
 ⟨NY (l.map Du), fun h => p9 hI (by decide) (fun _ _ => rfl) (fun _ _ hm hc => Bz hI (AV (List.mem_map_of_mem hm)) hc) h⟩
theorem Em {v : Value} {p : Program} (hI : ∀ b o, I b o → b < w.heap.size) (h : ∃ us, v = .agg us.toArray ∧ RCs w I us (dz p)) : ∃ d, iV d w (· < w.heap.size) v p := by
 obtain ⟨us, rfl, h⟩ := h
 match us, h with
 | [a, b], ⟨h1, h2, _⟩ =>
   refine ⟨max (NY (p.classes.map Du)) (jI p.main), a, b, rfl, ?_, E8 hI (by omega) h2⟩
   exact p9 hI (by decide) (fun _ _ => rfl) (fun _ _ hm hc => Bz hI (by have := AV (List.mem_map_of_mem (f := Du) hm); omega) hc) h1
theorem Mg (hJ : ∀ b o, b < w.heap.size → I b o) {d : Nat} {v : Value} {p : Program} (h : iV d w (· < w.heap.size) v p) : ∃ us, v = .agg us.toArray ∧ RCs w I us (dz p) := by
 obtain ⟨cv, mv, rfl, h1, h2⟩ := h
 refine ⟨[cv, mv], rfl, nV hJ (fun _ _ _ h => KG hJ h) h1, ?_, trivial⟩
 rw [dO]; exact nV hJ (fun _ _ _ h => vM hJ d h) h2
end
section
variable {H : Type} {enc : TypeId × Value → H} {w : World} {held : Bool}
theorem EG (d : DataW H) : 1 ≤ Rows.uptoBulk d := by
 cases d with
 | lit l => cases l <;> simp [Rows.uptoBulk]
 | _ => simp [Rows.uptoBulk]
theorem oH {d : DataW H} {l : List (DataW H)} (h : d ∈ l) : Rows.uptoBulk d ≤ Rows.uptoBulkAll l := by
 induction l with
 | nil => cases h
 | cons x r ih =>
   simp only [Rows.uptoBulkAll]
   rcases List.mem_cons.1 h with rfl | e
   ·omega
   ·have := ih e; omega
theorem K7 (l : List (DataW H)) : l.length ≤ Rows.uptoBulkAll l := by
 induction l with
 | nil => simp [Rows.uptoBulkAll]
 | cons x r ih => have := EG x; simp only [Rows.uptoBulkAll, List.length_cons]; omega
theorem AA {b off : Nat} {cs cs' : List Value} (h : gL w b off cs) (k : ∀ i, i < cs'.length → w.cell? ⟨b, off + i, none⟩ = cs'[i]?) (hl : cs.length = cs'.length) : cs = cs' := by
 refine List.ext_getElem? fun i => ?_
 by_cases hi : i < cs.length
 ·have h1 := qZ h i _ (List.getElem?_eq_getElem hi)
  have h2 := k i (by omega)
  rw [List.getElem?_eq_getElem hi, ← h2, ← h1]
 ·rw [List.getElem?_eq_none (by omega), List.getElem?_eq_none (by omega)]
theorem eY {α : Type} {P : Go.Program} {t e : TypeId} {sz fuel : Nat} {v : Value} {x : DataW H × List MemPlace} {R : List Value → α → Prop} {J : Nat → Prop} {l : List α} (ht : P.underlying t = some (.slice e)) (hsz : P.cellsOf e = sz) (hpos : 0 < sz)
 (hlen : ∀ cs y, R cs y → cs.length = sz) (h : DataW.trod enc P w 0 (fun _ => true) held fuel t [v] = some x) (hR : RSl sz R w J v l) :
 l.length ≤ Rows.uptoBulk x.1 ∧ ∀ y ∈ l, ∃ n cs z, R cs y ∧ DataW.trod enc P w 0 (fun _ => true) held n e cs = some z ∧ Rows.uptoBulk z.1 ≤ Rows.uptoBulk x.1 := by
 obtain ⟨a, n, cap, rfl, hn, -, -, hel⟩ := hR
 rcases DataW.trod_slice ht h with ⟨e1, rfl⟩ | ⟨a', len, cap', elems, rest, m, -, e1, hxe, -, -, -, hlen', hall, -, -⟩
 ·simp only [List.cons.injEq, Value.slice.injEq, and_true] at e1
  obtain ⟨-, rfl, -⟩ := e1
  obtain rfl : l = [] := List.length_eq_zero_iff.1 hn
  exact ⟨Nat.zero_le _, fun y hy => by cases hy⟩
 ·simp only [List.cons.injEq, Value.slice.injEq, and_true] at e1
  obtain ⟨rfl, rfl, rfl⟩ := e1
  subst hxe
  have hb : Rows.uptoBulkAll (elems.map (·.1)) ≤ Rows.uptoBulk (DataW.slice (elems.map (·.1)) (rest.map (·.1))) := by simp only [Rows.uptoBulk]; omega
  refine ⟨?_, fun y hy => ?_⟩
  ·refine Nat.le_trans ?_ hb
   have := K7 (elems.map (·.1))
   rw [List.length_map] at this
   omega
  ·obtain ⟨i, hi⟩ := List.getElem?_of_mem hy
   have hil := (List.getElem?_eq_some_iff.1 hi).1
   obtain ⟨b, off, cs, ea, -, hc, hr⟩ := hel i y hi
   cases ea
   have h1 := hall i (by omega)
   rw [hsz] at h1
   have hz : ∃ z, elems[i]? = some z := ⟨elems[i]'(by omega), List.getElem?_eq_getElem (by omega)⟩
   obtain ⟨z, hz⟩ := hz
   rw [hz] at h1
   cases hcell : w.cells? 0 ((⟨b, off, none⟩ : Addr).add (i * sz)) sz with
   | none => rw [hcell] at h1; simp at h1
   | some cs' =>
     rw [hcell] at h1
     have h1' : DataW.trod enc P w 0 (fun _ => true) held m e cs' = some z := by simpa using h1
     obtain ⟨_, hlen2, hcs⟩ := World.cells?_some hcell
     have : cs = cs' := AA hc (fun j hj => by
      have := hcs j (by omega)
      rw [← this]
      congr 1
      have h3 : ∀ (o k : Nat), (⟨b, o, none⟩ : Addr).add k = ⟨b, o + k, none⟩ := fun o k => by
       unfold Addr.add
       by_cases hk : k = 0
       ·subst hk; rfl
       ·simp [hk]
      rw [h3, h3]) (by rw [hlen _ _ hr, hlen2])
     subst this
     exact ⟨m, cs, z, hr, h1', Nat.le_trans (oH (List.mem_map_of_mem (List.mem_of_getElem? hz))) hb⟩
theorem dX {P : Go.Program} {t : TypeId} {fl : List (TypeId × Nat)} {fuel : Nat} {cs : List Value} {x : DataW H × List MemPlace}
 (hf : (P.underlying t).map (fun d => match d with | .struct fs => fs.toList.map (fun f => (f.type, f.offset)) | _ => []) = some fl) (hne : fl ≠ [])
 (h : DataW.trod enc P w 0 (fun _ => true) held fuel t cs = some x) : ∀ k ∈ fl, ∃ n y, DataW.trod enc P w 0 (fun _ => true) held n k.1 ((cs.drop k.2).take (P.cellsOf k.1)) = some y ∧ Rows.uptoBulk y.1 ≤ Rows.uptoBulk x.1 := by
 cases hu : P.underlying t with
 | none => rw [hu] at hf; simp at hf
 | some d =>
   rw [hu] at hf
   simp only [Option.map_some, Option.some.injEq] at hf
   cases d with
   | struct fs =>
     simp only at hf
     obtain ⟨xs, n, hfu, hxe, hl, hlen, hall⟩ := DataW.trod_struct hu h
     intro k hk
     rw [← hf] at hk
     obtain ⟨f, hfm, rfl⟩ := List.mem_map.1 hk
     obtain ⟨i, hi⟩ := List.mem_iff_getElem?.1 hfm
     have hi' : fs[i]? = some f := by rw [← Array.getElem?_toList]; exact hi
     have := hall i f hi'
     have hlt : i < xs.length := by
      rw [hlen]
      exact (Array.getElem?_eq_some_iff.1 hi').1
     refine ⟨n, xs[i], by simpa [List.getElem?_eq_getElem hlt] using this, ?_⟩
     have h1 : xs[i].1 ∈ xs.map (·.1) := List.mem_map_of_mem (List.getElem_mem hlt)
     have h2 := oH h1
     subst hxe
     simp only [Rows.uptoBulk]
     omega
   | _ => simp only at hf; exact absurd hf.symm hne
theorem Nl {d fuel N : Nat} {cs : List Value} {x : DataW H × List MemPlace} {p : Program} (hp : iV d w (· < w.heap.size) (.agg cs.toArray) p) (h : DataW.trod enc Tryz.prog w 0 (fun _ => true) held fuel 25 cs = some x) (hN : Rows.uptoBulk x.1 ≤ N) :
 p.classes.length ≤ N ∧ ∀ c ∈ p.classes, c.fields.length ≤ N ∧ c.methods.length ≤ N ∧ ∀ m ∈ c.methods, m.params.length ≤ N := by
 obtain ⟨cv, mv, e1, h1, -⟩ := hp
 have e2 : cs = [cv, mv] := by simpa using congrArg Array.toList (Value.agg.inj e1)
 subst e2
 obtain ⟨n1, y1, k1, b1⟩ := dX jO (by simp) h (22, 0) (by simp)
 rw [aX _ rT _ _ _ rfl] at k1
 obtain ⟨l1, hall⟩ := eY Tryz.underlying22 uU (by decide) (fun cs y hy => by obtain ⟨_, _, rfl, -⟩ := hy; rfl) k1 h1
 refine ⟨by omega, fun c hc => ?_⟩
 obtain ⟨n2, cs2, y2, hc2, k2, b2⟩ := hall c hc
 obtain ⟨fv, mv2, rfl, -, -, hf, hm⟩ := hc2
 obtain ⟨n3, y3, k3, b3⟩ := dX lH (by simp) k2 (26, 2) (by simp)
 obtain ⟨n4, y4, k4, b4⟩ := dX lH (by simp) k2 (40, 3) (by simp)
 rw [aX _ yO _ _ _ rfl] at k3
 rw [aX _ rQ _ _ _ rfl] at k4
 obtain ⟨l3, -⟩ := eY Tryz.underlying26 DV (by decide) (fun cs y hy => by obtain ⟨rfl, -⟩ := hy; rfl) k3 hf
 obtain ⟨l4, hall4⟩ := eY Tryz.underlying40 qA (by decide) (fun cs y hy => by obtain ⟨_, _, rfl, -⟩ := hy; rfl) k4 hm
 refine ⟨by omega, by omega, fun m hmm => ?_⟩
 obtain ⟨n5, cs5, y5, hc5, k5, b5⟩ := hall4 m hmm
 obtain ⟨pv, bv, rfl, -, -, hps, -⟩ := hc5
 obtain ⟨n6, y6, k6, b6⟩ := dX l7 (by simp) k5 (26, 2) (by simp)
 rw [aX _ yO _ _ _ rfl] at k6
 obtain ⟨l6, -⟩ := eY Tryz.underlying26 DV (by decide) (fun cs y hy => by obtain ⟨rfl, -⟩ := hy; rfl) k6 hps
 omega
end
section
variable {H : Type} {enc : TypeId × Value → H} {w : World} {held : Bool}
theorem Mc {α β : Type} (f : α → Nat) (g : β → Nat) : ∀ (l : List α) (e : List β), l.length ≤ e.length → (∀ (i : Nat) x y, l[i]? = some x → e[i]? = some y → f x ≤ g y) → (l.map f).sum ≤ (e.map g).sum
 | [], _, _, _ => by simp
 | x :: l, [], h, _ => by simp at h
 | x :: l, y :: e, h, hp => by
   have h1 := hp 0 x y rfl rfl
   have h2 := Mc f g l e (by simpa using h) (fun i a b ha hb => hp (i + 1) a b (by simpa using ha) (by simpa using hb))
   simp only [List.map_cons, List.sum_cons]
   omega
theorem FK : ∀ l : List (DataW H), Rows.uptoBulkAll l = (l.map Rows.uptoBulk).sum
 | [] => by simp [Rows.uptoBulkAll]
 | x :: l => by simp [Rows.uptoBulkAll, FK l]
theorem wG {α : Type} {P : Go.Program} {t e : TypeId} {sz fuel : Nat} {v : Value} {x : DataW H × List MemPlace} {R : List Value → α → Prop} {J : Nat → Prop} {l : List α} (cnt : α → Nat) (ht : P.underlying t = some (.slice e)) (hsz : P.cellsOf e = sz) (hpos : 0 < sz)
 (hlen : ∀ cs y, R cs y → cs.length = sz) (h : DataW.trod enc P w 0 (fun _ => true) held fuel t [v] = some x) (hR : RSl sz R w J v l) (hc : ∀ y ∈ l, ∀ n cs z, R cs y → DataW.trod enc P w 0 (fun _ => true) held n e cs = some z → cnt y ≤ Rows.uptoBulk z.1) :
 (l.map cnt).sum + 1 ≤ Rows.uptoBulk x.1 := by
 obtain ⟨a, n, cap, rfl, hn, -, -, hel⟩ := hR
 rcases DataW.trod_slice ht h with ⟨e1, rfl⟩ | ⟨a', len, cap', elems, rest, m, -, e1, hxe, -, -, -, hlen', hall, -, -⟩
 ·simp only [List.cons.injEq, Value.slice.injEq, and_true] at e1
  obtain ⟨-, rfl, -⟩ := e1
  obtain rfl : l = [] := List.length_eq_zero_iff.1 hn
  have := EG (H := H) DataW.nil
  simpa using this
 ·simp only [List.cons.injEq, Value.slice.injEq, and_true] at e1
  obtain ⟨rfl, rfl, rfl⟩ := e1
  subst hxe
  have hb : Rows.uptoBulkAll (elems.map (·.1)) + 1 ≤ Rows.uptoBulk (DataW.slice (elems.map (·.1)) (rest.map (·.1))) := by simp only [Rows.uptoBulk]; omega
  refine Nat.le_trans (Nat.succ_le_succ ?_) hb
  rw [FK, List.map_map]
  refine Mc cnt _ l elems (by omega) fun i y z hi hz => ?_
  have hil := (List.getElem?_eq_some_iff.1 hi).1
  obtain ⟨b, off, cs, ea, -, hcc, hr⟩ := hel i y hi
  cases ea
  have h1 := hall i (by omega)
  rw [hsz, hz] at h1
  cases hcell : w.cells? 0 ((⟨b, off, none⟩ : Addr).add (i * sz)) sz with
  | none => rw [hcell] at h1; simp at h1
  | some cs' =>
    rw [hcell] at h1
    have h1' : DataW.trod enc P w 0 (fun _ => true) held m e cs' = some z := by simpa using h1
    obtain ⟨_, hlen2, hcs⟩ := World.cells?_some hcell
    have : cs = cs' := AA hcc (fun j hj => by
     have := hcs j (by omega)
     rw [← this]
     congr 1
     have h3 : ∀ (o k : Nat), (⟨b, o, none⟩ : Addr).add k = ⟨b, o + k, none⟩ := fun o k => by
      unfold Addr.add
      by_cases hk : k = 0
      ·subst hk; rfl
      ·simp [hk]
     rw [h3, h3]) (by rw [hlen _ _ hr, hlen2])
    subst this
    exact hc y (List.mem_of_getElem? hi) m cs z hr h1'
end
end V
end Go.Proofs.YthhpcjoaogmhbaaGreatDoor
end
section
namespace Go.Proofs.YthhpcjoaogmhbaaGreatDoor
open Go.ChangeShapes Go.WideShapes Go.ChangeAt Go.RowKit
open Go.ChangeMaps (open_string shut_string)
theorem own : ownKnob Tryz.prog.godebug = none := by kernel_rfl
theorem laidOut : laidOutB Tryz.prog = true := by kernel_rfl
namespace V
theorem Pv {f : FuncId} {args : List A} {r : A} {W : World} {vals : List Value} (h : COk Tryz.prog f args Mem.nil r) (hg : GlobOk W) (hv : ∀ B, RVl B W (fun b _ => b < W.heap.size) args vals) :
 Calls Tryz.prog f vals.toArray W fun e w' => ∃ v, e = .returned v ∧ Below W.heap.size W w' ∧ ∃ B I', RV B w' I' r v := by
 obtain ⟨-, -, h⟩ := h
 have hm : MR W (fun b _ => b < W.heap.size) (fun _ => undef) (fun b _ => b < W.heap.size) Mem.nil W :=
  ⟨Below.refl _ _, hg, fun _ _ h => h, fun _ _ h => .inl h, fun _ _ h => h, (fun _ _ h => by simp [Mem.nil] at h), (fun _ _ h => by simp [Mem.nil] at h), (fun _ _ _ _ h => by simp [Mem.nil] at h), (fun _ _ h => by simp [Mem.nil] at h)⟩
 refine (h Mem.nil (fun _ _ => rfl) W _ _ _ W vals hm (hv _)).mono ?_
 rintro e w' ⟨v, I', rfl, hb, -, -, hr⟩
 exact ⟨v, rfl, hb, _, _, hr⟩
theorem MF {f : FuncId} {args : List A} {W : World} {vals : List Value} (h : COk Tryz.prog f args Mem.nil (.c (.bool true))) (hg : GlobOk W) (hv : ∀ B, RVl B W (fun b _ => b < W.heap.size) args vals) :
 Calls Tryz.prog f vals.toArray W fun e w' => e = .returned (.bool true) ∧ Below W.heap.size W w' := by
 refine (Pv h hg hv).mono ?_
 rintro e w' ⟨v, rfl, hb, B, I', hr⟩
 have hr : RC w' I' v (.bool true) := hr
 cases hr
 exact ⟨rfl, hb⟩
theorem O1 {B : Nat → Value} {W : World} {d : Nat} {v : Value} {p : Program} (h : iV d W (· < W.heap.size) v p) : RV B W (fun b _ => b < W.heap.size) (.agg (dz p)) v :=
 Mg (fun _ _ h => h) h
end V
end Go.Proofs.YthhpcjoaogmhbaaGreatDoor
end
section
namespace Go.Proofs.YthhpcjoaogmhbaaGreatDoor
open Go.ChangeShapes Go.WideShapes Go.ChangeAt Go.RowKit
open V
theorem Bv {P : Go.Program} {W : World} {name : String} {k : IntKind} {zs : List Int} {g : Nat} {t e : TypeId} {n : Nat}
 (hg : P.globalNamed name = some g) (hty : (P.globals[g]?).map (·.type) = some t) (ht : P.underlying t = some (.array n e)) (he : P.underlying e = some (.int k)) (hce : P.cellsOf e = 1) (hct : P.cellsOf t = n) {rest : List (String × DataW Unit)} {ps : List MemPlace}
 (h : DataW.LaidVars P W ((name, Lib.tabData k zs) :: rest) ps) : Lib.TabIs P W name k zs := by
 obtain ⟨g', t', cs, fuel, p, q, hg', ht', hvar, hd, _, _⟩ := h
 obtain rfl := Option.some.inj (hg.symm.trans hg')
 obtain rfl := Option.some.inj (hty.symm.trans ht')
 unfold Lib.TabIs
 rw [hvar, ← Lib.cells_of_tab ht he hce hct hd]
theorem S9 : Tryz.prog.globalNamed "internal/strconv.uint64pow10" = some 0 := by kernel_rfl
theorem OH {W : World} (h : laidMetH Tryz.prog Rows.checkSightUptoRow.laid W) : Lib.TabIs Tryz.prog W "internal/strconv.uint64pow10" .u64 Lib.pow10Tab := by
 obtain ⟨ps, ⟨_, _, _, _, _, q1, _, _, _, _, ⟨_, _, _, _, _, q2, _, _, _, _, h3, _⟩, _⟩, _⟩ := h
 exact Bv (zs := Lib.pow10Tab) S9 (by kernel_rfl) Tryz.underlying154 Tryz.underlying147 (by kernel_rfl) (by kernel_rfl) h3
def MN : DataW Unit → Array Value
 | .agg l => (l.map fun | .lit (.int k z) => Value.int k z | _ => undef).toArray
 | _ => #[]
def F6 (h : Array Obj) (g : Nat) (d : DataW Unit) : Array Obj := h.modify g fun
 | .cells _ t frozen => .cells (MN d) t frozen
 | o => o
noncomputable def wm (os : Os) : World :=
 { World.holding Tryz.prog os ⟨#[], #[], []⟩ with heap := F6 (F6 (F6 (World.holding Tryz.prog os ⟨#[], #[], []⟩).heap 2 Rows.laid_math_bits_deBruijn32tab) 3 Rows.laid_math_bits_deBruijn64tab) 0 Rows.laid_internal_strconv_uint64pow10 }
section
variable {H : Type} {enc : TypeId × Value → H} {w : World} {held : Bool}
end
end Go.Proofs.YthhpcjoaogmhbaaGreatDoor
end
section
namespace Go.Proofs.YthhpcjoaogmhbaaGreatDoor
open Go.Shelf Go.RowKit Go.Lib
section
variable {P : Go.Program} {ρ : Ren}
set_option maxHeartbeats 2000000 in
set_option maxRecDepth 100000 in
theorem GR (L : SlLaysE0.n41 P ρ) (i0 : TypeInfo) (z : Value) (size bytes : Nat) (hi : P.info? (ρ.t 23) = some i0) (hz0 : i0.zero = some z) (hz1 : i0.size = size) (hz2 : i0.bytes = bytes) (hzs : z.cells.size = size) (hsz : 0 < size)
 (z23 : ∀ w, (Go.sizeOf (ρ.t 23)).run P w = .ok size w) (p : Addr) (c : Nat) (w : World) :
 Calls P (ρ.f 41) #[.slice (some p) 0 c] w fun e w' => ∃ v', e = .returned v' ∧ w'.ownsRow w.heap.size (ρ.t 23) size v' 0 [] ∧ Below w.heap.size w w' := by
 have mixed := L.mixed; have t4 := L.t4; have a4 := L.a4; have z4 := L.z4; have v4 := L.v4; have t22 := L.t22; have a22 := L.a22; have z22 := L.z22; have v22 := L.v22
 have q22 : ∀ (w : World) (a : Option Addr) (n c n' c' : Nat), (binOp .eql (ρ.t 22) (.slice a n c) (.slice none n' c')).run P w = .ok (.bool a.isNone) w := fun w a n c n' c' => Lib.run_eql_slice_nil w _ _ a n c n' c' L.t22
 have u22 : ∀ w, Sem.run P (underlying (ρ.t 22)) w = .ok (TypeDesc.slice (ρ.t 23)) w := run_underlying t22
 obtain ⟨_, _, FG⟩ := L.f41
 go_enter FG, SlBodyN.n41_ntmps ρ
 go_wp2_with (at_builtin; refine wpList_append_own _ rfl _ _ (ρ.t 22) rfl w.heap.size (ρ.t 23) i0 z size bytes t22 hi hz0 hz1 hz2 hzs hsz _ _ _ rfl (World.ownsRow_made w #[] 0 (Nat.le_refl _) (Nat.zero_le _) (by simp)) p 0 c [] rfl ?qc1 ?qc2 ?qc3 ?qc4 ?qc5 ?qc6 ?_)
 case qc1 => simp
 case qc2 =>
  intro j u hj
  simp at hj
 case qc3 => intro u hu; cases hu
 case qc4 => rw [Nat.zero_add]; exact Nat.zero_le _
 case qc5 => rw [Nat.zero_add, Nat.zero_mul]; exact Nat.zero_le _
 case qc6 => simp
 intro v' w1 hown hgrow hnil
 go_wp2
 go_ret
 exact ⟨v', rfl, by simpa using hown, ((Below.refl _ w).alloc (Nat.le_refl _) _).grown hgrow (by simp) (by intro k hk; simp [Value.ownBlock] at hk; omega)⟩
end
namespace V
section
variable {w0 w w' : World} {I0 I I' : Nat → Nat → Prop} {B : Nat → Value} {M : Mem}
theorem o7 {B B' : Nat → Value} {j : Nat} {o : O} {k : Nat} (h : B' j = B j) : foot B' j o k = foot B j o k := by
 cases o <;> simp only [foot, h]
theorem MR.fresh (h : MR w0 I0 B I M w) {id : Nat} (hid : M id = none) {v : Value} {o' : O} (hb : Below w.heap.size w w') (hf : ∀ k, foot (upd B id v) id o' k → w.heap.size ≤ k ∧ k < w'.heap.size) (hE : Ext w w' I I')
 (hI' : ∀ b p, I' b p → I b p ∨ foot (upd B id v) id o' b) (hob : RO (upd B id v) w' I' id o') (hl : o'.ids = []) : MR w0 I0 (upd B id v) I' (upd M id (some o')) w' := by
 have hne : ∀ j, (M j).isSome = true → j ≠ id := fun j hj e => by subst e; rw [hid] at hj; cases hj
 have hB : ∀ j, (M j).isSome = true → upd B id v j = B j := fun j hj => upd_ne _ _ (hne j hj)
 have liv : ∀ j, (M j).isSome = true → (upd M id (some o') j).isSome = true := fun j hj => by rw [upd_ne _ _ (hne j hj)]; exact hj
 have other : ∀ {j : Nat} {z : O}, upd M id (some o') j = some z → (j = id ∧ z = o') ∨ (j ≠ id ∧ M j = some z) := fun {j z} hz => by
  unfold upd at hz
  split at hz
  ·rename_i e; exact .inl ⟨e, (Option.some.inj hz).symm⟩
  ·rename_i e; exact .inr ⟨e, hz⟩
 have hs0 := h.below.size
 refine ⟨h.below.trans ⟨hb.os, hb.tape, hb.output, hb.size, fun b hlt => hb.block b (Nat.lt_of_lt_of_le hlt hs0)⟩, h.glob, fun b o h0 => hE.more _ _ (h.base b o h0), fun b o hi => ?_, fun b o hi => ?_, fun j z hz => ?_, fun j z hz k hk => ?_, fun j z j' z' hz hz' hjj k hk hk' => ?_, fun j z hz i hi => ?_⟩
 ·rcases hI' b o hi with hi | hi
  ·exact h.old b o hi
  ·exact .inr (Nat.le_trans hs0 (hf b hi).1)
 ·rcases hI' b o hi with hi | hi
  ·exact Nat.lt_of_lt_of_le (h.there b o hi) hb.size
  ·exact (hf b hi).2
 ·rcases other hz with ⟨rfl, rfl⟩ | ⟨hj, hz⟩
  ·exact hob
  ·refine RO.mono hE (hB j (by simp [hz])) (fun i hi => hB i (h.live j z hz i hi)) (fun k hk => hb.block k (h.low j z hz k hk).2) (fun k hk p hp => ?_) (h.objs j z hz)
   rcases hI' k p hp with hp | hp
   ·exact hp
   ·exact absurd (hf k hp).1 (Nat.not_le.2 (h.low j z hz k hk).2)
 ·rcases other hz with ⟨rfl, rfl⟩ | ⟨hj, hz⟩
  ·exact ⟨Nat.le_trans hs0 (hf k hk).1, (hf k hk).2⟩
  ·rw [o7 (hB j (by simp [hz]))] at hk
   exact ⟨(h.low j z hz k hk).1, Nat.lt_of_lt_of_le (h.low j z hz k hk).2 hb.size⟩
 ·rcases other hz with ⟨e1, e2⟩ | ⟨hj, hy⟩
  ·rcases other hz' with ⟨e3, e4⟩ | ⟨hj', hy'⟩
   ·exact hjj (e1.trans e3.symm)
   ·rw [o7 (hB j' (by simp [hy']))] at hk'
    rw [e1, e2] at hk
    exact absurd (hf k hk).1 (Nat.not_le.2 (h.low j' z' hy' k hk').2)
  ·rw [o7 (hB j (by simp [hy]))] at hk
   rcases other hz' with ⟨e3, e4⟩ | ⟨hj', hy'⟩
   ·rw [e3, e4] at hk'
    exact absurd (hf k hk').1 (Nat.not_le.2 (h.low j z hy k hk).2)
   ·rw [o7 (hB j' (by simp [hy']))] at hk'
    exact h.apart j z j' z' hy hy' hjj k hk hk'
 ·rcases other hz with ⟨rfl, rfl⟩ | ⟨hj, hz⟩
  ·rw [hl] at hi; cases hi
  ·exact liv i (h.live j z hz i hi)
end
section
variable {P : Go.Program} {ρ : Ren}
theorem Ca (L : SlLaysE0.n41 P ρ) {size bytes : Nat} (hty : ∃ i z, P.info? (ρ.t 23) = some i ∧ i.zero = some z ∧ i.size = size ∧ i.bytes = bytes ∧ z.cells.size = size) (hsz : 0 < size) {w : World} {I : Nat → Nat → Prop} {v : Value} {rows : List (List C)}
 (h : RC w I v (.sl rows)) (hrow : ∀ x ∈ rows, x.length = size) (hbig : rows.length * bytes ≤ 140737488355328) :
 Calls P (ρ.f 41) #[v] w fun e w' => ∃ v' vs, e = .returned v' ∧ w'.ownsRow w.heap.size (ρ.t 23) size v' rows.length vs ∧ RCs w I vs (flat rows) ∧ Below w.heap.size w w' := by
 obtain ⟨i, z, hi, hz, hs, hb, hzs⟩ := hty
 have z23 : ∀ w, (Go.sizeOf (ρ.t 23)).run P w = .ok size w := fun w => by simp [Go.sizeOf, typeInfo, hi, hs]
 obtain ⟨ad, my, cap, news, rfl, h1, h2, h3, h4, h5⟩ := Ik hsz h hrow
 cases h with
 | @sl _ _ _ e' _ f hn hc hmx hln ha hrr =>
   subst hn
   cases ad with
   | none =>
     have hr : rows = [] := by
      cases rows with
      | nil => rfl
      | cons x l => obtain ⟨b, off, e, -⟩ := ha 0 x rfl; cases e
     subst hr
     refine (AnyE.slices_Clone_nil L _ cap w).mono ?_
     rintro e w' ⟨rfl, rfl⟩
     exact ⟨_, [], rfl, ⟨by simp, .inl ⟨rfl, rfl⟩⟩, trivial, Below.refl _ _⟩
   | some p =>
     cases rows with
     | nil =>
       refine (GR L i z size bytes hi hz hs hb hzs hsz z23 p cap w).mono ?_
       rintro e w' ⟨v', rfl, ho, hbl⟩
       exact ⟨v', [], rfl, ho, trivial, hbl⟩
     | cons x l =>
       obtain ⟨b, off, e, -⟩ := ha 0 x rfl
       cases e
       refine (AnyE.slices_Clone L i z size bytes hi hz hs hb hzs hsz z23 b off (x :: l).length cap news w h2 (Nat.le_trans hc hmx) hbig (fun j u hj => ?_) h5).mono ?_
       ·obtain ⟨a, e, hcell⟩ := h3 j u hj
        cases e
        rw [Addr.add_lit] at hcell
        exact hcell
       ·rintro e w' ⟨v', rfl, ho, -, hbl⟩
        exact ⟨v', news, rfl, ho, h4, hbl⟩
theorem wB (L : SlLaysE0.n41 P ρ) {size bytes : Nat} (hty : ∃ i z, P.info? (ρ.t 23) = some i ∧ i.zero = some z ∧ i.size = size ∧ i.bytes = bytes ∧ z.cells.size = size) (hsz : 0 < size) (hen : ∀ args w, (callFunc (ρ.f 41) args).run P w = .ok (.enter (ρ.f 41) args) w)
 (rows : List (List C)) (hrow : ∀ x ∈ rows, x.length = size) (hbig : rows.length * bytes ≤ 140737488355328) (M : Mem) (id : Nat) (hid : M id = none) : gU P (ρ.f 41) [.c (.sl rows)] M [] (.own id) (upd M id (some (.mrow (ρ.t 23) size rows))) := by
 have hne : ∀ j, (M j).isSome = true → j ≠ id := fun j hj e => by subst e; rw [hid] at hj; cases hj
 have liv : ∀ j, (M j).isSome = true → (upd M id (some (.mrow (ρ.t 23) size rows)) j).isSome = true := fun j hj => by rw [upd_ne _ _ (hne j hj)]; exact hj
 refine ⟨hen, fun j hj => ?_, liv, fun hw i o ho j hj => ?_, ?_⟩
 ·obtain rfl : j = id := by simpa [A.ids] using hj
  rw [upd_same]; rfl
 ·unfold upd at ho
  split at ho
  ·cases ho; simp [O.ids] at hj
  ·exact liv j (hw i o ho j hj)
 ·intro w0 I0 B I w vals hm hv
  match vals, hv with
  | [v], ⟨h1, _⟩ =>
    have h1 : RC w I v (.sl rows) := h1
    refine (Ca L hty hsz h1 hrow hbig).mono ?_
    rintro e w' ⟨v', vs, rfl, ⟨hl, ho⟩, hvs, hbl⟩
    have hE : Ext w w' I I := ⟨fun _ _ k => k, fun b o k => hbl.cell (p := ⟨b, o, none⟩) (hm.there b o k)⟩
    have hf : ∀ k, v'.ownBlock = some k → w.heap.size ≤ k ∧ k < w'.heap.size := fun k hk => by
     rcases ho with ⟨rfl, -⟩ | ⟨g, cap, cur, rfl, hg, hcell, -⟩
     ·cases hk
     ·obtain rfl : g = k := by simpa [Value.ownBlock] using hk
      exact ⟨hg, (Array.getElem?_eq_some_iff.1 hcell).1⟩
    refine ⟨v', upd B id v', I, rfl, hm.fresh hid hbl (fun k hk => hf k (by have hk : (upd B id v' id).ownBlock = some k := hk; rwa [upd_same] at hk)) hE (fun b p k => .inl k) ⟨vs, ⟨hl, ?_⟩, hvs.mono hE, hrow, fun b hb o => ?_⟩ rfl, hE, fun j hj _ => upd_ne _ _ (hne j hj), (upd_same ..).symm, ?_⟩
    ·rw [upd_same]
     rcases ho with ⟨e, hn⟩ | ⟨g, cap, cur, e, hg, hcell, q1, q2, q3, q4⟩
     ·exact .inl ⟨e, hn⟩
     ·exact .inr ⟨g, 0, cap, cur, e, hcell, q1, q2, by omega, by simpa using q4⟩
    ·rw [upd_same] at hb
     exact fun k => absurd (hm.there _ _ k) (Nat.not_lt.2 (hf b hb).1)
    ·rcases ho with ⟨e, hn⟩ | ⟨g, cap, cur, e, -⟩
     ·exact ⟨none, 0, 0, e⟩
     ·exact ⟨_, _, _, e⟩
theorem NW (L : SlLaysE0.n41 P ρ) {size bytes : Nat} (hty : ∃ i z, P.info? (ρ.t 23) = some i ∧ i.zero = some z ∧ i.size = size ∧ i.bytes = bytes ∧ z.cells.size = size) (hsz : 0 < size) (hen : ∀ args w, (callFunc (ρ.f 41) args).run P w = .ok (.enter (ρ.f 41) args) w)
 (rows : List (List C)) (hrow : ∀ x ∈ rows, x.length = size) (hbig : rows.length * bytes ≤ 140737488355328) (m : Mem) : COk P (ρ.f 41) [.c (.sl rows)] m (.c (.sl rows)) := by
 refine ⟨hen, rfl, fun m' _ => ?_⟩
 intro w0 I0 B I w vals hm hv
 match vals, hv with
 | [v], ⟨h1, _⟩ =>
   have h1 : RC w I v (.sl rows) := h1
   refine (Ca L hty hsz h1 hrow hbig).mono ?_
   rintro e w' ⟨v', vs, rfl, ⟨hl, ho⟩, hvs, hbl⟩
   let I' : Nat → Nat → Prop := fun b o => I b o ∨ (v'.ownBlock = some b ∧ o < rows.length * size)
   have hE : Ext w w' I I' := ⟨fun _ _ k => .inl k, fun b o k => hbl.cell (p := ⟨b, o, none⟩) (hm.there b o k)⟩
   refine ⟨v', I', rfl, hbl, hE.more, fun b o k => ?_, ?_⟩
   ·rcases k with k | ⟨k, -⟩
    ·exact .inl k
    ·rcases ho with ⟨rfl, -⟩ | ⟨g, cap, cur, rfl, hg, hcell, -⟩
     ·cases k
     ·obtain rfl : g = b := by simpa [Value.ownBlock] using k
      exact .inr ⟨hg, (Array.getElem?_eq_some_iff.1 hcell).1⟩
   ·show RC w' I' v' (.sl rows)
    have hvs' := hvs.mono hE
    rcases ho with ⟨rfl, hn⟩ | ⟨g, cap, cur, rfl, hg, hcell, q1, q2, q3, q4⟩
    ·obtain rfl : rows = [] := List.length_eq_zero_iff.1 hn
     exact RC.sl (e := 0) (fun _ _ => undef) rfl (Nat.le_refl _) (Nat.zero_le _) (fun x hx => by cases hx) (fun i x hx => by simp at hx) (fun i j x c hx _ => by simp at hx)
    ·have hat : ∀ i j x, rows[i]? = some x → j < size → i * size + j < rows.length * size := fun i j x hx hj => by
      have hi := (List.getElem?_eq_some_iff.1 hx).1
      have : (i + 1) * size ≤ rows.length * size := Nat.mul_le_mul_right _ hi
      rw [Nat.add_mul] at this
      omega
     refine RC.sl (e := size) (fun i j => vs.getD (i * size + j) undef) rfl q1 q2 hrow (fun i x hx => ⟨g, 0, rfl, fun j hj => ⟨.inr ⟨rfl, by have := hat i j x hx hj; omega⟩, ?_⟩⟩) (fun i j x c hx hc => ?_)
     ·have hlt := hat i j x hx hj
      have hcur : cur[i * size + j]? = vs[i * size + j]? := by
       rw [← q4, List.getElem?_take, if_pos hlt, Array.getElem?_toList]
      show w'.cell? ⟨g, 0 + i * size + j, none⟩ = some (vs.getD (i * size + j) undef)
      rw [Nat.zero_add]
      have hv : vs[i * size + j]? = some (vs.getD (i * size + j) undef) := by
       rw [List.getD_eq_getElem?_getD, List.getElem?_eq_getElem (by omega)]; rfl
      rw [← hv, ← hcur]
      simp [World.cell?, hcell]
     ·have hj : j < size := by rw [← hrow x (List.mem_of_getElem? hx)]; exact (List.getElem?_eq_some_iff.1 hc).1
      have hlt := hat i j x hx hj
      have hfl := l9 hrow i j x hx hj
      rw [hc] at hfl
      obtain ⟨u, hu, hr⟩ := hvs'.at _ _ hfl
      rw [List.getD_eq_getElem?_getD, hu]
      exact hr
end
end V
end Go.Proofs.YthhpcjoaogmhbaaGreatDoor
end
section
namespace Go.Proofs.YthhpcjoaogmhbaaGreatDoor
namespace V
open Go.RowKit
section
variable {w0 w : World} {I0 I : Nat → Nat → Prop} {B : Nat → Value} {m : Mem}
theorem MR.Sg (h : MR w0 I0 B I m w) {N : Nat → Nat → Prop} (hN : ∀ b o, N b o → w0.heap.size ≤ b ∧ b < w.heap.size ∧ ∀ j z, m j = some z → ¬ foot B j z b) : MR w0 I0 B (fun b o => I b o ∨ N b o) m w :=
 ⟨h.below, h.glob, fun b o k => .inl (h.base b o k), fun b o k => k.elim (h.old b o) fun k => .inr (hN b o k).1, fun b o k => k.elim (h.there b o) fun k => (hN b o k).2.1,
   fun j z hz => RO.mono ⟨fun _ _ k => .inl k, fun _ _ _ => rfl⟩ rfl (fun _ _ => rfl) (fun _ _ => rfl) (fun k hk p hp => hp.elim id fun hp => absurd hk ((hN k p hp).2.2 j z hz)) (h.objs j z hz), h.low, h.apart, h.live⟩
theorem MR.freeze (h : MR w0 I0 B I m w) {id : Nat} {ty : TypeId} {e : Nat} {xs : List (List C)} (hid : m id = some (.mrow ty e xs)) :
 ∃ I', MR w0 I0 (upd B id (.slice none 0 0)) I' (upd (eH id m) id (some (.arr ty e []))) w ∧ Ext w w I I' ∧ RC w I' (B id) (.sl xs) := by
 have hob := h.objs id _ hid
 obtain ⟨vs, hrow, hvs, hlx, hnI⟩ := hob
 have hnew : RO (upd B id (.slice none 0 0)) w I id (.arr ty e []) := ⟨[], ⟨by simp, .inl ⟨upd_same .., rfl⟩⟩, trivial, (fun x hx => by cases hx), (fun b hb o => by rw [upd_same] at hb; cases hb)⟩
 have h1 := h.BM (v' := .slice none 0 0) (o' := .arr ty e []) (w' := w) (I' := I) hid rfl rfl rfl (Nat.le_refl _) (fun _ _ _ => rfl) (fun k hk => by
  have hk : (upd B id (.slice none 0 0) id).ownBlock = some k := hk
  rw [upd_same] at hk; cases hk) (Ext.refl _ _) (fun b p k => .inl k)
  hnew (fun i hi => by simp [O.ids] at hi)
 have h2 := h1.Sg (N := fun b o => (B id).ownBlock = some b) (fun b o hb => by
  have hf : foot B id (.mrow ty e xs) b := hb
  refine ⟨(h.low id _ hid b hf).1, (h.low id _ hid b hf).2, fun j z hz hk => ?_⟩
  unfold upd at hz
  split at hz
  ·rename_i ej
   cases hz
   subst ej
   have hk : (upd B j (.slice none 0 0) j).ownBlock = some b := hk
   rw [upd_same] at hk; cases hk
  ·rename_i ej
   rw [aL] at hz
   cases hmj : m j with
   | none => rw [hmj] at hz; cases hz
   | some z0 =>
     rw [hmj] at hz
     cases hz
     exact h.apart j z0 id _ hmj hid ej b ((Cb (upd_ne _ _ ej)).1 hk) hf)
 refine ⟨_, h2, ⟨fun _ _ k => .inl k, fun _ _ _ => rfl⟩, ?_⟩
 have hvs' : RCs w (fun b o => I b o ∨ (B id).ownBlock = some b) vs (flat xs) := hvs.mono ⟨fun _ _ k => .inl k, fun _ _ _ => rfl⟩
 obtain ⟨hl, ho⟩ := hrow
 rcases ho with ⟨ev, hn⟩ | ⟨g, off, cap, cur, ev, hcell, q1, q2, q3, q4⟩
 ·obtain rfl : xs = [] := List.length_eq_zero_iff.1 hn
  rw [ev]
  exact RC.sl (e := 0) (fun _ _ => undef) rfl (Nat.le_refl _) (Nat.zero_le _) (fun x hx => by cases hx) (fun i x hx => by simp at hx) (fun i j x c hx _ => by simp at hx)
 ·have hat : ∀ i j x, xs[i]? = some x → j < e → i * e + j < xs.length * e := fun i j x hx hj => by
   have hi := (List.getElem?_eq_some_iff.1 hx).1
   have : (i + 1) * e ≤ xs.length * e := Nat.mul_le_mul_right _ hi
   rw [Nat.add_mul] at this
   omega
  rw [ev] at hvs' ⊢
  refine RC.sl (e := e) (fun i j => vs.getD (i * e + j) undef) rfl q1 q2 hlx (fun i x hx => ⟨g, off, rfl, fun j hj => ⟨.inr rfl, ?_⟩⟩) (fun i j x c hx hc => ?_)
  ·have hlt := hat i j x hx hj
   have hcur : cur[off + (i * e + j)]? = vs[i * e + j]? := by
    rw [← q4, List.getElem?_take, if_pos hlt, List.getElem?_drop, Array.getElem?_toList]
   rw [Nat.add_assoc]
   have hv : vs[i * e + j]? = some (vs.getD (i * e + j) undef) := by
    rw [List.getD_eq_getElem?_getD, List.getElem?_eq_getElem (by omega)]; rfl
   rw [← hv, ← hcur]
   simp [World.cell?, hcell]
  ·have hj : j < e := by rw [← hlx x (List.mem_of_getElem? hx)]; exact (List.getElem?_eq_some_iff.1 hc).1
   have hfl := l9 hlx i j x hx hj
   rw [hc] at hfl
   obtain ⟨u, hu, hr⟩ := hvs'.at _ _ hfl
   rw [List.getD_eq_getElem?_getD, hu]
   exact hr
end
section
variable {P : Go.Program}
theorem W.freeze {R : Ref} {n : Nat} {ds : List Deferred} {st : St} {c : Code} {K : Exit → St → Prop} (t id : Nat) {ty : TypeId} {e : Nat} {xs : List (List C)} (ht : st.s t = .own id) (hid : st.m id = some (.mrow ty e xs)) (hkp : ¬ R.keep id)
 (h : W P R n ds ⟨upd (gD id st.s) t (.c (.sl xs)), upd (eH id st.m) id (some (.arr ty e []))⟩ c K) : W P R n ds st c K := by
 intro a w hr
 refine h a w ?_
 obtain ⟨⟨B, I, hm, hx0, hkp0, hs⟩, h2, h3, hnn, h4, h5⟩ := hr
 obtain ⟨I', hm', hE, hrc⟩ := hm.freeze hid
 have hBne : ∀ j, j ≠ id → upd B id (.slice none 0 0) j = B j := fun j hj => upd_ne _ _ hj
 have liv : ∀ i, (st.m i).isSome = true → (upd (eH id st.m) id (some (.arr ty e [])) i).isSome = true := fun i hi => by
  unfold upd; split
  ·rfl
  ·rw [aL]; simpa using hi
 have hown : RV B w I (.own id) (a.tmps.getD t undef) := ht ▸ hs t
 have hval : a.tmps.getD t undef = B id := hown.1
 refine ⟨⟨_, I', hm', hx0.trans hE, fun j hj => (hBne j (fun e => hkp (e ▸ hj))).trans (hkp0 j hj), fun u => ?_⟩, fun u j hj => ?_, h3, hnn, ?_, fun i hi => liv i (h5 i hi)⟩
 ·show RV _ w I' (upd (gD id st.s) t (.c (.sl xs)) u) _
  by_cases hu : u = t
  ·subst hu
   rw [upd_same, hval]
   exact hrc
  ·rw [upd_ne _ _ hu, aM]
   rcases (A.dW (id := id) (a := st.s u)).2 with k | ⟨k, hn⟩
   ·rw [k]; trivial
   ·rw [k]
    exact (hs u).mono hE fun i hi => hBne i (fun e => hn (e ▸ hi))
 ·have hj : j ∈ (upd (gD id st.s) t (.c (.sl xs)) u).ids := hj
  by_cases hu : u = t
  ·subst hu; rw [upd_same] at hj; simp [A.ids] at hj
  ·rw [upd_ne _ _ hu, aM] at hj
   exact liv j (h2 u j ((A.dW (id := id) (a := st.s u)).1 j hj).1)
 ·show _ = dfs (upd (gD id st.s) t (.c (.sl xs)) DID) ++ ds
  by_cases e : DID = t
  ·rw [← e, upd_same]
   rw [← e] at ht
   rw [ht] at h4
   exact h4
  ·rw [upd_ne _ _ e, aM, nD]
   exact h4
end
section
variable {P : Go.Program} {T : Tab} {base : Nat} {ops : Array Oper} (hT : T.Ok P) {R : Ref} {w : World} {n : Nat} {ds : List Deferred} {l n' : Nat}
include hT
theorem plain_round (hd : ∀ o ∈ ops, ∀ d, o.dst = some d → d < n) (hnd : lq ops = true) {Q : Exit → Act → World → Prop} {st' : St} (hQ : ∀ a w, SR R n ds st' a w → Q .normal a w) :
 ∀ (L : List Nat) (st : St) (a : Act) (w : World), Chain P T R.keep base ops L st st' → SR R n ds st a w → wpOpsIn (Fence.wide.inRound l) n' P ops Q L a w
 | [], st, a, w, h, hr => by cases h; exact hQ a w hr
 | i :: L, st, a, w, h, hr => by
   cases h with
   | @cons _ o _ _ st1 _ hi h1 t =>
     unfold wpOpsIn
     simp only [hi]
     have hgo := h1.snd hT hr (hd o (Array.mem_of_getElem? hi)) (K := wpOpsIn (Fence.wide.inRound l) n' P ops Q L) (Q := Q) (fun a' w' hr' => plain_round hd hnd hQ L st1 a' w' t hr')
     split
     ·rename_i hw; rw [if_pos hw] at hgo; exact zS (vP hnd hi) hgo
     ·rename_i hw; rw [if_neg hw] at hgo; exact ⟨fun _ _ => trivial, hgo⟩
end
def WI (l n' : Nat) (P : Go.Program) (R : Ref) (n : Nat) (ds : List Deferred) (st : St) (c : Code) (K : Exit → St → Prop) : Prop :=
 ∀ a w, SR R n ds st a w → c.wpIn (Fence.wide.inRound l) n' P (fun e a' w' => ∃ st', K e st' ∧ SR R n ds st' a' w') a w
section
variable {l n' : Nat} {P : Go.Program} {T : Tab} {R : Ref} {n : Nat} {ds : List Deferred} {st : St} {K : Exit → St → Prop}
theorem WI.mono {c : Code} {K' : Exit → St → Prop} (h : WI l n' P R n ds st c K) (hk : ∀ e st', K e st' → K' e st') : WI l n' P R n ds st c K' :=
 fun a w hr => wpIn_mono (h a w hr) fun e _ _ ⟨st', h1, h2⟩ => ⟨st', hk e st' h1, h2⟩
theorem WI.region (hT : T.Ok P) (base : Nat) {id : Nat} {ops : Array Oper} {st' : St} (hd : jM n ops = true) (hnd : lq ops = true) (h : RunL P T R.keep base ops ops.toList st st') (hk : K .normal st') : WI l n' P R n ds st (.region id ops false) K := fun a w hr =>
 wpIn_region (plain_round hT (gB hd) hnd (fun a w hr' => ⟨st', hk, hr'⟩) _ st a w P6 hr)
theorem WI.DC (hT : T.Ok P) (base : Nat) {id : Nat} {ops : Array Oper} {st' : St} (hm : P.follows .mixedOrders = true) (hok : qO T ops = true) (hd : jM n ops = true) (hnd : lq ops = true) (h : RunL P T R.keep base ops ops.toList st st') (hk : K .normal st') : WI l n' P R n ds st (.region id ops true) K := fun a w hr => by
 refine wpIn_mono (Q := fun e a w => e = .normal ∧ SR R n ds st' a w) (uG (fun ⟨_, _, h, _⟩ => by cases h) hm hnd (Ij hT hok (gB hd) (fun a w hr' => ⟨rfl, hr'⟩) _ _ (List.range ops.size) st a _ (by simp) (by simp) (List.pairwise_lt_range) (fun i => ?_) (fun k o ho hl => ?_) ?_ P6)) fun e a w h => ⟨st', h.1 ▸ hk, h.2⟩
 ·rw [List.mem_range]
  refine ⟨fun hi => ⟨hi, ?_⟩, fun hi => hi.1⟩
  simp [hi]
 ·exfalso
  have hk := (Array.getElem?_eq_some_iff.1 ho).1
  simp [hk] at hl
 ·obtain ⟨⟨B, I, hmr, hx0, hkp, hs⟩, h2, h3, hnn, h4, h5⟩ := hr
  have hE : Ext w w.drew I I := ⟨fun _ _ k => k, fun _ _ _ => rfl⟩
  exact ⟨⟨B, I, hmr.call (Below.refl _ _).drew, hx0.trans hE, hkp, fun t => (hs t).mono hE fun _ _ => rfl⟩, h2, h3, hnn, h4, h5⟩
theorem WI.seq {x y : Code} (h : WI l n' P R n ds st x (zM (fun st' => WI l n' P R n ds st' y K) K)) : WI l n' P R n ds st (.seq x y) K := fun a w hr =>
 wpIn_seq (wpIn_mono (h a w hr) fun e a' w' ⟨st', h1, h2⟩ => by
  cases e with
  | normal => exact h1 a' w' h2
  | _ => exact ⟨st', h1, h2⟩)
theorem WI.cond {c : Operand} {x y : Code} {b : Bool} (hc : ev st.s c = .c (.bool b)) (ht : b = true → WI l n' P R n ds st x K) (hf : b = false → WI l n' P R n ds st y K) : WI l n' P R n ds st (.cond c x y) K := fun a w hr => by
 obtain ⟨B, I, hm, -, -, hs⟩ := hr.ex
 have := iK hs c
 rw [hc] at this
 exact wpIn_cond_split (RC.toBool this) (fun e => ht e a w hr) (fun e => hf e a w hr)
theorem WI.block {id : Nat} {c : Code} (h : WI l n' P R n ds st c (DR id K)) : WI l n' P R n ds st (.block id c) K := fun a w hr =>
 wpIn_block (wpIn_mono (h a w hr) fun e a' w' ⟨st', h1, h2⟩ => by
  cases e with
  | exit j =>
    simp only [DR, Exit.inBlock] at h1 ⊢
    split
    ·rename_i e; rw [if_pos e] at h1; exact ⟨st', h1, h2⟩
    ·rename_i e; rw [if_neg e] at h1; exact ⟨st', h1, h2⟩
  | _ => exact ⟨st', h1, h2⟩)
theorem WI.exit {id : Nat} (h : K (.exit id) st) : WI l n' P R n ds st (.exit id) K := fun _ _ hr => wpIn_exit ⟨st, h, hr⟩
theorem WI.ret (h : K .ret st) : WI l n' P R n ds st .ret K := fun _ _ hr => wpIn_ret ⟨st, h, hr⟩
theorem WI.skip (h : K .normal st) : WI l n' P R n ds st .skip K := fun _ _ hr => wpIn_skip ⟨st, h, hr⟩
theorem WI.weaken {st' : St} {c : Code} (hl : Le R.keep st st') (h : WI l n' P R n ds st' c K) : WI l n' P R n ds st c K := fun a w hr => h a w (hr.le hl)
theorem WI.loop {ι : Type} {c : Code} (mk : ι → St) (Inv : ι → Prop) (μ : ι → Nat) (i0 : ι) (hl : Le R.keep st (mk i0)) (h0 : Inv i0)
 (hround : ∀ i, Inv i → WI l n' P R n ds (mk i) c (zM (fun st' => ∃ i', Inv i' ∧ μ i' < μ i ∧ Le R.keep st' (mk i')) K)) : WI l n' P R n ds st (.loop c) K := by
 refine WI.weaken hl ?_
 intro a w hr
 refine wpIn_loop_ghost (fun k a w => ∃ i, Inv i ∧ μ i = k ∧ SR R n ds (mk i) a w) (μ i0) ⟨i0, h0, rfl, hr⟩ ?_
 rintro k a w ⟨i, hi, rfl, hr⟩
 refine wpIn_mono (hround i hi a w hr) ?_
 rintro e a' w' ⟨st', h1, h2⟩
 cases e with
 | normal =>
   obtain ⟨i', hi', hlt, hle⟩ := h1
   exact ⟨μ i', hlt, i', hi', rfl, h2.le hle⟩
 | _ => exact ⟨st', h1, h2⟩
theorem WI.ak (hT : T.Ok P) (base : Nat) {id : Nat} {ops : Array Oper} (hd : jM n ops = true) (hnd : lq ops = true) (h : jG P T R.keep base ops ops.toList st (K .normal)) : WI l n' P R n ds st (.region id ops false) K :=
 let ⟨_, h1, h2⟩ := h
 WI.region hT base hd hnd h1 h2
theorem WI.bM (hT : T.Ok P) (base : Nat) {id : Nat} {ops : Array Oper} (hm : P.follows .mixedOrders = true) (hok : qO T ops = true) (hd : jM n ops = true) (hnd : lq ops = true) (h : jG P T R.keep base ops ops.toList st (K .normal)) : WI l n' P R n ds st (.region id ops true) K :=
 let ⟨_, h1, h2⟩ := h
 WI.DC hT base hm hok hd hnd h1 h2
end
section
variable {w0 w w' : World} {I0 I : Nat → Nat → Prop} {B : Nat → Value} {mem : Mem}
theorem MR.LX (h : MR w0 I0 B I mem w) {id : Nat} (hid : mem id = none) (x : Obj) :
 MR w0 I0 (upd B id (.pointer (some ⟨w.heap.size, 0, none⟩))) I (upd mem id (some (.raw x))) (w.alloc x) :=
 h.alloc hid ⟨w.heap.size, upd_same .., heap_alloc_new _ _, fun p hp => by have := h.there _ _ hp; omega⟩ (fun k hk => by
  obtain ⟨off, hk⟩ := hk
  rw [upd_same] at hk
  cases hk; rfl) (fun j hj => by simp [O.ids] at hj)
theorem MR.wQ (h : MR w0 I0 B I mem w) {id b : Nat} {x : Obj} (hid : mem id = some (.raw x)) (hB : B id = .pointer (some ⟨b, 0, none⟩)) (y : Obj) :
 MR w0 I0 B I (upd mem id (some (.raw y))) (w.putObj b y) ∧ Ext w (w.putObj b y) I I := by
 have hf : foot B id (.raw x) b := ⟨0, hB⟩
 obtain ⟨l0, l1⟩ := h.low id _ hid b hf
 obtain ⟨b', e1, hx, hI⟩ := h.objs id _ hid
 rw [hB] at e1; cases e1
 refine h.turn hid hf (fun k hk => ?_) hI rfl rfl rfl ?_ (fun k hk => World.putObj_heap_other hk) (fun i hi => by simp [O.ids] at hi) (fun _ => ⟨b, hB, World.putObj_heap_same l1, hI⟩)
 ·obtain ⟨off, hk⟩ := hk
  rw [hB] at hk; cases hk; rfl
 ·show (w.heap.setIfInBounds _ _).size = _
  simp
theorem MR.Gf (h : MR w0 I0 B I mem w) {id : Nat} {o : O} (hid : mem id = some o) (hb : ∃ b, B id = .pointer (some ⟨b, 0, none⟩) ∧ (∀ p, ¬ I b p) ∧ ∀ k, foot B id o k ↔ k = b) : MR w0 I0 B I (upd mem id (some .hole)) w := by
 obtain ⟨b, hB, hI, hf⟩ := hb
 exact (h.turn (o' := .hole) hid ((hf b).2 rfl) (fun k hk => by obtain ⟨off, hk⟩ := hk; rw [hB] at hk; cases hk; rfl) hI rfl rfl rfl rfl (fun _ _ => rfl) (fun i hi => by simp [O.ids] at hi) (fun _ => ⟨b, hB, hI⟩)).1
theorem MR.KU (h : MR w0 I0 B I mem w) {id b : Nat} {x : Obj} (hid : mem id = some .hole) (hB : B id = .pointer (some ⟨b, 0, none⟩)) (hx : w.heap[b]? = some x) : MR w0 I0 B I (upd mem id (some (.raw x))) w := by
 obtain ⟨b', e1, hI⟩ := h.objs id _ hid
 rw [hB] at e1; cases e1
 exact (h.turn (o' := .raw x) hid ⟨0, hB⟩ (fun k hk => by obtain ⟨off, hk⟩ := hk; rw [hB] at hk; cases hk; rfl) hI rfl rfl rfl rfl (fun _ _ => rfl) (fun i hi => by simp [O.ids] at hi) (fun _ => ⟨b, hB, hx, hI⟩)).1
end
def yQ (fn : FuncId) (tmps : Array Value) (ps : Array Tmp) (assign body : Code) (D : Nat) (st : LoopState) (pe : Option Code) : Obj :=
 .loop { state := st, pending := pe, fn, tmps, params := ps, assign, body, defers := D }
end V
end Go.Proofs.YthhpcjoaogmhbaaGreatDoor
end
section
namespace Go.Proofs.YthhpcjoaogmhbaaGreatDoor
namespace V
open Go.RowKit Go.Shelf
attribute [local go_sem] Oper.semAt_some
def Jc (b2 : Nat) (J : Nat → (Nat → Nat → Prop) → World → Prop) : Prop := ∀ k I W W' row, J k I W → W.grownBy W' row → (∀ r, row = some r → r = b2) → J k I W'
theorem xR {w : World} {I : Nat → Nat → Prop} {a : Option Addr} {N cap : Nat} {cs : List Class} (h : RC w I (.slice a N cap) (.sl (cs.map ay))) {j : Nat} {c : Class} (hc : cs[j]? = some c) :
 ∃ b off fv mv, a = some ⟨b, off, none⟩ ∧ RCs w I [.string c.name, .string c.super, fv, mv] (ay c) ∧ gL w b (off + j * 4) [.string c.name, .string c.super, fv, mv] := by
 cases h with
 | @sl _ _ _ e _ f hn hcp hm hl ha hr =>
   have hx : (cs.map ay)[j]? = some (ay c) := by simp [hc]
   have he : e = 4 := (hl _ (List.mem_of_getElem? hx)).symm
   subst he
   obtain ⟨b, off, ea, hcell⟩ := ha j _ hx
   have h0 := RC.toStr (hr j 0 _ _ hx rfl)
   have h1 := RC.toStr (hr j 1 _ _ hx rfl)
   have r0 := hr j 0 _ _ hx rfl
   have r1 := hr j 1 _ _ hx rfl
   have r2 := hr j 2 _ _ hx rfl
   have r3 := hr j 3 _ _ hx rfl
   rw [h0.1] at r0
   rw [h1.1] at r1
   refine ⟨b, off, f j 2, f j 3, ea, ⟨r0, r1, r2, r3, trivial⟩, ?_, ?_, ?_, ?_, trivial⟩
   ·have := (hcell 0 (by decide)).2; rw [h0.1] at this; exact this
   ·have := (hcell 1 (by decide)).2; rw [h1.1] at this; exact this
   ·exact (hcell 2 (by decide)).2
   ·exact (hcell 3 (by decide)).2
set_option maxRecDepth 100000 in
set_option maxHeartbeats 4000000 in
theorem Tf (n : Nat) (hn : 1 ≤ n) (l b1 b2 : Nat) (cv mv : Value) (cs : List Class) (name : ByteArray) (hlen : cs.length ≤ 1000000000) (J : Nat → (Nat → Nat → Prop) → World → Prop) (Jx : World → Prop)
 (hJ : Jc b2 J) (h12 : b1 ≠ b2)
 (hJR : ∀ k I W, J k I W → (∀ b o, I b o → b < W.heap.size) ∧ RC W I cv (.sl (cs.map ay)) ∧ W.heap[b1]? = some (.cells #[cv, mv] 25))
 (hY : ∀ k I W j c vs, J k I W → (upX cs (cs.length + 1) 0 name)[k]? = some (k, j) → cs[j]? = some c → RCs W I vs (ay c) → YieldAt Fence.wide (n - 1) Tryz.prog l #[.int .i64 (k : Int), .agg vs.toArray] W fun e W' =>
   (e = .returned (.bool true) ∧ (∃ I', J (k + 1) I' W') ∧ W'.heap[b2]? = W.heap[b2]?) ∨ (e = .returned (.bool false) ∧ Jx W'))
 (W : World) (I0 : Nat → Nat → Prop) (hb2 : W.heap[b2]? = some (.cells #[.string name] 9)) (h0 : J 0 I0 W) :
 CallsIn Fence.wide n Tryz.prog 92 #[.func (.yield l) #[] #[], .pointer (some ⟨b1, 0, none⟩), .pointer (some ⟨b2, 0, none⟩)] W fun e W' => (∃ v, e = .returned v) ∧
  ((∃ I, J (upX cs (cs.length + 1) 0 name).length I W') ∨ Jx W') := by
 obtain ⟨hIW, hRW, hb1⟩ := hJR _ _ _ h0
 obtain ⟨d, hRC⟩ := Az (w := W) (I := I0) hIW (v := cv) (l := cs)
 obtain ⟨a, N, cap, rfl, hN, -, -, -⟩ := hRC hRW
 have HN := Lib.hid hN
 have HY := Lib.hid hY
 have HJ := Lib.hid hJ
 have HJR := Lib.hid hJR
 have HB1 := Lib.hid hb1
 have HB2 := Lib.hid hb2
 have hNl : N ≤ 1000000000 := by omega
 have c1 : W.cell? ⟨b1, 0, none⟩ = some (.slice a N cap) := by simp [World.cell?, hb1]
 clear hN hY hJ hJR hb1 hb2 hRC hIW hRW
 refine callsIn_of_wp Tryz.func92 rfl trivial ?_ rfl
 simp only [Tryz.ntmps92, List.size_toArray, List.length_cons, List.length_nil, Nat.reduceAdd, Nat.reduceSub, Array.replicate_succ, Array.replicate_zero, List.push_toArray, List.append_toArray, List.nil_append, List.cons_append]
 gi_wp2
 gi_loopw [10] (fun v10 wr => ∃ (m : Nat) (I : Nat → Nat → Prop) (cur : ByteArray), m ≤ N + 1 ∧ v10 = .int .i64 m ∧ Hid (∃ pre : List (Nat × Nat), pre.length = m ∧ upX cs (cs.length + 1) 0 name = pre ++ upX cs (N + 1 - m) m cur) ∧ Hid (J m I wr) ∧ Hid (wr.heap[b2]? = some (.cells #[.string cur] 9))) (fun v10 _ => N + 1 - (intOf v10).toNat)
 case atStart => exact ⟨0, I0, name, by omega, rfl, ⟨[], rfl, by rw [HN.out]; rfl⟩, h0, HB2.out⟩
 case round =>
  obtain ⟨m, I, cur, hm, rfl, HPX, HJP, HC2⟩ := hrel
  have HC1 := Lib.hid (HJR.out _ _ _ HJP.out).2.2
  have d1 : wr.cell? ⟨b1, 0, none⟩ = some (.slice a N cap) := by simp [World.cell?, HC1.out]
  have d2 : wr.cell? ⟨b2, 0, none⟩ = some (.string cur) := by simp [World.cell?, HC2.out]
  have d3 : wr.frozen? ⟨b2, 0, none⟩ = false := by simp [World.frozen?, HC2.out]
  by_cases hmN : m < N + 1
  ·have HRW : Hid (∃ d, mK d wr (· < wr.heap.size) (.slice a N cap) cs) := let ⟨d, h⟩ := Az (w := wr) (I := I) (HJR.out _ _ _ HJP.out).1 (v := .slice a N cap) (l := cs); ⟨d, h (HJR.out _ _ _ HJP.out).2.1⟩
   obtain ⟨d', HRW⟩ := HRW
   have HRW := Lib.hid HRW
   gi_wp2_with fail
   refine ⟨trivial, (callsIn_wide.2 (GV d' (.slice a N cap) cs cur b2 wr HRW.out d2)).mono ?_⟩
   rintro e w2 ⟨rfl, hb⟩
   have hl1 : b1 < wr.heap.size := (Array.getElem?_eq_some_iff.1 HC1.out).1
   have hl2 : b2 < wr.heap.size := (Array.getElem?_eq_some_iff.1 HC2.out).1
   have HD1 : Hid (w2.heap[b1]? = some (.cells #[.slice a N cap, mv] 25)) := (hb.block b1 hl1).trans HC1.out
   have HD2 : Hid (w2.heap[b2]? = some (.cells #[.string cur] 9)) := (hb.block b2 hl2).trans HC2.out
   have HJ2 : Hid (J m I w2) := HJ.out m I wr w2 none HJP.out ⟨hb.os, hb.tape, hb.output, hb.size, fun k hk _ => hb.block k hk⟩ (fun r e => by cases e)
   have e1 : w2.cell? ⟨b1, 0, none⟩ = some (.slice a N cap) := by simp [World.cell?, HD1.out]
   have e2 : w2.cell? ⟨b2, 0, none⟩ = some (.string cur) := by simp [World.cell?, HD2.out]
   have hk : N + 1 - m = (N - m) + 1 := by omega
   rw [hk] at HPX
   clear d1 d2 d3 hb HC1 HC2 HJP HRW hk
   by_cases hi : 0 ≤ dR (jg cur) cs
   ·obtain ⟨c, hc, hnm⟩ := oz _ _ hi
    obtain ⟨j, hj⟩ : ∃ j : Nat, dR (jg cur) cs = j := ⟨(dR (jg cur) cs).toNat, by omega⟩
    have hfj : oL cs cur = some j := by unfold oL; rw [if_pos hi, hj]; simp
    rw [hj, Int.toNat_natCast] at hc
    have hjN : j < N := by rw [← HN.out]; exact (List.getElem?_eq_some_iff.1 hc).1
    have hsup : mg cs j = c.super := by unfold mg; rw [hc]; rfl
    obtain ⟨a', off, fv, mv', ea, HRCS, hcl⟩ := xR (HJR.out _ _ _ HJ2.out).2.1 hc
    have HEA := Lib.hid ea
    have HRCS := Lib.hid HRCS
    subst ea
    have HX : Hid ((upX cs (cs.length + 1) 0 name)[m]? = some (m, j) ∧ ∃ pre : List (Nat × Nat), pre.length = m + 1 ∧ upX cs (cs.length + 1) 0 name = pre ++ upX cs (N + 1 - (m + 1)) (m + 1) c.super) := by
     show _ ∧ _
     obtain ⟨pre, hp1, hp2⟩ := HPX.out
     have e3 : N + 1 - (m + 1) = N - m := by omega
     rw [hp2, e3]
     conv => lhs; rw [upX]
     conv => rhs; rw [upX]
     rw [hfj]
     subst hp1
     refine ⟨by simp, pre ++ [(pre.length, j)], by simp, by simp [hsup]⟩
    obtain ⟨fn, tmps, assign, body, hy, hR⟩ := HY.out m I w2 j c _ HJ2.out HX.out.1 hc HRCS.out
    obtain ⟨f0, f1, f2, f3, -⟩ := hcl
    rw [hj]
    have HCJ := Lib.hid hc
    clear hnm hi hfj hsup
    gi_wp2
    refine hR.mono ?_
    rintro e W3 (⟨rfl, ⟨I3, hJ3⟩, hk3⟩ | ⟨rfl, hJx3⟩)
    ·obtain ⟨a3, off3, fv3, mv3, ea3, -, hcl3⟩ := xR (HJR.out _ _ _ hJ3).2.1 HCJ.out
     simp only [Option.some.injEq, Addr.mk.injEq, and_true] at ea3
     obtain ⟨rfl, rfl⟩ := ea3
     have HE1 := Lib.hid (HJR.out _ _ _ hJ3).2.2
     have HE2 : Hid (W3.heap[b2]? = some (.cells #[.string cur] 9)) := hk3.trans HD2.out
     have g1 : W3.cell? ⟨b1, 0, none⟩ = some (.slice (some ⟨a', off, none⟩) N cap) := by simp [World.cell?, HE1.out]
     have g2 : W3.cell? ⟨b2, 0, none⟩ = some (.string cur) := by simp [World.cell?, HE2.out]
     have g3 : W3.frozen? ⟨b2, 0, none⟩ = false := by simp [World.frozen?, HE2.out]
     have g4 := hcl3.2.1
     have HJ3 : Hid (J (m + 1) I3 (W3.setCell ⟨b2, 0, none⟩ (.string c.super))) := HJ.out _ _ W3 _ (some b2) hJ3 ⟨rfl, rfl, rfl, by show _ ≤ (W3.heap.modify _ _).size; rw [Array.size_modify]; exact Nat.le_refl _, fun q _ hne => Below.heap_setCell W3 _ _ q (fun e => hne (by rw [e]))⟩ (fun r e => by cases e; rfl)
     have HF2 : Hid ((W3.setCell ⟨b2, 0, none⟩ (.string c.super)).heap[b2]? = some (.cells #[.string c.super] 9)) := by
      show (W3.heap.modify b2 _)[b2]? = _
      rw [Array.getElem?_modify, if_pos rfl, HE2.out]; rfl
     clear hk3 hJ3 HE1 HE2 hcl3
     gi_wp2
     go_roundw
     case rel => exact ⟨m + 1, I3, c.super, by omega, by go_num, HX.out.2, HJ3, HF2⟩
     case measure => simp [intOf]; omega
    ·gi_wp2
     refine bodyPost_ret (results_none rfl _ _ _) rfl ?_
     exact ⟨⟨_, rfl⟩, .inr hJx3⟩
   ·have hi2 : dR (jg cur) cs < 0 := by omega
    have HX : Hid ((upX cs (cs.length + 1) 0 name).length = m) := by
     show _ = _
     obtain ⟨pre, hp1, hp2⟩ := HPX.out
     rw [hp2]
     conv => lhs; rw [upX]
     unfold oL
     rw [if_neg hi]; simp [hp1]
    generalize dR (jg cur) cs = i at *
    clear hi
    gi_wp2
    refine ⟨fun _ h => (by cases h), ?_⟩
    gi_wp2
    refine bodyPost_ret (results_none rfl _ _ _) rfl ?_
    exact ⟨⟨_, rfl⟩, .inl ⟨I, by rw [HX.out]; exact HJ2.out⟩⟩
  ·obtain rfl : m = N + 1 := by omega
   have HX : Hid ((upX cs (cs.length + 1) 0 name).length = N + 1) := by
    show _ = _
    obtain ⟨pre, hp1, hp2⟩ := HPX.out
    have e3 : N + 1 - (N + 1) = 0 := by omega
    rw [hp2, e3, upX, List.append_nil, hp1]
   gi_wp2
   go_end0
   exact ⟨⟨_, rfl⟩, .inl ⟨I, by rw [HX.out]; exact HJP.out⟩⟩
end V
end Go.Proofs.YthhpcjoaogmhbaaGreatDoor
end
section
namespace Go.Proofs.YthhpcjoaogmhbaaGreatDoor
namespace V
open Go.RowKit
section
variable {w0 w w' : World} {I0 I : Nat → Nat → Prop} {B : Nat → Value} {m : Mem}
theorem MR.Nw (h : MR w0 I0 B I m w) {id b : Nat} (hid : m id = some .hole) (hB : B id = .pointer (some ⟨b, 0, none⟩)) (h1 : w'.os = w.os) (h2 : w'.tape = w.tape) (h3 : w'.output = w.output) (hsize : w.heap.size ≤ w'.heap.size) (hk : ∀ k, k < w.heap.size → k ≠ b → w'.heap[k]? = w.heap[k]?) :
 MR w0 I0 B I m w' ∧ Ext w w' I I := by
 have hf : foot B id .hole b := ⟨0, hB⟩
 obtain ⟨b', e1, hI⟩ := h.objs id _ hid
 rw [hB] at e1; cases e1
 have hl := h.low id _ hid b hf
 have hE : Ext w w' I I := ⟨fun _ _ k => k, fun c o ho => World.cell?_of_block (w := w) (hk c (h.there c o ho) (fun e => by subst e; exact hI o ho))⟩
 refine ⟨⟨h.below.trans ⟨h1, h2, h3, hsize, fun k hk' => hk k (Nat.lt_of_lt_of_le hk' h.below.size) (by omega)⟩, h.glob, h.base, h.old, fun c o ho => Nat.lt_of_lt_of_le (h.there c o ho) hsize, fun j o ho => ?_, fun j o ho k hk' => ?_, h.apart, h.live⟩, hE⟩
 ·by_cases e : j = id
  ·subst e
   rw [hid] at ho; cases ho
   exact ⟨b, hB, hI⟩
  ·exact RO.mono hE rfl (fun _ _ => rfl) (fun k hk' => hk k (h.low j o ho k hk').2 (fun e' => by subst e'; exact h.apart j o id _ ho hid e k hk' hf)) (fun _ _ _ hp => hp) (h.objs j o ho)
 ·have := h.low j o ho k hk'; omega
theorem MR.sub (h : MR w0 I0 B I m w) {m' : Mem} (hs : ∀ j o, m' j = some o → m j = some o) (hw : WFm m') : MR w0 I0 B I m' w :=
 ⟨h.below, h.glob, h.base, h.old, h.there, fun id o ho => h.objs id o (hs _ _ ho), fun id o ho => h.low id o (hs _ _ ho), fun id o id' o' ho ho' => h.apart id o id' o' (hs _ _ ho) (hs _ _ ho'), hw⟩
end
def bB (m : Mem) (i1 i2 iD iL : Nat) (x1 x2 xL : Obj) : Mem := upd (upd (upd (upd m i1 (some (.raw x1))) i2 (some (.raw x2))) iD (some (.raw (.deferred (some []))))) iL (some (.raw xL))
def qJ (m : Mem) (i1 i2 iD iL : Nat) (x1 xL : Obj) : Mem := upd (upd (upd (upd m i1 (some (.raw x1))) i2 (some .hole)) iD (some (.raw (.deferred (some []))))) iL (some (.raw xL))
def eT (s : Nat → A) (b iD : Nat) : Nat → A := upd (upd s DID (.defs [{ target := .collected b, args := #[] }])) (DID + 1) (.pinP (.pointer (some ⟨b, 0, none⟩)) iD 0)
def fH (m : Mem) (iD : Nat) : Mem := upd m iD (some (.raw (.deferred (some []))))
def keepR (kp : Nat → Prop) (s0 : Nat → A) (i1 i2 iD iL : Nat) : Nat → Prop := fun j => kp j ∨ (∃ t, j ∈ (s0 t).ids) ∨ j = i1 ∨ j = i2 ∨ j = iD ∨ j = iL
structure GoodM (kp : Nat → Prop) (s0 : Nat → A) (i1 i2 iD iL : Nat) (m : Mem) : Prop where
 wf : WFm m
 i1 : m i1 = none
 i2 : m i2 = none
 iD : m iD = none
 iL : m iL = none
 ids : ∀ t, ∀ j ∈ (s0 t).ids, (m j).isSome = true
 kept : ∀ j, kp j → (m j).isSome = true
theorem zZ {α : Type} (f : Nat → α) (i : Nat) (x y : α) : upd (upd f i x) i y = upd f i y := by
 funext t; unfold upd; split <;> rfl
def Rw (kp : Nat → Prop) (K : Exit → St → Prop) (Inv : Nat → Prop) (s0 : Nat → A) (M : Nat → Mem) (i1 i2 iD iL k : Nat) (x1 x2 xL : Obj) : Exit → St → Prop
 | .normal, st => Inv (k + 1) ∧ ∃ τ, LeT τ (keepR kp s0 i1 i2 iD iL) st ⟨fun _ => .top, bB (M (k + 1)) i1 i2 iD iL x1 x2 xL⟩
 | .ret, st => ∃ τ m2, LeT τ (keepR kp s0 i1 i2 iD iL) st ⟨fun _ => .top, bB m2 i1 i2 iD iL x1 x2 xL⟩ ∧ GoodM kp s0 i1 i2 iD iL m2 ∧ ∀ b, K .ret ⟨eT s0 b iD, fH m2 iD⟩
 | .exit id, st => ∃ τ m2, LeT τ (keepR kp s0 i1 i2 iD iL) st ⟨fun _ => .top, bB m2 i1 i2 iD iL x1 x2 xL⟩ ∧ GoodM kp s0 i1 i2 iD iL m2 ∧ ∀ b, K (.exit id) ⟨eT s0 b iD, fH m2 iD⟩
 | _, _ => False
section
variable {kp : Nat → Prop} {s0 : Nat → A} {i1 i2 iD iL : Nat} {m : Mem} {x1 x2 xL : Obj}
theorem zR {o2 : O} {j : Nat} {o : O} (h : upd (upd (upd (upd m i1 (some (.raw x1))) i2 (some o2)) iD (some (.raw (.deferred (some []))))) iL (some (.raw xL)) j = some o) : (j = iL ∧ o = .raw xL) ∨ (j = iD ∧ j ≠ iL ∧ o = .raw (.deferred (some []))) ∨ (j = i2 ∧ j ≠ iL ∧ j ≠ iD ∧ o = o2) ∨ (j = i1 ∧ j ≠ iL ∧ j ≠ iD ∧ j ≠ i2 ∧ o = .raw x1) ∨ (j ≠ iL ∧ j ≠ iD ∧ j ≠ i2 ∧ j ≠ i1 ∧ m j = some o) := by
 unfold upd at h
 split at h
 ·rename_i e; exact .inl ⟨e, (Option.some.inj h).symm⟩
 ·rename_i e1
  split at h
  ·rename_i e; exact .inr (.inl ⟨e, e1, (Option.some.inj h).symm⟩)
  ·rename_i e2
   split at h
   ·rename_i e; exact .inr (.inr (.inl ⟨e, e1, e2, (Option.some.inj h).symm⟩))
   ·rename_i e3
    split at h
    ·rename_i e; exact .inr (.inr (.inr (.inl ⟨e, e1, e2, e3, (Option.some.inj h).symm⟩)))
    ·rename_i e4; exact .inr (.inr (.inr (.inr ⟨e1, e2, e3, e4, h⟩)))
theorem rO {o2 : O} {j : Nat} (h : (m j).isSome = true) : (upd (upd (upd (upd m i1 (some (.raw x1))) i2 (some o2)) iD (some (.raw (.deferred (some []))))) iL (some (.raw xL)) j).isSome = true := by
 unfold upd
 split
 ·rfl
 ·split
  ·rfl
  ·split
   ·rfl
   ·split
    ·rfl
    ·exact h
theorem Ph {o2 : O} (h2 : o2.ids = []) (hw : WFm m) : WFm (upd (upd (upd (upd m i1 (some (.raw x1))) i2 (some o2)) iD (some (.raw (.deferred (some []))))) iL (some (.raw xL))) := fun j o ho i hi => by
 rcases zR ho with ⟨-, rfl⟩ | ⟨-, -, rfl⟩ | ⟨-, -, -, rfl⟩ | ⟨-, -, -, -, rfl⟩ | ⟨-, -, -, -, ho⟩
 ·simp [O.ids] at hi
 ·simp [O.ids] at hi
 ·rw [h2] at hi; simp at hi
 ·simp [O.ids] at hi
 ·exact rO (hw j o ho i hi)
theorem Nz (hw : WFm m) : WFm (qJ m i1 i2 iD iL x1 xL) := Ph rfl hw
theorem fG (h : GoodM kp s0 i1 i2 iD iL m) {j : Nat} (hj : keepR kp s0 i1 i2 iD iL j) : (bB m i1 i2 iD iL x1 x2 xL j).isSome = true := by
 rcases hj with hj | ⟨t, hj⟩ | hj
 ·exact rO (h.kept j hj)
 ·exact rO (h.ids t j hj)
 ·unfold bB upd
  split
  ·rfl
  ·split
   ·rfl
   ·split
    ·rfl
    ·split
     ·rfl
     ·omega
theorem PE (y : Obj) : upd (bB m i1 i2 iD iL x1 x2 xL) iL (some (.raw y)) = bB m i1 i2 iD iL x1 x2 y := zZ _ _ _ _
theorem Ou (y : Obj) : upd (qJ m i1 i2 iD iL x1 xL) iL (some (.raw y)) = qJ m i1 i2 iD iL x1 y := zZ _ _ _ _
theorem Mf (h2D : i2 ≠ iD) (h2L : i2 ≠ iL) (o o' : O) : upd (upd (upd (upd (upd m i1 (some (.raw x1))) i2 (some o)) iD (some (.raw (.deferred (some []))))) iL (some (.raw xL))) i2 (some o') = upd (upd (upd (upd m i1 (some (.raw x1))) i2 (some o')) iD (some (.raw (.deferred (some []))))) iL (some (.raw xL)) := by
 funext t
 unfold upd
 by_cases h1 : t = i2 <;> by_cases h2 : t = iL <;> by_cases h3 : t = iD <;> simp [h1, h2, h3]
 ·exact absurd (h1.symm.trans h2) h2L
 ·exact absurd (h1.symm.trans h2) h2L
 ·exact absurd (h1.symm.trans h3) h2D
 all_goals (try subst h1) <;> simp_all
end
theorem SR.wQ {R : Ref} {n : Nat} {ds : List Deferred} {st : St} {a : Act} {w : World} (h : SR R n ds st a w) {id b : Nat} {x : Obj} (hid : st.m id = some (.raw x)) (hk : R.keep id) (hB : R.B id = .pointer (some ⟨b, 0, none⟩)) (y : Obj) :
 w.heap[b]? = some x ∧ SR R n ds ⟨st.s, upd st.m id (some (.raw y))⟩ a (w.putObj b y) := by
 obtain ⟨⟨B, I, hm, hx0, hkp, hs⟩, hids, hsz, hnn, hdf, hkept⟩ := h
 have hB' : B id = .pointer (some ⟨b, 0, none⟩) := (hkp id hk).trans hB
 obtain ⟨hm', hE⟩ := hm.wQ hid hB' y
 have liv : ∀ i, (st.m i).isSome = true → (upd st.m id (some (.raw y)) i).isSome = true := fun i hi => by
  unfold upd; split
  ·rfl
  ·exact hi
 obtain ⟨b', e1, hx, -⟩ := hm.objs id _ hid
 rw [hB'] at e1; cases e1
 exact ⟨hx, ⟨B, I, hm', hx0.trans hE, hkp, fun t => (hs t).mono hE fun _ _ => rfl⟩, fun t j hj => liv j (hids t j hj), hsz, hnn, hdf, fun j hj => liv j (hkept j hj)⟩
set_option maxHeartbeats 1000000 in
theorem W.yX {R : Ref} {n : Nat} {ds : List Deferred} {st : St} {K : Exit → St → Prop} {g : Operand} {assign body : Code} {p0 p1 : Tmp}
 (cs : List Class) (name : ByteArray) (mn : C) (i1 i2 iD iL : Nat) (s0 : Nat → A) (M : Nat → Mem) (Inv : Nat → Prop) (hlen : cs.length ≤ 1000000000)
 (hg : ev st.s g = .fn 92 [i1, i2]) (h1 : st.m i1 = some (.box 25 [.c (.sl (cs.map ay)), .c mn])) (h2 : st.m i2 = some (.box 9 [.c (.str name)]))
 (hne : [i1, i2, iD, iL].Nodup) (hD : st.m iD = none) (hL : st.m iL = none) (hpn : p0 < n ∧ p1 < n ∧ p0 ≠ p1) (hI0 : Inv 0) (hdd : dfs (st.s DID) = [])
 (hs0 : SLe st.s s0) (hsn : ∀ t, n ≤ t → s0 t = .top) (hM0 : ∀ j o, M 0 j = some o → st.m j = some o)
 (hM : ∀ k, k ≤ (upX cs (cs.length + 1) 0 name).length → GoodM R.keep s0 i1 i2 iD iL (M k))
 (hround : ∀ (R' : Ref) (l : Nat), R'.keep = keepR R.keep s0 i1 i2 iD iL → ∀ (k j : Nat) (c : Class) (x1 x2 xL : Obj), Inv k → (upX cs (cs.length + 1) 0 name)[k]? = some (k, j) → cs[j]? = some c →
   WI l 3 Tryz.prog R' n [] ⟨upd (upd s0 p0 (.c (.int .i64 (k : Int)))) p1 (.agg (ay c)), bB (M k) i1 i2 iD iL x1 x2 xL⟩ assign
    (zM (fun st1 => st1.m iL = some (.raw xL) ∧ ∀ xL', WI l 3 Tryz.prog R' n [] ⟨st1.s, upd st1.m iL (some (.raw xL'))⟩ body (Rw R.keep K Inv s0 M i1 i2 iD iL k x1 x2 xL')) (fun _ _ => False)))
 (hdone : Inv (upX cs (cs.length + 1) 0 name).length → ∀ b, K .normal ⟨eT s0 b iD, fH (M (upX cs (cs.length + 1) 0 name).length) iD⟩) :
 W Tryz.prog R n ds st (.rangeFunc g #[p0, p1] assign body) K := by
 intro a w hr
 obtain ⟨⟨B, I, hm, hx0, hkp, hs⟩, hids, hsz, hnn, hdf, hkept⟩ := hr
 simp only [List.nodup_cons, List.mem_cons, List.not_mem_nil, or_false, not_or, List.nodup_nil, and_true, not_false_eq_true] at hne
 obtain ⟨⟨n12, n1D, n1L⟩, ⟨n2D, n2L⟩, nDL⟩ := hne
 obtain ⟨b1, us1, hB1, hh1, hv1, hI1⟩ := hm.objs i1 _ h1
 obtain ⟨b2, us2, hB2, hh2, hv2, hI2⟩ := hm.objs i2 _ h2
 have hb12 : b1 ≠ b2 := fun e => hm.apart i1 _ i2 _ h1 h2 n12 b1 ⟨0, hB1⟩ ⟨0, e ▸ hB2⟩
 -- the two boxes' cells
 obtain ⟨cv, mv, rfl⟩ : ∃ cv mv, us1 = [cv, mv] := by
  have := hv1.length
  match us1, this with | [x, y], _ => exact ⟨x, y, rfl⟩
 obtain ⟨nv, rfl⟩ : ∃ nv, us2 = [nv] := by
  have := hv2.length
  match us2, this with | [x], _ => exact ⟨x, rfl⟩
 obtain rfl : nv = .string name := (RC.toStr hv2.1.1).1
 have hcv : RC w I cv (.sl (cs.map ay)) := hv1.1.1
 have hfv : a.eval g = .func (.func 92) #[] #[.pointer (some ⟨b1, 0, none⟩), .pointer (some ⟨b2, 0, none⟩)] := by
  have := iK hs g
  rw [hg] at this
  have h := show a.eval g = .func (.func 92) #[] (([i1, i2].map B).toArray) from this
  rw [h]; simp [hB1, hB2]
 have had : a.defers = ds := by rw [hdf, show dfs (st.s DID) = [] from hdd]; rfl
 refine (wpIn_wide (n := 5)).1 (wpIn_rangeFunc fun fn hfn => ?_)
 -- the loop's book-keeping
 generalize hrec : (fun s pe => yQ fn a.tmps #[p0, p1] assign body w.heap.size s pe) = rec'
 have recL : ∀ s pe, rec' s pe = yQ fn a.tmps #[p0, p1] assign body w.heap.size s pe := fun s pe => by rw [← hrec]
 generalize hws : (w.alloc (.deferred (some []))).alloc (rec' .ready none) = ws
 have size0 : (w.alloc (.deferred (some []))).heap.size = w.heap.size + 1 := World.size_alloc _ _
 generalize hBsd : upd (upd B iD (.pointer (some ⟨w.heap.size, 0, none⟩))) iL (.pointer (some ⟨w.heap.size + 1, 0, none⟩)) = Bs
 have hm1 := hm.LX hD (.deferred (some []))
 have hb1 : Below w.heap.size w (w.alloc (.deferred (some []))) := (Below.refl _ _).alloc (Nat.le_refl _) _
 have hL' : upd st.m iD (some (O.raw (.deferred (some [])))) iL = none := by rw [upd_ne _ _ (Ne.symm nDL)]; exact hL
 have hm2 := hm1.LX hL' (rec' .ready none)
 rw [size0, hBsd, hws] at hm2
 have hb2 : Below w.heap.size w ws := by rw [← hws]; exact hb1.alloc (by rw [size0]; omega) _
 have hE2 : Ext w ws I I := hm.ext hb2 (fun _ _ k => k)
 have hBs : ∀ j, (st.m j).isSome = true → Bs j = B j := fun j hj => by
  rw [← hBsd, upd_ne _ _ (fun e => by subst e; simp [hL] at hj), upd_ne _ _ (fun e => by subst e; simp [hD] at hj)]
 have hB1s : Bs i1 = .pointer (some ⟨b1, 0, none⟩) := (hBs i1 (by simp [h1])).trans hB1
 have hB2s : Bs i2 = .pointer (some ⟨b2, 0, none⟩) := (hBs i2 (by simp [h2])).trans hB2
 have hBDs : Bs iD = .pointer (some ⟨w.heap.size, 0, none⟩) := by rw [← hBsd, upd_ne _ _ nDL, upd_same]
 have hBLs : Bs iL = .pointer (some ⟨w.heap.size + 1, 0, none⟩) := by rw [← hBsd, upd_same]
 have hl1 : b1 < w.heap.size := (Array.getElem?_eq_some_iff.1 hh1).1
 have hl2 : b2 < w.heap.size := (Array.getElem?_eq_some_iff.1 hh2).1
 -- the frame, as it was at the loop's start
 have hframe : ∀ t, RV Bs ws I (s0 t) (a.tmps.getD t undef) := fun t => by
  rcases hs0 t with e | e
  ·rw [e]; trivial
  ·rw [e]; exact (hs t).mono hE2 fun j hj => hBs j (hids t j hj)
 let x1 : Obj := .cells #[cv, mv] 25
 let kp' := keepR R.keep s0 i1 i2 iD iL
 have keep1 : kp' i1 := .inr (.inr (.inl rfl))
 have keep2 : kp' i2 := .inr (.inr (.inr (.inl rfl)))
 have keepD : kp' iD := .inr (.inr (.inr (.inr (.inl rfl))))
 have keepL : kp' iL := .inr (.inr (.inr (.inr (.inr rfl))))
 let R' : Ref := ⟨R.w0, R.I0, ws, I, Bs, kp'⟩
 let J : Nat → (Nat → Nat → Prop) → World → Prop := fun k I1 W => ∃ B1, MR R.w0 R.I0 B1 I1 (qJ (M k) i1 i2 iD iL x1 (rec' .ready none)) W ∧ Ext ws W I I1 ∧ (∀ j, kp' j → B1 j = Bs j) ∧ k ≤ (upX cs (cs.length + 1) 0 name).length ∧ Inv k
 let Jx : World → Prop := fun W => ∃ c B1 I1 m2, MR R.w0 R.I0 B1 I1 (qJ m2 i1 i2 iD iL x1 (rec' .done (some c))) W ∧ Ext ws W I I1 ∧ (∀ j, kp' j → B1 j = Bs j) ∧ GoodM R.keep s0 i1 i2 iD iL m2 ∧
  ((c = .ret ∧ ∀ b, K .ret ⟨eT s0 b iD, fH m2 iD⟩) ∨ ∃ id, c = .exit id ∧ ∀ b, K (.exit id) ⟨eT s0 b iD, fH m2 iD⟩)
 have fullL : ∀ (m : Mem) (o2 : O) (x : Obj), upd (upd (upd (upd m i1 (some (.raw x1))) i2 (some o2)) iD (some (.raw (.deferred (some []))))) iL (some (.raw x)) iL = some (.raw x) := fun _ _ _ => upd_same _ _ _
 have full2 : ∀ (m : Mem) (o2 : O) (x : Obj), upd (upd (upd (upd m i1 (some (.raw x1))) i2 (some o2)) iD (some (.raw (.deferred (some []))))) iL (some (.raw x)) i2 = some o2 := fun _ _ _ => by rw [upd_ne _ _ n2L, upd_ne _ _ n2D, upd_same]
 have full1 : ∀ (m : Mem) (o2 : O) (x : Obj), upd (upd (upd (upd m i1 (some (.raw x1))) i2 (some o2)) iD (some (.raw (.deferred (some []))))) iL (some (.raw x)) i1 = some (.raw x1) := fun _ _ _ => by rw [upd_ne _ _ n1L, upd_ne _ _ n1D, upd_ne _ _ n12, upd_same]
 -- behind the loop
 have finish : ∀ {W : World} {B1 : Nat → Value} {I1 : Nat → Nat → Prop} {m2 : Mem} {y : Obj}, MR R.w0 R.I0 B1 I1 (qJ m2 i1 i2 iD iL x1 y) W → Ext ws W I I1 → (∀ j, kp' j → B1 j = Bs j) → GoodM R.keep s0 i1 i2 iD iL m2 →
  SR R n ds ⟨eT s0 w.heap.size iD, fH m2 iD⟩ { a with defers := { target := .collected w.heap.size, args := #[] } :: a.defers } W := fun {W B1 I1 m2 y} hmW hxW hkW hgd => by
  have liv : ∀ j, (m2 j).isSome = true → (fH m2 iD j).isSome = true := fun j hj => by
   unfold fH upd; split
   ·rfl
   ·exact hj
  have hsub : MR R.w0 R.I0 B1 I1 (fH m2 iD) W := hmW.sub (fun j o ho => by
   unfold fH upd at ho
   split at ho
   ·rename_i e; subst e; cases ho
    unfold qJ; rw [upd_ne _ _ nDL, upd_same]
   ·rename_i e
    have e1 : j ≠ iL := fun q => by subst q; rw [hgd.iL] at ho; cases ho
    have e2 : j ≠ i2 := fun q => by subst q; rw [hgd.i2] at ho; cases ho
    have e3 : j ≠ i1 := fun q => by subst q; rw [hgd.i1] at ho; cases ho
    unfold qJ; rw [upd_ne _ _ e1, upd_ne _ _ e, upd_ne _ _ e2, upd_ne _ _ e3]; exact ho) (fun j o ho i hi => by
   unfold fH upd at ho
   split at ho
   ·cases ho; simp [O.ids] at hi
   ·exact liv i (hgd.wf j o ho i hi))
  have sl : ∀ t, t ≠ DID → t ≠ DID + 1 → eT s0 w.heap.size iD t = s0 t := fun t e1 e2 => by
   unfold eT; rw [upd_ne _ _ e2, upd_ne _ _ e1]
  refine ⟨⟨B1, I1, hsub, (hx0.trans hE2).trans hxW, fun j hj => ((hkW j (.inl hj)).trans (hBs j (hkept j hj))).trans (hkp j hj), fun t => ?_⟩, fun t j hj => ?_, hsz, hnn, ?_, fun j hj => liv j (hgd.kept j hj)⟩
  ·by_cases e2 : t = DID + 1
   ·subst e2
    show RV B1 W I1 (eT s0 w.heap.size iD (DID + 1)) _
    unfold eT; rw [upd_same]
    exact ⟨w.heap.size, (hkW iD keepD).trans hBDs, rfl⟩
   ·by_cases e1 : t = DID
    ·subst e1
     show RV B1 W I1 (eT s0 w.heap.size iD DID) _
     unfold eT; rw [upd_ne _ _ (by decide), upd_same]
     trivial
    ·show RV B1 W I1 (eT s0 w.heap.size iD t) _
     rw [sl t e1 e2]
     exact (hframe t).mono hxW fun j hj => hkW j (.inr (.inl ⟨t, hj⟩))
  ·replace hj : j ∈ (eT s0 w.heap.size iD t).ids := hj
   by_cases e2 : t = DID + 1
   ·subst e2
    unfold eT at hj; rw [upd_same] at hj
    simp [A.ids] at hj; subst hj
    show (fH m2 j j).isSome = true
    unfold fH; rw [upd_same]; rfl
   ·by_cases e1 : t = DID
    ·subst e1
     unfold eT at hj; rw [upd_ne _ _ (by decide), upd_same] at hj
     simp [A.ids] at hj
    ·rw [sl t e1 e2] at hj
     exact liv j (hgd.ids t j hj)
  ·show _ :: a.defers = dfs (eT s0 w.heap.size iD DID) ++ ds
   unfold eT; rw [upd_ne _ _ (by decide), upd_same, had]; rfl
 have hJ0 : J 0 I ws := by
  have ha : MR R.w0 R.I0 Bs I (upd (upd (upd st.m iD (some (O.raw (.deferred (some []))))) iL (some (.raw (rec' .ready none)))) i2 (some .hole)) ws := hm2.Gf (id := i2) (o := .box 9 [.c (.str name)]) (by rw [upd_ne _ _ n2L, upd_ne _ _ n2D]; exact h2) ⟨b2, hB2s, hI2, fun k => ⟨fun ⟨off, hk⟩ => by rw [hB2s] at hk; cases hk; rfl, fun e => ⟨0, e ▸ hB2s⟩⟩⟩
  have hi1 : upd (upd (upd st.m iD (some (O.raw (.deferred (some []))))) iL (some (.raw (rec' .ready none)))) i2 (some .hole) i1 = some (.box 25 [.c (.sl (cs.map ay)), .c mn]) := by rw [upd_ne _ _ n12, upd_ne _ _ n1L, upd_ne _ _ n1D]; exact h1
  have hb := ha.Gf hi1 ⟨b1, hB1s, hI1, fun k => ⟨fun ⟨off, hk⟩ => by rw [hB1s] at hk; cases hk; rfl, fun e => ⟨0, e ▸ hB1s⟩⟩⟩
  have hc := hb.KU (id := i1) (b := b1) (x := x1) (upd_same _ _ _) hB1s ((hb2.block b1 hl1).trans hh1)
  refine ⟨Bs, hc.sub (fun j o ho => ?_) (Nz (hM 0 (Nat.zero_le _)).wf), Ext.refl _ _, fun _ _ => rfl, Nat.zero_le _, hI0⟩
  rw [zZ]
  rcases zR ho with ⟨rfl, rfl⟩ | ⟨rfl, e1, rfl⟩ | ⟨rfl, e1, e2, rfl⟩ | ⟨rfl, e1, e2, e3, rfl⟩ | ⟨e1, e2, e3, e4, ho⟩
  ·rw [upd_ne _ _ (Ne.symm n1L), upd_ne _ _ (Ne.symm n2L), upd_same]
  ·rw [upd_ne _ _ (Ne.symm n1D), upd_ne _ _ (Ne.symm n2D), upd_ne _ _ nDL, upd_same]
  ·rw [upd_ne _ _ (Ne.symm n12), upd_same]
  ·rw [upd_same]
  ·rw [upd_ne _ _ e4, upd_ne _ _ e3, upd_ne _ _ e1, upd_ne _ _ e2]; exact hM0 j o ho
 have hJA : Jc b2 J := fun k I1 W W' row hj hgr hrow => by
  obtain ⟨B1, q1, q2, q3, q4⟩ := hj
  have hB := (q3 i2 keep2).trans hB2s
  obtain ⟨r1, r2⟩ := q1.Nw (full2 _ _ _) hB hgr.os hgr.tape hgr.output hgr.size (fun c hc hcb => hgr.block c hc (fun e => hcb (hrow c e.symm)))
  exact ⟨B1, r1, q2.trans r2, q3, q4⟩
 have hJR : ∀ k I1 W, J k I1 W → (∀ b o, I1 b o → b < W.heap.size) ∧ RC W I1 cv (.sl (cs.map ay)) ∧ W.heap[b1]? = some (.cells #[cv, mv] 25) := fun k I1 W hj => by
  obtain ⟨B1, q1, q2, q3, q4⟩ := hj
  refine ⟨q1.there, RC.mono q2 (RC.mono hE2 hcv), ?_⟩
  obtain ⟨b, e1, e2, -⟩ := q1.objs i1 _ (full1 _ _ _)
  rw [(q3 i1 keep1).trans hB1s] at e1; cases e1
  exact e2
 refine ⟨w.heap.size + 1, [{ target := .collected w.heap.size, args := #[] }], ws, { target := .fn (.func 92) #[.pointer (some ⟨b1, 0, none⟩), .pointer (some ⟨b2, 0, none⟩)], args := #[.func (.yield (w.heap.size + 1)) #[] #[]] }, ws, 92,
  #[.func (.yield (w.heap.size + 1)) #[] #[], .pointer (some ⟨b1, 0, none⟩), .pointer (some ⟨b2, 0, none⟩)], ws, ?_, by simp only [resolve, hfv]; simp [go_sem, Deferred.ofValue], ?_, ?_, fun _ => by decide, ?_⟩
 ·rw [← hws, recL]; exact run_enterLoop_outer _ _ _ _ _
 ·intro f' hf'
  simp [Target.leads] at hf'
  subst hf'; trivial
 ·have := enters_of Tryz.func92 (by kernel_rfl) rfl #[.func (.yield (w.heap.size + 1)) #[] #[], .pointer (some ⟨b1, 0, none⟩), .pointer (some ⟨b2, 0, none⟩)] ws
  simp [invoke, go_sem, this]
 refine (Tf 4 (by decide) (w.heap.size + 1) b1 b2 cv mv cs name hlen J Jx hJA hb12 hJR ?_ ws I ((hb2.block b2 hl2).trans hh2) hJ0).mono ?_
 ·intro k I1 W j c vs hj hitem hc hvs
  obtain ⟨B1, q1, q2, q3, q4, qI⟩ := hj
  have hk : k < (upX cs (cs.length + 1) 0 name).length := (List.getElem?_eq_some_iff.1 hitem).1
  have hB2W : B1 i2 = .pointer (some ⟨b2, 0, none⟩) := (q3 i2 keep2).trans hB2s
  have hl2W : b2 < W.heap.size := (q1.low i2 _ (full2 _ _ _) b2 ⟨0, hB2W⟩).2
  obtain ⟨x2, hx2⟩ : ∃ x, W.heap[b2]? = some x := ⟨_, Array.getElem?_eq_getElem hl2W⟩
  have q5 : MR R.w0 R.I0 B1 I1 (bB (M k) i1 i2 iD iL x1 x2 (rec' .ready none)) W := by
   have := q1.KU (full2 _ _ _) hB2W hx2
   unfold qJ at this
   rw [Mf n2D n2L] at this
   exact this
  have hL1 : W.heap[w.heap.size + 1]? = some (rec' .ready none) := by
   obtain ⟨b, e1, e2, -⟩ := q1.objs iL _ (fullL _ _ _)
   rw [(q3 iL keepL).trans hBLs] at e1; cases e1
   exact e2
  have hL2 := hL1
  rw [recL] at hL2
  have hgk := hM k q4
  have hfold : (((#[p0, p1] : Array Tmp).zip (#[.int .i64 (k : Int), .agg vs.toArray] : Array Value)).foldl (fun tmps (p : Tmp × Value) => tmps.setIfInBounds p.1 p.2) a.tmps) = (a.tmps.setIfInBounds p0 (.int .i64 (k : Int))).setIfInBounds p1 (.agg vs.toArray) := by simp
  have htm : ∀ t, ((((#[p0, p1] : Array Tmp).zip (#[.int .i64 (k : Int), .agg vs.toArray] : Array Value)).foldl (fun tmps (p : Tmp × Value) => tmps.setIfInBounds p.1 p.2) a.tmps).getD t undef) = if t = p1 then .agg vs.toArray else if t = p0 then .int .i64 (k : Int) else a.tmps.getD t undef := fun t => by
   rw [hfold, Array.getD_eq_getD_getElem?, Array.getElem?_setIfInBounds]
   by_cases e1 : p1 = t
   ·subst e1
    rw [if_pos rfl, if_pos (by simp; rw [hsz]; exact hpn.2.1), if_pos rfl]; rfl
   ·rw [if_neg e1, if_neg (Ne.symm e1), Array.getElem?_setIfInBounds]
    by_cases e0 : p0 = t
    ·subst e0
     rw [if_pos rfl, if_pos (by rw [hsz]; exact hpn.1), if_pos rfl]; rfl
    ·rw [if_neg e0, if_neg (Ne.symm e0), Array.getD_eq_getD_getElem?]
  have hwf : (Lit.int .i64 (k : Int)).wf = true := by
   have := nP cs (cs.length + 1) 0 name
   exact wf_i64 (by omega) (by omega)
  have hsr : SR R' n [] ⟨upd (upd s0 p0 (.c (.int .i64 (k : Int)))) p1 (.agg (ay c)), bB (M k) i1 i2 iD iL x1 x2 (rec' .ready none)⟩ { tmps := ((#[p0, p1] : Array Tmp).zip (#[.int .i64 (k : Int), .agg vs.toArray] : Array Value)).foldl (fun tmps (p : Tmp × Value) => tmps.setIfInBounds p.1 p.2) a.tmps, defers := [] } W := by
   refine ⟨⟨B1, I1, q5, q2, q3, fun t => ?_⟩, fun t q hq => ?_, ?_, hnn, ?_, fun q hq => fG hgk hq⟩
   ·rw [htm]
    show RV B1 W I1 (upd (upd s0 p0 (.c (.int .i64 (k : Int)))) p1 (.agg (ay c)) t) _
    by_cases e1 : t = p1
    ·subst e1; rw [upd_same, if_pos rfl]; exact ⟨vs, rfl, hvs⟩
    ·rw [upd_ne _ _ e1, if_neg e1]
     by_cases e0 : t = p0
     ·subst e0; rw [upd_same, if_pos rfl]; exact .int hwf
     ·rw [upd_ne _ _ e0, if_neg e0]
      exact (hframe t).mono q2 fun q hq => q3 q (.inr (.inl ⟨t, hq⟩))
   ·replace hq : q ∈ (upd (upd s0 p0 (A.c (.int .i64 (k : Int)))) p1 (.agg (ay c)) t).ids := hq
    by_cases e1 : t = p1
    ·subst e1; rw [upd_same] at hq; simp [A.ids] at hq
    ·rw [upd_ne _ _ e1] at hq
     by_cases e0 : t = p0
     ·subst e0; rw [upd_same] at hq; simp [A.ids] at hq
     ·rw [upd_ne _ _ e0] at hq
      exact rO (hgk.ids t q hq)
   ·show (((#[p0, p1] : Array Tmp).zip (#[.int .i64 (k : Int), .agg vs.toArray] : Array Value)).foldl (fun tmps (p : Tmp × Value) => tmps.setIfInBounds p.1 p.2) a.tmps).size = n
    rw [hfold]; simp [hsz]
   ·show [] = dfs (upd (upd s0 p0 (A.c (.int .i64 (k : Int)))) p1 (.agg (ay c)) DID) ++ []
    have hn1 : DID ≠ p1 := fun e => by have h := hpn.2.1; rw [← e] at h; exact absurd h (Nat.not_lt.2 hnn)
    have hn0 : DID ≠ p0 := fun e => by have h := hpn.1; rw [← e] at h; exact absurd h (Nat.not_lt.2 hnn)
    rw [upd_ne _ _ hn1, upd_ne _ _ hn0, hsn DID hnn]; rfl
  refine ⟨fn, _, assign, body, run_yield (P := Tryz.prog) (args := #[.int .i64 (k : Int), .agg vs.toArray]) hL2 rfl, roundIn_of_wpIn hfn (wpIn_mono (hround R' (w.heap.size + 1) rfl k j c x1 x2 (rec' .ready none) qI hitem hc _ W hsr) ?_)⟩
  rintro e a1 W1 ⟨st1, hk1, hsr1⟩
  cases e with
  | normal =>
    obtain ⟨hi1, hbody⟩ := hk1
    obtain ⟨hx1, hsr2⟩ := hsr1.wQ hi1 keepL hBLs (rec' .busy none)
    rw [recL] at hx1
    refine ⟨_, run_beginRound hx1 rfl, ?_⟩
    have hb := hbody (rec' .busy none) a1 _ hsr2
    rw [recL] at hb
    refine wpIn_mono hb ?_
    rintro e a3 V ⟨st2, hk2, hsr3⟩
    rw [← recL .busy none] at hk2
    -- a round has ended
    have fin : ∀ {τ : Nat → Nat} {m2 : Mem} (s' : LoopState) (pe : Option Code), GoodM R.keep s0 i1 i2 iD iL m2 → LeT τ kp' st2 ⟨fun _ => .top, bB m2 i1 i2 iD iL x1 x2 (rec' .busy none)⟩ → V.heap[w.heap.size + 1]? = some (rec' .busy none) ∧
     ∃ B3 I3, MR R.w0 R.I0 B3 I3 (qJ m2 i1 i2 iD iL x1 (rec' s' pe)) (V.putObj (w.heap.size + 1) (rec' s' pe)) ∧ Ext ws (V.putObj (w.heap.size + 1) (rec' s' pe)) I I3 ∧ (∀ j, kp' j → B3 j = Bs j) ∧ (V.putObj (w.heap.size + 1) (rec' s' pe)).heap[b2]? = W.heap[b2]? := fun {τ m2} s' pe hgd hle => by
     have h5 := hsr3.leT (R := R') hle
     obtain ⟨h6, h7⟩ := h5.wQ (fullL _ _ _) keepL hBLs (rec' s' pe)
     rw [show (⟨fun _ => .top, bB m2 i1 i2 iD iL x1 x2 (rec' .busy none)⟩ : St).m = bB m2 i1 i2 iD iL x1 x2 (rec' .busy none) from rfl, PE] at h7
     obtain ⟨⟨B3, I3, r1, r2, r3, -⟩, -⟩ := h7
     have hB3 : B3 i2 = .pointer (some ⟨b2, 0, none⟩) := (r3 i2 keep2).trans hB2s
     obtain ⟨b, e1, e2, e3⟩ := r1.objs i2 _ (full2 _ _ _)
     rw [hB3] at e1; cases e1
     refine ⟨h6, B3, I3, ?_, r2, r3, e2.trans hx2.symm⟩
     have := r1.Gf (id := i2) (o := .raw x2) (full2 _ _ _) ⟨b2, hB3, e3, fun k => ⟨fun ⟨off, hk⟩ => by rw [hB3] at hk; cases hk; rfl, fun e => ⟨0, e ▸ hB3⟩⟩⟩
     unfold bB at this
     rw [Mf n2D n2L] at this
     exact this
    match e, hk2 with
    | .normal, ⟨hIn, τ, hle⟩ =>
      obtain ⟨h6, B3, I3, r1, r2, r3, r4⟩ := fin .ready none (hM (k + 1) hk) hle
      rw [recL] at h6
      refine ⟨_, _, run_endRound (P := Tryz.prog) none h6, .inl ⟨rfl, ⟨I3, B3, ?_, ?_, r3, hk, hIn⟩, ?_⟩⟩
      ·rw [recL] at r1 ⊢; exact r1
      ·rw [recL] at r2; exact r2
      ·rw [recL] at r4; exact r4
    | .ret, ⟨τ, m2, hle, hgd, hK⟩ =>
      obtain ⟨h6, B3, I3, r1, r2, r3, r4⟩ := fin .done (some .ret) hgd hle
      rw [recL] at h6
      refine ⟨_, _, run_endRound (P := Tryz.prog) (some .ret) h6, .inr ⟨rfl, .ret, B3, I3, m2, ?_, ?_, r3, hgd, .inl ⟨rfl, hK⟩⟩⟩
      ·rw [recL] at r1 ⊢; exact r1
      ·rw [recL] at r2; exact r2
    | .exit id, ⟨τ, m2, hle, hgd, hK⟩ =>
      obtain ⟨h6, B3, I3, r1, r2, r3, r4⟩ := fin .done (some (.exit id)) hgd hle
      rw [recL] at h6
      refine ⟨_, _, run_endRound (P := Tryz.prog) (some (.exit id)) h6, .inr ⟨rfl, .exit id, B3, I3, m2, ?_, ?_, r3, hgd, .inr ⟨id, rfl, hK⟩⟩⟩
      ·rw [recL] at r1 ⊢; exact r1
      ·rw [recL] at r2; exact r2
  | _ => exact hk1.elim
 ·-- the loop has ended
  have over : ∀ {W : World} {B1 : Nat → Value} {I1 : Nat → Nat → Prop} {m2 : Mem} {s' : LoopState} {pe : Option Code} (y : Obj), MR R.w0 R.I0 B1 I1 (qJ m2 i1 i2 iD iL x1 (rec' s' pe)) W → Ext ws W I I1 → (∀ j, kp' j → B1 j = Bs j) → GoodM R.keep s0 i1 i2 iD iL m2 →
   W.heap[w.heap.size + 1]? = some (rec' s' pe) ∧ SR R n ds ⟨eT s0 w.heap.size iD, fH m2 iD⟩ { a with defers := { target := .collected w.heap.size, args := #[] } :: a.defers } (W.putObj (w.heap.size + 1) y) := fun {W B1 I1 m2 s' pe} y r1 r2 r3 hgd => by
   have hBL := (r3 iL keepL).trans hBLs
   obtain ⟨b, e1, e2, -⟩ := r1.objs iL _ (fullL _ _ _)
   rw [hBL] at e1; cases e1
   obtain ⟨r4, r5⟩ := r1.wQ (fullL _ _ _) hBL y
   rw [Ou] at r4
   exact ⟨e2, finish r4 (r2.trans r5) r3 hgd⟩
  rintro e V ⟨⟨v, rfl⟩, (⟨I1, B1, r1, r2, r3, r4, rI⟩ | ⟨c, B1, I1, m2, r1, r2, r3, hgd, hc⟩)⟩
  ·obtain ⟨h6, h7⟩ := over (yQ fn a.tmps #[p0, p1] assign body w.heap.size .exhausted none) r1 r2 r3 (hM _ (Nat.le_refl _))
   rw [recL] at h6
   exact ⟨none, _, run_endLoop (P := Tryz.prog) h6 (by simp), ⟨_, hdone rI _, h7⟩⟩
  ·obtain ⟨h6, h7⟩ := over (yQ fn a.tmps #[p0, p1] assign body w.heap.size .exhausted (some c)) r1 r2 r3 hgd
   rw [recL] at h6
   refine ⟨some c, _, run_endLoop (P := Tryz.prog) h6 (by simp), ?_⟩
   rcases hc with ⟨rfl, hK⟩ | ⟨id, rfl, hK⟩
   ·exact wpIn_ret ⟨_, hK _, h7⟩
   ·exact wpIn_exit ⟨_, hK _, h7⟩
theorem A1.mQ (a : A1) : a.ren (fun j => j) = a := by cases a <;> rfl
theorem A.mQ (a : A) : a.ren (fun j => j) = a := by
 have h1 : ∀ l : List A1, l.map (A1.ren fun j => j) = l := fun l => by
  rw [show (A1.ren fun j => j) = (fun a => a) from funext A1.mQ]; simp
 cases a <;> simp [A.ren, h1]
theorem O.mQ (o : O) : o.ren (fun j => j) = o := by
 cases o with
 | box ty cells => simp only [O.ren]; rw [show (A.ren fun j => j) = (fun a => a) from funext A.mQ]; simp
 | rows ty xs => simp only [O.ren]; rw [show (A1.ren fun j => j) = (fun a => a) from funext A1.mQ]; simp
 | map ents => simp only [O.ren]; simp [A1.mQ]
 | _ => rfl
theorem Le.toT {kp : Nat → Prop} {st st' : St} (h : Le kp st st') : LeT (fun j => j) kp st st' := by
 refine ⟨fun t => ?_, fun j o ho => ?_, fun i j _ _ e => e, h.wf, fun j hj => ⟨rfl, h.kept j hj⟩, h.dd⟩
 ·rw [A.mQ]; exact h.s t
 ·rw [O.mQ]
  rcases h.m j with e | e
  ·rw [e] at ho; cases ho
  ·rw [← e]; exact ho
theorem vN {P : Go.Program} {T : Tab} (hT : T.Ok P) {f : FuncId} {fn : Func} {c : Code} {l : List ResultVar} {args : List A} {r : A} (hf : P.funcs[f]? = some fn) (hn : (fn.name == "runtime.NumGoroutine") = false) (hb : fn.body = some c) (hl : fn.results.toList = l) (hd : args.all (fun a => a.ids.isEmpty && !(match a with | .defs _ => true | _ => false)) = true) (hr : r.ids = []) (hle : decide (args.length ≤ fn.ntmps ∧ fn.ntmps ≤ DID) = true)
 (hW : ∀ R : Ref, R.keep = (fun _ => False) → W P R fn.ntmps [] ⟨entry args, Mem.nil⟩ c (fun e st => (e = .normal ∨ e = .ret) ∧ ((dfs (st.s DID) = [] ∧ bE T st l = some r) ∨
   ∃ b iD, dfs (st.s DID) = [{ target := .collected b, args := #[] }] ∧ st.s (DID + 1) = .pinP (.pointer (some ⟨b, 0, none⟩)) iD 0 ∧ st.m iD = some (.raw (.deferred (some []))) ∧ bE T ⟨st.s, upd st.m iD (some (.raw (.deferred none)))⟩ l = some r))) (m : Mem) : COk P f args m r := by
 refine ⟨enters_of hf hn hb, hr, fun m' _ => ?_⟩
 intro w0 I0 B I w vals hm hv
 have hlen := lZ hv
 have hids : ∀ a ∈ args, a.ids = [] := fun a ha => by have := List.all_eq_true.1 hd a ha; simp only [Bool.and_eq_true] at this; simpa using this.1
 have hdf : ∀ a ∈ args, ∀ l, a ≠ .defs l := fun a ha l e => by have := List.all_eq_true.1 hd a ha; subst e; simp at this
 obtain ⟨hle1, hle2⟩ := of_decide_eq_true hle
 refine (callsIn_wide (n := 5)).1 (callsIn_of_wp_marks hf hb trivial ?_ rfl)
 have h0 : SR ⟨w, I, w, I, B, fun _ => False⟩ fn.ntmps [] ⟨entry args, Mem.nil⟩ { tmps := vals.toArray ++ Array.replicate (fn.ntmps - vals.toArray.size) undef, defers := [] } w := by
  refine ⟨⟨B, I, ⟨Below.refl _ _, hm.pO, fun _ _ h => h, fun _ _ h => .inl h, hm.there, fun _ _ h => absurd h (bO _), fun _ _ h => absurd h (bO _), fun _ _ _ _ h => absurd h (bO _), fun _ _ h => absurd h (bO _)⟩, Ext.refl _ _, fun _ _ => rfl, j4 hv⟩, fun t j hj => ?_, by simp [hlen]; omega, hle2, by rw [show dfs ((⟨entry args, Mem.nil⟩ : St).s DID) = [] from j6 hdf]; rfl, fun j hj => hj.elim⟩
  simp only [entry, List.getD_eq_getElem?_getD] at hj
  cases hx : args[t]? with
  | none => rw [hx] at hj; simp [A.ids] at hj
  | some a => rw [hx] at hj; simp [hids a (List.mem_of_getElem? hx)] at hj
 refine wpIn_mono (wpIn_wide.2 (hW _ rfl _ w h0)) ?_
 rintro e a' w' ⟨st', ⟨he, hres⟩, hsr⟩
 have post : LeavesInM Fence.wide 5 P fn a'.tmps (fun e w' => ∃ v I', e = .returned v ∧ Below w.heap.size w w' ∧ (∀ b o, I b o → I' b o) ∧ (∀ b o, I' b o → I b o ∨ (w.heap.size ≤ b ∧ b < w'.heap.size)) ∧ RV B w' I' r v) a'.defers .returning w' := by
  rcases hres with ⟨hdn, hres⟩ | ⟨b, iD, hdn, hpin, hiD, hres⟩
  ·obtain ⟨⟨B', I', hm', hx', -, hs'⟩, -, -, -, hds, -⟩ := hsr
   obtain ⟨v, h1, h2, h3⟩ := uw hT hm' hs' hl hres
   rw [hds, hdn]
   exact ⟨v, h1, v, I', rfl, hm'.below, hm'.base, fun b o h => (hm'.old b o h).imp id fun k => ⟨k, hm'.there b o h⟩, h2.mono (Ext.refl _ _) fun j hj => by rw [h3] at hj; simp at hj⟩
  ·obtain ⟨⟨B', I', hm', hx', -, hs'⟩, -, -, -, hds, -⟩ := hsr
   rw [hds, hdn]
   have hp := hs' (DID + 1)
   rw [hpin] at hp
   obtain ⟨b0, hp1, hp2⟩ := hp
   cases hp2
   obtain ⟨hm2, hE2⟩ := hm'.wQ hiD hp1 (.deferred none)
   obtain ⟨b1, e1, e2, -⟩ := hm'.objs iD _ hiD
   rw [hp1] at e1; cases e1
   obtain ⟨v, h1, h2, h3⟩ := uw (st := ⟨st'.s, upd st'.m iD (some (.raw (.deferred none)))⟩) hT hm2 (fun t => (hs' t).mono hE2 fun _ _ => rfl) hl hres
   refine ⟨by simp, .inl ⟨_, _, rfl, run_takeDeferred e2, ?_⟩⟩
   exact ⟨v, h1, v, I', rfl, hm2.below, hm2.base, fun b o h => (hm2.old b o h).imp id fun k => ⟨k, hm2.there b o h⟩, h2.mono (Ext.refl _ _) fun j hj => by rw [h3] at hj; simp at hj⟩
 rcases he with rfl | rfl
 ·exact post
 ·exact post
theorem Jd (xs : List (List C)) (mn : C) (name : ByteArray) (M : Mem) (i1 i2 : Nat) (h1 : M i1 = none) (h2 : M i2 = none) (h12 : i1 ≠ i2) : gU Tryz.prog 57 [.agg [.sl xs, mn], .c (.str name)] M [] (.fn 92 [i1, i2])
 (upd (upd M i1 (some (.box 25 [.c (.sl xs), .c mn]))) i2 (some (.box 9 [.c (.str name)]))) := by
 have liv : ∀ j, (M j).isSome = true → (upd (upd M i1 (some (.box 25 [.c (.sl xs), .c mn]))) i2 (some (.box 9 [.c (.str name)])) j).isSome = true := fun j hj => by
  unfold upd; split
  ·rfl
  ·split
   ·rfl
   ·exact hj
 refine ⟨enters_of Tryz.func57 (by kernel_rfl) rfl, fun j hj => ?_, liv, fun hw j o ho i hi => ?_, fun w0 I0 B I w vals hm hv => ?_⟩
 ·simp [A.ids] at hj
  rcases hj with rfl | rfl
  ·rw [upd_ne _ _ h12, upd_same]; rfl
  ·rw [upd_same]; rfl
 ·unfold upd at ho
  split at ho
  ·cases ho; simp [O.ids, A.ids] at hi
  ·split at ho
   ·cases ho; simp [O.ids, A.ids] at hi
   ·exact liv i (hw j o ho i hi)
 ·match vals, hv with
  | [v, u], ⟨hp, hn, _⟩ =>
    obtain ⟨us, rfl, hus⟩ := hp
    match us, hus with
    | [cv, mv], ⟨hc, hmn, _⟩ =>
      obtain rfl : u = .string name := (RC.toStr hn).1
      refine (Rp cv mv name w).mono ?_
      rintro e w' ⟨rfl, rfl⟩
      have hb1 : Below w.heap.size w (w.alloc (.cells #[cv, mv] 25)) := (Below.refl _ _).alloc (Nat.le_refl _) _
      have hx1 := hm.box (id := i1) h1 (ty := 25) (cells := [.c (.sl xs), .c mn]) (vs := [cv, mv]) ⟨⟨hc, (RC.one hc).1⟩, ⟨hmn, (RC.one hmn).1⟩, trivial⟩ (fun j hj => by simp [A.ids] at hj)
      have hE1 := hm.ext hb1 (fun _ _ k => k)
      have h2' : upd M i1 (some (O.box 25 [.c (.sl xs), .c mn])) i2 = none := by rw [upd_ne _ _ (Ne.symm h12)]; exact h2
      have hn1 := RC.mono hE1 hn
      have hx2 := hx1.box (id := i2) h2' (ty := 9) (cells := [.c (.str name)]) (vs := [.string name]) ⟨⟨hn1, rfl⟩, trivial⟩ (fun j hj => by simp [A.ids] at hj)
      have hb2 : Below (w.alloc (.cells #[cv, mv] 25)).heap.size (w.alloc (.cells #[cv, mv] 25)) ((w.alloc (.cells #[cv, mv] 25)).alloc (.cells #[.string name] 9)) := (Below.refl _ _).alloc (Nat.le_refl _) _
      have hsz : (w.alloc (.cells #[cv, mv] 25)).heap.size = w.heap.size + 1 := World.size_alloc _ _
      refine ⟨_, _, I, rfl, hx2, hE1.trans (hx1.ext hb2 (fun _ _ k => k)), fun j hj _ => ?_, ?_⟩
      ·rw [upd_ne _ _ (fun e => by subst e; simp [h2] at hj), upd_ne _ _ (fun e => by subst e; simp [h1] at hj)]
      ·show _ = Value.func _ _ _
       rw [hsz]
       simp only [List.map_cons, List.map_nil, upd_same]
       rw [upd_ne _ _ h12, upd_same]
end V
end Go.Proofs.YthhpcjoaogmhbaaGreatDoor
end
section
namespace Go.Proofs.YthhpcjoaogmhbaaGreatDoor
open Go.Shelf Go.RowKit Go.Lib
theorem zQ : ∃ i z, Tryz.prog.info? 35 = some i ∧ i.zero = some z ∧ i.size = 2 ∧ i.bytes = 32 ∧ z.cells.size = 2 := by
 obtain ⟨i, z, h1, h2, h3, -⟩ := V.ah.zero 35 _ rfl
 obtain ⟨-, ⟨i', h4, h5⟩, -⟩ := V.ah.ty 35 _ _ rfl
 obtain ⟨i2, h6, h7⟩ := V.ah.bytes 35 _ rfl
 rw [h1] at h4 h6
 cases h4; cases h6
 exact ⟨i, z, h1, h2, h5, h7, by rw [h3]; rfl⟩
set_option maxHeartbeats 4000000 in
set_option maxRecDepth 100000 in
theorem NS (n : Nat) (h0 : 0 < n) (hn : n ≤ 1000000000000) (w : World) (i : TypeInfo) (z : Value) (hi : Tryz.prog.info? 35 = some i) (hz : i.zero = some z) (hs : i.size = 2) (hb : i.bytes = 32) :
 Calls Tryz.prog 99 #[.slice none 0 0, .int .i64 n] w fun e w' =>
  e = .returned (.slice (some ⟨w.heap.size, 0, none⟩) 0 (grownCap w n 0 35)) ∧
  w' = w.drew.alloc (.cells (#[] ++ Builtin.zeroCells z.cells n ++ Builtin.zeroCells z.cells (grownCap w n 0 35 - n)) 35) := by
 have h1 : ¬ ((n : Int) < 0) := by omega
 have h2 : wrap64 ((n : Int) - 0) = (n : Int) := by unfold wrap64; omega
 have h4 : (n : Int) > 0 := by omega
 have hold : (Builtin.firstCells i.size 0 (.slice none 0 0)).run Tryz.prog w.drew = .ok (([] : List Value).toArray) w.drew := run_firstCells_none w.drew i.size 0 0 0
 have hrz : ∀ ty, (Builtin.append_ #[26, 3] ty #[.slice none 0 0, .int .i64 (n : Int)]).run Tryz.prog w =
  .ok (.slice (some ⟨w.heap.size, 0, none⟩) n (grownCap w n 0 35)) (w.drew.alloc (.cells (#[] ++ Builtin.zeroCells z.cells n ++ Builtin.zeroCells z.cells (grownCap w n 0 35 - n)) 35)) := fun ty => by
  have h := Lib.run_append_grow_zeros w 26 3 ty 35 i z .i64 .i64 Tryz.underlying26 Tryz.underlying3 hi hz none 0 0 [] hold n (by omega) (by omega) (by omega) (by omega)
   (by rw [hb]; omega)
   (by rw [Nat.zero_add]; exact growslice_fits h0 (by rw [hb]; omega))
  rw [Nat.zero_add] at h
  exact h
 have hGn : n ≤ grownCap w n 0 35 := grownCap_ge w _ _ _
 obtain ⟨G, hG⟩ : ∃ G, G = grownCap w n 0 35 := ⟨_, rfl⟩
 rw [← hG] at hrz hGn ⊢
 clear hold hG
 go_enter Tryz.func99, Tryz.ntmps99
 go_wp2_with (at_builtin; refine Lib.wpList_append_run _ rfl _ _ _ _ rfl _ _ rfl rfl _ _ (hrz _) ?_)
 all_goals (go_ret; exact ⟨rfl, rfl⟩)
set_option maxHeartbeats 1000000 in
theorem JR (w : World) :
 Calls Tryz.prog 99 #[.slice none 0 0, .int .i64 0] w fun e w' => e = .returned (.slice none 0 0) ∧ w' = w := by
 go_enter Tryz.func99, Tryz.ntmps99
 go_wp2
 all_goals (go_ret; exact ⟨rfl, rfl⟩)
namespace V
theorem Qf (n : Nat) (hn : n ≤ 1000000000000) (M : Mem) (id : Nat) (hid : M id = none) : gU Tryz.prog 99 [.nil, .c (.int .i64 n)] M [] (.own id) (upd M id (some (.arr 35 2 []))) := by
 have hne : ∀ j, (M j).isSome = true → j ≠ id := fun j hj e => by subst e; rw [hid] at hj; cases hj
 have liv : ∀ j, (M j).isSome = true → (upd M id (some (.arr 35 2 [])) j).isSome = true := fun j hj => by rw [upd_ne _ _ (hne j hj)]; exact hj
 refine ⟨enters_of Tryz.func99 (by kernel_rfl) rfl, fun j hj => ?_, liv, fun hw i o ho j hj => ?_, ?_⟩
 ·obtain rfl : j = id := by simpa [A.ids] using hj
  rw [upd_same]; rfl
 ·unfold upd at ho
  split at ho
  ·cases ho; simp [O.ids] at hj
  ·exact liv j (hw i o ho j hj)
 ·intro w0 I0 B I w vals hm hv
  match vals, hv with
  | [v0, v1], ⟨h0, h1, _⟩ =>
    obtain rfl : v0 = .slice none 0 0 := h0
    have h1 : RC w I v1 (.int .i64 n) := h1
    obtain rfl := h1.toInt.1
    rcases Nat.eq_zero_or_pos n with rfl | hpos
    ·refine (JR w).mono ?_
     rintro e w' ⟨rfl, rfl⟩
     exact ⟨_, _, I, rfl, hm.K4 hid true _ _, Ext.refl _ _, fun j hj _ => upd_ne _ _ (hne j hj), (upd_same ..).symm, none, 0, 0, rfl⟩
    ·obtain ⟨i, z, hi, hz, hs, hb, hzs⟩ := zQ
     refine (NS n hpos hn w i z hi hz hs hb).mono ?_
     rintro e w' ⟨rfl, rfl⟩
     have hE : Ext w w.drew I I := ⟨fun _ _ k => k, fun _ _ _ => rfl⟩
     have hmd := hm.call (Below.refl _ _).drew
     have hge : n ≤ grownCap w n 0 35 := grownCap_ge w _ _ _
     have hle : grownCap w n 0 35 ≤ maxLen := grownCap_le_maxLen w n 0 _ (by unfold maxLen; omega)
     generalize grownCap w n 0 35 = G at hge hle ⊢
     have hrow : (#[] ++ Builtin.zeroCells z.cells n ++ Builtin.zeroCells z.cells (G - n)).size = G * 2 := by
      simp only [Array.size_append, List.size_toArray, List.length_nil, size_zeroCells, hzs]
      omega
     have hnb : ∀ o, ¬ I w.heap.size o := fun o ho => absurd (hm.there _ _ ho) (Nat.lt_irrefl _)
     refine ⟨_, _, I, rfl, hmd.alloc hid (v := .slice (some ⟨w.heap.size, 0, none⟩) 0 G) ⟨[], ⟨rfl, .inr ⟨w.heap.size, G, _, by rw [upd_same]; rfl, Nat.zero_le _, heap_alloc_new w.drew _, Nat.zero_le _, hle, hrow, by simp⟩⟩, trivial, fun x hx => by simp at hx, fun b hb o => ?_⟩ (fun k hk => ?_) (fun j hj => by simp [O.ids] at hj),
      ?_, fun j hj _ => upd_ne _ _ (hne j hj), (upd_same ..).symm, _, 0, G, rfl⟩
     ·rw [upd_same] at hb
      obtain rfl : w.heap.size = b := by simpa [Value.ownBlock] using hb
      exact ⟨fun h => absurd h (hnb o), fun h => by simp at h⟩
     ·have hk : (upd B id (.slice (some ⟨w.heap.size, 0, none⟩) 0 G) id).ownBlock = some k := hk
      rw [upd_same] at hk
      have : w.heap.size = k := by simpa [Value.ownBlock] using hk
      exact this.symm
     ·exact ⟨fun _ _ k => k, fun b o ho => World.cell?_of_block (by
       have := hm.there b o ho
       show ((w.drew.heap.push _)[b]?) = w.heap[b]?
       rw [Array.getElem?_push_lt (by exact this)]
       exact (Array.getElem?_eq_getElem this).symm)⟩
end V
end Go.Proofs.YthhpcjoaogmhbaaGreatDoor
end
section
namespace Go.Proofs.YthhpcjoaogmhbaaGreatDoor
namespace V
open Go.RowKit
theorem uF {m : Mem} : ∀ caps : List (List C), Cvs m (caps.map A.rptr) (caps.map A.rptr)
 | [] => trivial
 | _ :: l => ⟨iA, uF l⟩
theorem iF {α : Type} {p : α → Bool} {l : List α} (h : l.any p = false) : dR p l = -1 := by
 induction l with
 | nil => rfl
 | cons x l ih =>
   simp only [List.any_cons, Bool.or_eq_false_iff] at h
   unfold dR
   rw [if_neg (by simp [h.1]), ih h.2]; simp
theorem yT {α : Type} {p : α → Bool} {l : List α} {k : Nat} {x : α} (h : (l.take k).any p = false) (hx : l[k]? = some x) (hp : p x = true) : dR p l = k := by
 induction l generalizing k with
 | nil => simp at hx
 | cons y l ih =>
   unfold dR
   cases k with
   | zero => simp at hx; subst hx; simp [hp]
   | succ k =>
     simp only [List.take_succ_cons, List.any_cons, Bool.or_eq_false_iff] at h
     rw [if_neg (by simp [h.1]), ih h.2 uQ]
     rw [if_neg (by omega)]; simp
theorem mX {α : Type} (p : α → Bool) (l : List α) : decide ((0 : Int) ≤ dR p l) = l.any p := by
 cases h : l.any p with
 | false => rw [iF h]; rfl
 | true =>
   obtain ⟨x, hx, hp⟩ := List.any_eq_true.1 h
   have hge := rW p l
   by_cases h1 : dR p l = -1
   ·exfalso
    have : ∀ l : List α, x ∈ l → dR p l ≠ -1 := by
     intro l
     induction l with
     | nil => intro h; simp at h
     | cons y l ih =>
       intro h
       unfold dR
       by_cases hy : p y = true
       ·rw [if_pos hy]; decide
       ·rw [if_neg hy]
        rcases List.mem_cons.1 h with rfl | h
        ·exact absurd hp hy
        ·have := ih h
         have h3 := rW p l
         rw [if_neg this]; omega
    exact this l hx h1
   ·simp; omega
theorem Ep (l : List Class) (f : FuncId) (caps : List (List C)) (p : Class → Bool) (hlen : l.length ≤ 1000000000000) (hk : ∀ x ∈ l, ∀ m, COk Tryz.prog f (.agg (ay x) :: caps.map A.rptr) m (.c (.bool (p x)))) (m : Mem) : COk Tryz.prog 56 [.c (.sl (l.map ay)), .fnR f caps] m (.c (.int .i64 (dR p l))) := by
 refine (cB ah Tryz.func56 (by kernel_rfl) rfl rfl (by rfl) (by rfl) (by rfl) (fun R hkeep => ?_) m)
 refine W.go ?_
 refine W.loop (ι := Nat) (fun k => ⟨upd (upd (upd (upd (upd (fun _ => .top) 0 (.c (.sl (l.map ay)))) 1 (.fnR f caps)) 4 (.c (.int .i64 0))) 7 (.c (.int .i64 l.length))) 8 (.c (.int .i64 k)), Mem.nil⟩) (fun k => k ≤ l.length ∧ (l.take k).any p = false) (fun k => l.length - k) 0 ?start ⟨Nat.zero_le _, rfl⟩ ?round
 case start =>
  exact nA (aI hkeep)
 case round =>
  rintro k ⟨hkl, hno⟩
  refine W.go ?_
  refine W.cond rfl ?_ ?_
  ·intro hlt
   replace hlt := dtl hlt
   obtain ⟨x, hx⟩ : ∃ x, l[k]? = some x := ⟨_, List.getElem?_eq_getElem hlt⟩
   refine W.go ?_
   refine W.ak ah 0 (by decide) ?_
   refine aj 5 QX ?_
   refine tH rfl rfl rfl rfl rfl (bZ iA (uF _)) (hk x (List.mem_of_getElem? hx) _) ?_
   refine xe0 ?_
   refine W.cond rfl ?_ ?_
   ·intro hp
    refine W.go ?_
    refine W.rt ?_
    simp only [Tryz.f56, bE, aD, toT, fin, exb, simprocAttr]
    rw [yT hno hx hp]
   ·intro hp
    refine W.go ?_
    refine ⟨k + 1, ⟨hlt, ?_⟩, by omega, ?_⟩
    ·rw [List.take_add_one, hx, List.any_append, hno]; simp [hp]
    exact oF (aI hkeep)
  ·intro hge
   replace hge := dnl hge
   obtain rfl : k = l.length := by omega
   rw [List.take_length] at hno
   refine W.go ?_
   refine W.rt ?_
   simp only [Tryz.f56, bE, aD, toT, fin, exb, simprocAttr]
   rw [iF hno]
theorem qH (l : List Class) (f : FuncId) (caps : List (List C)) (p : Class → Bool) (hlen : l.length ≤ 1000000000000) (hk : ∀ x ∈ l, ∀ m, COk Tryz.prog f (.agg (ay x) :: caps.map A.rptr) m (.c (.bool (p x)))) (m : Mem) : COk Tryz.prog 27 [.c (.sl (l.map ay)), .fnR f caps] m (.c (.bool (l.any p))) := by
 refine (cB ah Tryz.func27 (by kernel_rfl) rfl rfl (by rfl) (by rfl) (by rfl) (fun R hkeep => ?_) m)
 refine W.go ?_
 refine W.ak ah 0 (by decide) ?_
 refine xs0 2 ?_
 refine au rfl rfl rfl rfl rfl (by simp) cw2 (Ep l f caps p hlen hk _) ?_
 refine xe0 ?_
 refine W.go ?_
 refine W.rt ?_
 simp only [Tryz.f27, bE, aD, toT, fin, exb, simprocAttr]
 rw [mX p l]
theorem uE (l : List Method) (f : FuncId) (caps : List (List C)) (p : Method → Bool) (hlen : l.length ≤ 1000000000000) (hk : ∀ x ∈ l, ∀ m, COk Tryz.prog f (.agg (aS x) :: caps.map A.rptr) m (.c (.bool (p x)))) (m : Mem) : COk Tryz.prog 60 [.c (.sl (l.map aS)), .fnR f caps] m (.c (.int .i64 (dR p l))) := by
 refine (cB ah Tryz.func60 (by kernel_rfl) rfl rfl (by rfl) (by rfl) (by rfl) (fun R hkeep => ?_) m)
 refine W.go ?_
 refine W.loop (ι := Nat) (fun k => ⟨upd (upd (upd (upd (upd (fun _ => .top) 0 (.c (.sl (l.map aS)))) 1 (.fnR f caps)) 4 (.c (.int .i64 0))) 7 (.c (.int .i64 l.length))) 8 (.c (.int .i64 k)), Mem.nil⟩) (fun k => k ≤ l.length ∧ (l.take k).any p = false) (fun k => l.length - k) 0 ?start ⟨Nat.zero_le _, rfl⟩ ?round
 case start =>
  exact nA (aI hkeep)
 case round =>
  rintro k ⟨hkl, hno⟩
  refine W.go ?_
  refine W.cond rfl ?_ ?_
  ·intro hlt
   replace hlt := dtl hlt
   obtain ⟨x, hx⟩ : ∃ x, l[k]? = some x := ⟨_, List.getElem?_eq_getElem hlt⟩
   refine W.go ?_
   refine W.ak ah 0 (by decide) ?_
   refine aj 5 R8 ?_
   refine tH rfl rfl rfl rfl rfl (bZ iA (uF _)) (hk x (List.mem_of_getElem? hx) _) ?_
   refine xe0 ?_
   refine W.cond rfl ?_ ?_
   ·intro hp
    refine W.go ?_
    refine W.rt ?_
    simp only [Tryz.f60, bE, aD, toT, fin, exb, simprocAttr]
    rw [yT hno hx hp]
   ·intro hp
    refine W.go ?_
    refine ⟨k + 1, ⟨hlt, ?_⟩, by omega, ?_⟩
    ·rw [List.take_add_one, hx, List.any_append, hno]; simp [hp]
    exact oF (aI hkeep)
  ·intro hge
   replace hge := dnl hge
   obtain rfl : k = l.length := by omega
   rw [List.take_length] at hno
   refine W.go ?_
   refine W.rt ?_
   simp only [Tryz.f60, bE, aD, toT, fin, exb, simprocAttr]
   rw [iF hno]
theorem KJ (d : Class) (x : Class) (m : Mem) : COk Tryz.prog 58 [.agg (ay d), .rptr (ay x)] m (.c (.bool (d.name.toList == x.super.toList))) := by
 refine (cB ah Tryz.func58 (by kernel_rfl) rfl rfl (by rfl) (by rfl) (by rfl) (fun R hkeep => ?_) m)
 repeat (first | refine W.q ?_ | refine W.g ?_ sI)
 refine W.rt ?_;simp only [Tryz.f58, bE, aD, toT, fin, exb, simprocAttr, ay]
theorem BF (o : Method) (x : Method) (m : Mem) : COk Tryz.prog 61 [.agg (aS o), .rptr (aS x)] m (.c (.bool (o.name.toList == x.name.toList))) := by
 refine (cB ah Tryz.func61 (by kernel_rfl) rfl rfl (by rfl) (by rfl) (by rfl) (fun R hkeep => ?_) m)
 repeat (first | refine W.q ?_ | refine W.g ?_ Ev)
 refine W.rt ?_;simp only [Tryz.f61, bE, aD, toT, fin, exb, simprocAttr, aS]
theorem xw (l : List Slot) (hlen : l.length ≤ 1000000000) (m : Mem) : COk Tryz.prog 59 [.c (.sl (l.map bC))] m (.c (.sl ((dV l).map cStr))) := by
 refine (cB ah Tryz.func59 (by kernel_rfl) rfl rfl (by rfl) (by rfl) (by rfl) (fun R hkeep => ?_) m)
 refine W.go ?_
 refine W.Ap 2 2 9 1 rfl rfl ?_
 refine W.go ?_
 refine W.loop (ι := Nat) (fun k => ⟨upd (upd (upd (upd (fun _ => .top) 2 (.own 2)) 5 (.c (.sl (l.map bC)))) 6 (.c (.int .i64 l.length))) 7 (.c (.int .i64 k)), upd Mem.nil 2 (some (.arr 9 1 ((dV (l.take k)).map cStr)))⟩) (fun k => k ≤ l.length) (fun k => l.length - k) 0 ?start (Nat.zero_le _) ?round
 case start =>
  refine nK ?sle ?mle (aI hkeep)
  case mle => repeat (first | exact aZ _ | exact aC _ | refine aY ?_ (by first | rfl | (simp only [av, aL, Nat.reduceEqDiff, reduceIte, List.take_zero, dV, List.map_nil]; done)))
  case sle => repeat (first | exact aQ _ | exact aK _ | refine aP ?_ (by first | rfl | (simp only [av, aN, aO, Nat.reduceEqDiff, reduceIte, List.take_zero, dV, List.map_nil]; done)))
 case round =>
  intro k hk
  refine W.go ?_
  refine W.cond rfl ?_ ?_
  ·intro hlt
   replace hlt := dtl hlt
   obtain ⟨x, hx⟩ : ∃ x, l[k]? = some x := ⟨_, List.getElem?_eq_getElem hlt⟩
   repeat (first | refine W.q ?_ | refine W.g ?_ Sn)
   refine W.ak ah 0 (by decide) ?_
   refine xs0 4 ?_
   refine fu ah 2 rfl rfl rfl rfl rfl rfl rfl rfl Fz rfl rfl rfl rfl (ku hkeep) (by simp) (by simp [dV]; omega) (by decide) ?_
   refine xe0 ?_
   refine W.go ?_
   refine ⟨k + 1, hlt, by omega, ?_⟩
   refine nK ?sle ?mle (aI hkeep)
   case mle => repeat (first | exact aZ _ | exact aC _ | refine aY ?_ (by first | rfl | (simp only [av, aL, Nat.reduceEqDiff, reduceIte, aR (show k + 1 < 9223372036854775808 by omega), xU hx, List.map_append, List.map_cons, List.map_nil, cStr]; done)))
   case sle => repeat (first | exact aQ _ | exact aK _ | refine aP ?_ (by first | rfl | (simp only [av, aN, aO, Nat.reduceEqDiff, reduceIte, aR (show k + 1 < 9223372036854775808 by omega), xU hx, List.map_append, List.map_cons, List.map_nil, cStr]; done)))
  ·intro hge
   replace hge := dnl hge
   obtain rfl : k = l.length := by omega
   refine W.go ?_
   refine W.rt ?_
   simp only [Tryz.f59, bE, aD, toT, fin, exb, simprocAttr]
   rw [List.take_length]
theorem Oo {w : World} {I : Nat → Nat → Prop} {v : Value} {l : List ByteArray} (hI : ∀ b o, I b o → b < w.heap.size) (h : RC w I v (.sl (l.map cStr))) : FU w v l ∧ ∀ s ∈ l, s.size ≤ maxLen := by
 cases h with
 | @sl a n cap e _ f hn hc hm hl ha hr =>
   have key : ∀ i x, l[i]? = some x → ∃ b off, a = some ⟨b, off, none⟩ ∧ b < w.heap.size ∧ w.cell? ⟨b, off + i, none⟩ = some (.string x) ∧ x.size ≤ kF := fun i x hx => by
    have hx' : (l.map cStr)[i]? = some (cStr x) := by simp [hx]
    have he : e = 1 := (hl _ (List.mem_of_getElem? hx')).symm
    subst he
    obtain ⟨b, off, ea, hcell⟩ := ha i _ hx'
    have h0 := RC.toStr (hr i 0 _ _ hx' rfl)
    have h1 := hcell 0 (by decide)
    rw [h0.1] at h1
    simp only [Nat.mul_one, Nat.add_zero] at h1
    exact ⟨b, off, ea, hI _ _ h1.1, h1.2, h0.2⟩
   refine ⟨⟨a, n, cap, rfl, by simpa using hn, by unfold maxLen at hm; omega, fun i x hx => let ⟨b, off, h1, h2, h3, _⟩ := key i x hx; ⟨b, off, h1, h2, h3⟩⟩, fun s hs => ?_⟩
   obtain ⟨i, hi⟩ := List.getElem?_of_mem hs
   obtain ⟨b, off, h1, h2, h3, h4⟩ := key i s hi
   unfold kF at h4; unfold maxLen; omega
theorem yU (l : List ByteArray) (hl : l.length ≤ 1000000000000) (m : Mem) : COk Tryz.prog 26 [.c (.sl (l.map cStr))] m (.c (.bool (jZ l))) := by
 refine ⟨enters_of Tryz.func26 (by kernel_rfl) rfl, rfl, fun m' _ => ?_⟩
 intro w0 I0 B I w vals hm hv
 match vals, hv with
 | [v], ⟨h1, _⟩ =>
   obtain ⟨h2, h3⟩ := Oo hm.there h1
   refine (LK v l w h2 hl h3).mono ?_
   rintro e w' ⟨rfl, hb⟩
   exact ⟨_, I, rfl, hb, fun _ _ k => k, fun _ _ k => .inl k, .bool⟩
theorem ET (x y : Method) (m : Mem) : COk Tryz.prog 62 [.agg (aS x), .agg (aS y)] m (.c (.bool (gJ x y))) := by
 refine ⟨enters_of Tryz.func62 (by kernel_rfl) rfl, rfl, fun m' _ => ?_⟩
 intro w0 I0 B I w vals hm hv
 match vals, hv with
 | [v, u], ⟨h1, h2, _⟩ =>
   obtain ⟨vs, rfl, h1⟩ := h1
   obtain ⟨us, rfl, h2⟩ := h2
   refine (KP x y vs us (max (yZ x) (yZ y)) w (tK hm.there (Nat.le_max_left _ _) h1) (tK hm.there (Nat.le_max_right _ _) h2)).mono ?_
   rintro e w' ⟨rfl, hb⟩
   exact ⟨_, I, rfl, hb, fun _ _ k => k, fun _ _ k => .inl k, .bool⟩
theorem pz {cs : List Class} (hS : gN cs) : ∀ l : List (Nat × Nat), (dG cs l).length ≤ l.length * 1048576
 | [] => by simp [dG]
 | x :: l => by
   have ih := pz hS l
   unfold dG at *
   rw [List.flatMap_cons, List.length_append, List.length_cons]
   have : (lG cs x).length ≤ 1048576 := by
    unfold lG
    cases h : cs[x.2]? with
    | none => simp
    | some k => have := (hS k (List.mem_of_getElem? h)).1; simpa [dV] using this
   omega
theorem DF {n : Nat} : ∀ t, n ≤ t → (fun _ : Nat => A.top) t = A.top := fun _ _ => rfl
theorem DN {n k : Nat} {s : Nat → A} {x : A} (h : ∀ t, n ≤ t → s t = A.top) (hk : k < n) : ∀ t, n ≤ t → upd s k x t = A.top := fun t ht => by
 rw [upd_ne _ _ (by omega)]; exact h t ht
theorem uD {m m' : Mem} (h : MLe m m') : ∀ j o, m' j = some o → m j = some o := fun j o ho => by
 rcases h j with e | e
 ·rw [e] at ho; cases ho
 ·rw [← e]; exact ho
def eX (cs : List Class) (mn : C) (c : Class) (b : Bool) (l : List ByteArray) : Mem :=
 upd (upd (upd (upd (upd Mem.nil 2 (some (.box 25 [.c (.sl (cs.map ay)), .c mn]))) 3 (some (.box 42 ((ay c).map A.c)))) 4 (some (.box 4 [.c (.bool b)]))) 5 (some (.box 55 [.own 50]))) 50 (some (.arr 9 1 (l.map cStr)))
def kg : Nat → A := upd (upd (upd (upd (upd (fun _ => .top) 2 (.ptr 2 0)) 3 (.ptr 3 0)) 4 (.ptr 4 0)) 5 (.ptr 5 0)) 6 .nil
theorem JG : ∀ t, ∀ j ∈ (kg t).ids, j ≤ 5 := by
 intro t j hj
 unfold kg upd at hj
 repeat' (split at hj)
 all_goals (simp [A.ids] at hj)
 all_goals omega
theorem IL {y : Method} {l : List Method} : (dR (iJ y.name) l < 0 → jS y l = true) ∧ ∀ o, l[(dR (iJ y.name) l).toNat]? = some o → 0 ≤ dR (iJ y.name) l → jS y l = gJ y o := by
 obtain ⟨h1, h2⟩ := AL (iJ y.name) l
 refine ⟨fun h => ?_, fun o ho h => ?_⟩
 ·unfold jS; rw [h1 h]
 ·unfold jS; rw [← h2 h, ho]
set_option maxHeartbeats 4000000 in
theorem NJ (cs : List Class) (mn : C) (c : Class) (hS : gN cs) (hlen : cs.length ≤ 16) (hc : c ∈ cs) (m : Mem) : COk Tryz.prog 29 [.agg [.sl (cs.map ay), mn], .agg (ay c)] m (.c (.bool (dB cs c))) := by
 refine (vN ah Tryz.func29 (by kernel_rfl) rfl rfl (by rfl) (by rfl) (by rfl) (fun R hkeep => ?_) m)
 repeat (first | refine W.q ?_ | refine W.g ?_ sI)
 refine W.oO true 5 0 50 9 1 rfl rfl rfl ?_
 repeat (first | refine W.q ?_ | refine W.g ?_ sI)
 refine W.ak ah 0 (by decide) ?_
 refine aj 3 sI ?_
 refine jW rfl rfl rfl rfl rfl rfl (by simp) cw2 (Jd (cs.map ay) mn c.name _ 1000 1001 rfl rfl (by decide)) ?_
 refine xe0 ?_
 refine W.go ?_
 refine W.yX cs c.name mn 1000 1001 1002 1003 kg (fun k => eX cs mn c false (dG cs ((upX cs (cs.length + 1) 0 c.name).take k))) (fun k => ((upX cs (cs.length + 1) 0 c.name).take k).all (nu cs c) = true) (by omega) rfl rfl rfl (by decide) rfl rfl (by decide) rfl rfl ?sle ?sn ?m0 ?good ?round ?done
 case sle =>
  unfold kg
  (repeat (first | exact aQ _ | exact aK _ | refine aP ?_ ML))
 case sn =>
  unfold kg
  (repeat (first | exact DF | refine DN ?_ (by decide)))
 case m0 =>
  refine uD ?_
  unfold eX
  (repeat (first | exact aZ _ | exact aC _ | refine aY ?_ (by first | rfl | (simp only [av, aL, Nat.reduceEqDiff, reduceIte, List.take_zero, dG, List.flatMap_nil, List.map_nil, ay, List.map_cons]; done))))
 case good =>
  intro k hk
  refine ⟨?_, rfl, rfl, rfl, rfl, ?_, aI hkeep⟩
  ·unfold eX
   show MWf _ _
   (repeat (first | exact bY _ | refine bU ?_ qw))
  ·show SWf _ _
   unfold eX kg
   (repeat (first | exact aT _ | refine aU ?_ oV))
 case round =>
  intro R' l hk' k j kc x1 x2 xL hInv hitem hkc
  repeat (first | refine WI.seq ?_ | refine WI.block ?_ | refine WI.skip ?_ | refine WI.exit ?_ | refine WI.region ah 0 (by decide) (by kernel_rfl) (aG kP) ?_)
  refine ⟨rfl, fun xL' => ?_⟩
  have hkl : k < 17 + 1 := by
   have := (List.getElem?_eq_some_iff.1 hitem).1
   have := nP cs (cs.length + 1) 0 c.name
   omega
  have hkU : k < (upX cs (cs.length + 1) 0 c.name).length := (List.getElem?_eq_some_iff.1 hitem).1
  -- a round that says no
  have bad : nu cs c (k, j) = false → dB cs c = false := fun h => by
   unfold dB
   have : (upX cs (cs.length + 1) 0 c.name).all (nu cs c) = false := by
    rw [List.all_eq_false]
    exact ⟨(k, j), List.mem_of_getElem? hitem, by rw [h]; decide⟩
   rw [this]; simp
  have hG : ∀ l, GoodM R.keep kg 1000 1001 1002 1003 (eX cs mn c false l) := fun l => by
   refine ⟨?_, rfl, rfl, rfl, rfl, ?_, aI hkeep⟩
   ·unfold eX
    show MWf _ _
    (repeat (first | exact bY _ | refine bU ?_ qw))
   ·show SWf _ _
    unfold eX kg
    (repeat (first | exact aT _ | refine aU ?_ oV))
  by_cases hkn : k = cs.length
  ·subst hkn
   repeat (first | refine WI.seq ?_ | refine WI.block ?_ | refine WI.skip ?_ | refine WI.exit ?_ | refine WI.region ah 0 (by decide) (by kernel_rfl) (aG kP) ?_)
   refine WI.cond rfl (fun _ => ?_) (fun h => by cases h)
   repeat (first | refine WI.seq ?_ | refine WI.block ?_ | refine WI.skip ?_ | refine WI.exit ?_ | refine WI.region ah 0 (by decide) (by kernel_rfl) (aG kP) ?_)
   refine WI.ret ⟨fun j => j, eX cs mn c false (dG cs ((upX cs (cs.length + 1) 0 c.name).take cs.length)), Le.toT ?_, hG _, fun b => ⟨.inr rfl, .inr ⟨b, 1002, rfl, rfl, rfl, ?_⟩⟩⟩
   ·simp only [bB, eX]
    refine dh ?sle ?mle ?swf ?mwf (fun j hj => fG (hG _) hj) (by rfl)
    case swf => repeat (first | exact aT _ | refine aU ?_ (by simp [A.ids, av, ay]))
    case mwf => repeat (first | exact bY _ | refine bU ?_ (by simp [A.ids, O.ids, av, ay]))
    case mle => repeat (first | exact aZ _ | exact aC _ | refine aY ?_ (by first | rfl | (simp only [av, aL, O.kill, A.kill, Nat.reduceEqDiff, reduceIte, Option.map_some, Option.map_none, List.map_cons, List.map_nil, ay]; done)))
    case sle => repeat (first | exact aQ _ | exact aK _ | refine aP ?_ (by first | rfl | (simp only [av, aM, A.kill, aN, aO, Nat.reduceEqDiff, reduceIte, ay]; done)))
   ·simp only [Tryz.f29, bE, aD, toT, fin, eT, fH, DID, exb, simprocAttr, eX, kg]
    rw [bad (by rw [mE hkc]; simp [xu])]
  have hkn' : decide ((k : Int) = (cs.length : Int)) = false := by simp; omega
  have hF : List.map cStr (dG cs ((upX cs (cs.length + 1) 0 c.name).take k)) ++ List.map cStr (dV kc.fields) = List.map cStr (dG cs ((upX cs (cs.length + 1) 0 c.name).take (k + 1))) := by
   rw [List.take_add_one, hitem]
   simp only [Option.toList_some]
   rw [Br hkc, List.map_append]
  have hn50 : ¬ R'.keep 50 := fun h => by
   rw [hk', hkeep] at h
   rcases h with h | ⟨t, h⟩ | h
   ·exact h
   ·have := JG t 50 h; omega
   ·omega
  -- a method that does not fit
  have bad2 : ∀ y ∈ c.methods, jS y kc.methods = false → dB cs c = false := fun y hy h => bad (by
   rw [mE hkc]
   unfold xu
   have : (c.methods.all fun y => jS y kc.methods) = false := by
    rw [List.all_eq_false]
    exact ⟨y, hy, by rw [h]; decide⟩
   rw [this]; simp)
  have hkeepL : ∀ j, R'.keep j → (upd (bB (eX cs mn c false (dG cs ((upX cs (cs.length + 1) 0 c.name).take (k + 1)))) 1000 1001 1002 1003 x1 x2 xL') 8 (some (.box 42 ((ay kc).map A.c))) j).isSome = true := fun j hj => by
   rw [hk'] at hj
   unfold upd
   split
   ·rfl
   ·exact fG (hG _) hj
  have goodR : (kc.super.toList.isEmpty || cs.any (jg kc.super)) = true → (c.methods.all fun y => jS y kc.methods) = true → ((upX cs (cs.length + 1) 0 c.name).take (k + 1)).all (nu cs c) = true := fun h1 h2 => by
   rw [List.take_add_one, hitem, List.all_append, hInv]
   simp only [Option.toList_some, List.all_cons, List.all_nil, Bool.and_true, Bool.true_and]
   rw [mE hkc]
   unfold xu
   rw [h1, h2]
   simp; exact hkn
  by_cases hse : kc.super.toList = []
  ·have hse' : (kc.super.toList == []) = true := by simp [hse]
   have good := goodR (by rw [hse]; rfl)
   repeat (first | refine WI.seq ?_ | refine WI.block ?_ | refine WI.skip ?_ | refine WI.exit ?_ | refine WI.region ah 0 (by decide) (by kernel_rfl) (aG Rm) ?_)
   refine WI.cond rfl (fun h => by cases h) (fun _ => ?_)
   repeat (first | refine WI.seq ?_ | refine WI.block ?_ | refine WI.skip ?_ | refine WI.exit ?_ | refine WI.region ah 0 (by decide) (by kernel_rfl) (aG kP) ?_)
   refine WI.bM ah 0 aF (by kernel_rfl) (by decide) (by kernel_rfl) ?_
   refine aj 3 kP ?_
   refine au rfl rfl rfl rfl rfl (by simp) cw1 (xw kc.fields Sd _) ?_
   refine aj 0 Qc ?_
   refine fu ah 50 rfl rfl rfl rfl rfl rfl rfl rfl Tj rfl rfl rfl rfl hn50 (by simp [cStr]) zq2 (by decide) ?_
   refine aA Qc ?_
   repeat (first | refine WI.seq ?_ | refine WI.block ?_ | refine WI.skip ?_ | refine WI.exit ?_ | refine WI.region ah 0 (by decide) (by kernel_rfl) (aG kP) ?_)
   refine WI.loop (ι := Nat) (fun q => ⟨upd (upd (upd (upd (upd (fun _ => .top) 4 (.ptr 4 0)) 8 (.ptr 8 0)) 43 (.c (.sl (c.methods.map aS)))) 44 (.c (.int .i64 c.methods.length))) 45 (.c (.int .i64 q)),
    upd (bB (eX cs mn c false (dG cs ((upX cs (cs.length + 1) 0 c.name).take (k + 1)))) 1000 1001 1002 1003 x1 x2 xL') 8 (some (.box 42 ((ay kc).map A.c)))⟩) (fun q => q ≤ c.methods.length ∧ (c.methods.take q).all (fun y => jS y kc.methods) = true) (fun q => c.methods.length - q) 0 ?start ⟨Nat.zero_le _, rfl⟩ ?round
   case start =>
    simp only [bB, eX]
    refine dh ?sle ?mle ?swf ?mwf hkeepL (by rfl)
    case swf => repeat (first | exact aT _ | refine aU ?_ QC)
    case mwf => repeat (first | exact bY _ | refine bU ?_ Si)
    case mle => repeat (first | exact aZ _ | exact aC _ | refine aY ?_ zq9)
    case sle => repeat (first | exact aQ _ | exact aK _ | refine aP ?_ RL)
   case round =>
    rintro q ⟨hq, hfit⟩
    repeat (first | refine WI.seq ?_ | refine WI.block ?_ | refine WI.skip ?_ | refine WI.exit ?_ | refine WI.region ah 0 (by decide) (by kernel_rfl) (aG kP) ?_)
    refine WI.cond rfl ?_ ?_
    ·intro hlt
     replace hlt := dtl hlt
     obtain ⟨y, hy⟩ : ∃ y, c.methods[q]? = some y := ⟨_, List.getElem?_eq_getElem hlt⟩
     repeat (first | refine WI.seq ?_ | refine WI.block ?_ | refine WI.skip ?_ | refine WI.exit ?_ | refine WI.region ah 0 (by decide) (by kernel_rfl) (aG Sq) ?_)
     refine WI.ak ah 0 (by decide) (by kernel_rfl) ?_
     refine aj 3 kP ?_
     refine bg rfl rfl rfl rfl rfl (by simp) (aB aV (aB (wR (oD rfl rfl)) bf)) (by rfl) (by rfl) (uE kc.methods 61 [aS y] (iJ y.name) RP (fun o _ m => BF o y m)) ?_
     refine aA kP ?_
     obtain ⟨hf1, hf2⟩ := IL (y := y) (l := kc.methods)
     by_cases hneg : dR (iJ y.name) kc.methods < 0
     ·have hd : decide ((0 : Int) ≤ dR (iJ y.name) kc.methods) = false := by simp; omega
      refine WI.seq ?_
      refine WI.bM ah 0 aF (by kernel_rfl) (by decide) (by kernel_rfl) ?_
      refine aA SE ?_
      refine WI.cond rfl (fun h => by cases h) (fun _ => ?_)
      repeat (first | refine WI.seq ?_ | refine WI.block ?_ | refine WI.skip ?_ | refine WI.exit ?_ | refine WI.region ah 0 (by decide) (by kernel_rfl) (aG kP) ?_)
      refine ⟨q + 1, ⟨hlt, ?_⟩, by omega, ?_⟩
      ·rw [List.take_add_one, hy, List.all_append, hfit]; simp [hf1 hneg]
      simp only [bB, eX]
      refine dh ?sle ?mle ?swf ?mwf hkeepL (by rfl)
      case swf => repeat (first | exact aT _ | refine aU ?_ PY)
      case mwf => repeat (first | exact bY _ | refine bU ?_ PG)
      case mle => repeat (first | exact aZ _ | exact aC _ | refine aY ?_ zq1)
      case sle => repeat (first | exact aQ _ | exact aK _ | refine aP ?_ zq4)
     ·have hge : (0 : Int) ≤ dR (iJ y.name) kc.methods := by omega
      have hd : decide ((0 : Int) ≤ dR (iJ y.name) kc.methods) = true := by simp; omega
      obtain ⟨o, ho⟩ : ∃ o, kc.methods[(dR (iJ y.name) kc.methods).toNat]? = some o := by
       obtain ⟨o, ho, -⟩ := oz (iJ y.name) kc.methods hge
       exact ⟨o, ho⟩
      refine WI.seq ?_
      refine WI.bM ah 0 aF (by kernel_rfl) (by decide) (by kernel_rfl) ?_
      refine aj 9 Te ?_
      refine au rfl rfl rfl rfl rfl (by simp) cw2 (ET y o _) ?_
      refine aA kP ?_
      refine WI.cond rfl ?_ ?_
      ·intro hal
       repeat (first | refine WI.seq ?_ | refine WI.block ?_ | refine WI.skip ?_ | refine WI.exit ?_ | refine WI.region ah 0 (by decide) (by kernel_rfl) (aG kP) ?_)
       refine WI.ret ⟨fun j => j, eX cs mn c false (dG cs ((upX cs (cs.length + 1) 0 c.name).take (k + 1))), Le.toT ?_, hG _, fun b => ⟨.inr rfl, .inr ⟨b, 1002, rfl, rfl, rfl, ?_⟩⟩⟩
       ·simp only [bB, eX]
        refine dh ?sle ?mle ?swf ?mwf (fun j hj => fG (hG _) hj) (by rfl)
        case swf => repeat (first | exact aT _ | refine aU ?_ EL)
        case mwf => repeat (first | exact bY _ | refine bU ?_ NU)
        case mle => repeat (first | exact aZ _ | exact aC _ | refine aY ?_ Nq)
        case sle => repeat (first | exact aQ _ | exact aK _ | refine aP ?_ ND)
       ·simp only [Tryz.f29, bE, aD, toT, fin, eT, fH, DID, exb, simprocAttr, eX, kg]
        rw [bad2 y (List.mem_of_getElem? hy) Qw]
      ·intro hal
       repeat (first | refine WI.seq ?_ | refine WI.block ?_ | refine WI.skip ?_ | refine WI.exit ?_ | refine WI.region ah 0 (by decide) (by kernel_rfl) (aG kP) ?_)
       refine ⟨q + 1, ⟨hlt, ?_⟩, by omega, ?_⟩
       ·rw [List.take_add_one, hy, List.all_append, hfit]; simp [hf2 o ho hge]; simpa using hal
       simp only [bB, eX]
       refine dh ?sle ?mle ?swf ?mwf hkeepL (by rfl)
       case swf => repeat (first | exact aT _ | refine aU ?_ PY)
       case mwf => repeat (first | exact bY _ | refine bU ?_ PG)
       case mle => repeat (first | exact aZ _ | exact aC _ | refine aY ?_ zq1)
       case sle => repeat (first | exact aQ _ | exact aK _ | refine aP ?_ zq4)
    ·intro hge
     replace hge := dnl hge
     obtain rfl : q = c.methods.length := by omega
     repeat (first | refine WI.seq ?_ | refine WI.block ?_ | refine WI.skip ?_ | refine WI.exit ?_ | refine WI.region ah 0 (by decide) (by kernel_rfl) (aG kP) ?_)
     rw [List.take_length] at hfit
     refine ⟨good hfit, fun j => j, Le.toT ?_⟩
     simp only [bB, eX]
     refine dh ?sle ?mle ?swf ?mwf (fun j hj => fG (hG _) hj) (by rfl)
     case swf => repeat (first | exact aT _ | refine aU ?_ EL)
     case mwf => repeat (first | exact bY _ | refine bU ?_ NU)
     case mle => repeat (first | exact aZ _ | exact aC _ | refine aY ?_ Nq)
     case sle => repeat (first | exact aQ _ | exact aK _ | refine aP ?_ ND)
  ·have hse' : (kc.super.toList == []) = false := by simp [hse]
   repeat (first | refine WI.seq ?_ | refine WI.block ?_ | refine WI.skip ?_ | refine WI.exit ?_ | refine WI.region ah 0 (by decide) (by kernel_rfl) (aG Rm) ?_)
   refine WI.ak ah 0 (by decide) (by kernel_rfl) ?_
   refine aj 13 Rm ?_
   refine bg rfl rfl rfl rfl rfl (by simp) (aB aV (aB (wR (oD rfl rfl)) bf)) (by rfl) (by rfl) (qH cs 58 [ay kc] (jg kc.super) (by omega) (fun x _ m => KJ x kc m)) ?_
   refine aA kP ?_
   refine WI.cond rfl ?_ ?_
   ·intro hal
    repeat (first | refine WI.seq ?_ | refine WI.block ?_ | refine WI.skip ?_ | refine WI.exit ?_ | refine WI.region ah 0 (by decide) (by kernel_rfl) (aG kP) ?_)
    refine WI.ret ⟨fun j => j, eX cs mn c false (dG cs ((upX cs (cs.length + 1) 0 c.name).take k)), Le.toT ?_, hG _, fun b => ⟨.inr rfl, .inr ⟨b, 1002, rfl, rfl, rfl, ?_⟩⟩⟩
    ·simp only [bB, eX]
     refine dh ?sle ?mle ?swf ?mwf (fun j hj => fG (hG _) hj) (by rfl)
     case swf => repeat (first | exact aT _ | refine aU ?_ EL)
     case mwf => repeat (first | exact bY _ | refine bU ?_ NU)
     case mle => repeat (first | exact aZ _ | exact aC _ | refine aY ?_ Nq)
     case sle => repeat (first | exact aQ _ | exact aK _ | refine aP ?_ ND)
    ·simp only [Tryz.f29, bE, aD, toT, fin, eT, fH, DID, exb, simprocAttr, eX, kg]
     rw [bad (by
      rw [mE hkc]
      unfold xu
      have h1 : kc.super.toList.isEmpty = false := by cases h : kc.super.toList with | nil => exact absurd h hse | cons _ _ => rfl
      have h2 : cs.any (jg kc.super) = false := by simpa using hal
      rw [h1, h2]; simp)]
   ·intro hal
    have good := goodR (by
     have h2 : cs.any (jg kc.super) = true := by simpa using hal
     rw [h2]; simp)
    repeat (first | refine WI.seq ?_ | refine WI.block ?_ | refine WI.skip ?_ | refine WI.exit ?_ | refine WI.region ah 0 (by decide) (by kernel_rfl) (aG kP) ?_)
    refine WI.bM ah 0 aF (by kernel_rfl) (by decide) (by kernel_rfl) ?_
    refine aj 3 kP ?_
    refine au rfl rfl rfl rfl rfl (by simp) cw1 (xw kc.fields Sd _) ?_
    refine aj 0 Qc ?_
    refine fu ah 50 rfl rfl rfl rfl rfl rfl rfl rfl Tj rfl rfl rfl rfl hn50 (by simp [cStr]) zq2 (by decide) ?_
    refine aA Qc ?_
    repeat (first | refine WI.seq ?_ | refine WI.block ?_ | refine WI.skip ?_ | refine WI.exit ?_ | refine WI.region ah 0 (by decide) (by kernel_rfl) (aG kP) ?_)
    refine WI.loop (ι := Nat) (fun q => ⟨upd (upd (upd (upd (upd (fun _ => .top) 4 (.ptr 4 0)) 8 (.ptr 8 0)) 43 (.c (.sl (c.methods.map aS)))) 44 (.c (.int .i64 c.methods.length))) 45 (.c (.int .i64 q)),
     upd (bB (eX cs mn c false (dG cs ((upX cs (cs.length + 1) 0 c.name).take (k + 1)))) 1000 1001 1002 1003 x1 x2 xL') 8 (some (.box 42 ((ay kc).map A.c)))⟩) (fun q => q ≤ c.methods.length ∧ (c.methods.take q).all (fun y => jS y kc.methods) = true) (fun q => c.methods.length - q) 0 ?start ⟨Nat.zero_le _, rfl⟩ ?round
    case start =>
     simp only [bB, eX]
     refine dh ?sle ?mle ?swf ?mwf hkeepL (by rfl)
     case swf => repeat (first | exact aT _ | refine aU ?_ QC)
     case mwf => repeat (first | exact bY _ | refine bU ?_ Si)
     case mle => repeat (first | exact aZ _ | exact aC _ | refine aY ?_ zq9)
     case sle => repeat (first | exact aQ _ | exact aK _ | refine aP ?_ RL)
    case round =>
     rintro q ⟨hq, hfit⟩
     repeat (first | refine WI.seq ?_ | refine WI.block ?_ | refine WI.skip ?_ | refine WI.exit ?_ | refine WI.region ah 0 (by decide) (by kernel_rfl) (aG kP) ?_)
     refine WI.cond rfl ?_ ?_
     ·intro hlt
      replace hlt := dtl hlt
      obtain ⟨y, hy⟩ : ∃ y, c.methods[q]? = some y := ⟨_, List.getElem?_eq_getElem hlt⟩
      repeat (first | refine WI.seq ?_ | refine WI.block ?_ | refine WI.skip ?_ | refine WI.exit ?_ | refine WI.region ah 0 (by decide) (by kernel_rfl) (aG Sq) ?_)
      refine WI.ak ah 0 (by decide) (by kernel_rfl) ?_
      refine aj 3 kP ?_
      refine bg rfl rfl rfl rfl rfl (by simp) (aB aV (aB (wR (oD rfl rfl)) bf)) (by rfl) (by rfl) (uE kc.methods 61 [aS y] (iJ y.name) RP (fun o _ m => BF o y m)) ?_
      refine aA kP ?_
      obtain ⟨hf1, hf2⟩ := IL (y := y) (l := kc.methods)
      by_cases hneg : dR (iJ y.name) kc.methods < 0
      ·have hd : decide ((0 : Int) ≤ dR (iJ y.name) kc.methods) = false := by simp; omega
       refine WI.seq ?_
       refine WI.bM ah 0 aF (by kernel_rfl) (by decide) (by kernel_rfl) ?_
       refine aA SE ?_
       refine WI.cond rfl (fun h => by cases h) (fun _ => ?_)
       repeat (first | refine WI.seq ?_ | refine WI.block ?_ | refine WI.skip ?_ | refine WI.exit ?_ | refine WI.region ah 0 (by decide) (by kernel_rfl) (aG kP) ?_)
       refine ⟨q + 1, ⟨hlt, ?_⟩, by omega, ?_⟩
       ·rw [List.take_add_one, hy, List.all_append, hfit]; simp [hf1 hneg]
       simp only [bB, eX]
       refine dh ?sle ?mle ?swf ?mwf hkeepL (by rfl)
       case swf => repeat (first | exact aT _ | refine aU ?_ PY)
       case mwf => repeat (first | exact bY _ | refine bU ?_ PG)
       case mle => repeat (first | exact aZ _ | exact aC _ | refine aY ?_ zq1)
       case sle => repeat (first | exact aQ _ | exact aK _ | refine aP ?_ zq4)
      ·have hge : (0 : Int) ≤ dR (iJ y.name) kc.methods := by omega
       have hd : decide ((0 : Int) ≤ dR (iJ y.name) kc.methods) = true := by simp; omega
       obtain ⟨o, ho⟩ : ∃ o, kc.methods[(dR (iJ y.name) kc.methods).toNat]? = some o := by
        obtain ⟨o, ho, -⟩ := oz (iJ y.name) kc.methods hge
        exact ⟨o, ho⟩
       refine WI.seq ?_
       refine WI.bM ah 0 aF (by kernel_rfl) (by decide) (by kernel_rfl) ?_
       refine aj 9 Te ?_
       refine au rfl rfl rfl rfl rfl (by simp) cw2 (ET y o _) ?_
       refine aA kP ?_
       refine WI.cond rfl ?_ ?_
       ·intro hal
        repeat (first | refine WI.seq ?_ | refine WI.block ?_ | refine WI.skip ?_ | refine WI.exit ?_ | refine WI.region ah 0 (by decide) (by kernel_rfl) (aG kP) ?_)
        refine WI.ret ⟨fun j => j, eX cs mn c false (dG cs ((upX cs (cs.length + 1) 0 c.name).take (k + 1))), Le.toT ?_, hG _, fun b => ⟨.inr rfl, .inr ⟨b, 1002, rfl, rfl, rfl, ?_⟩⟩⟩
        ·simp only [bB, eX]
         refine dh ?sle ?mle ?swf ?mwf (fun j hj => fG (hG _) hj) (by rfl)
         case swf => repeat (first | exact aT _ | refine aU ?_ EL)
         case mwf => repeat (first | exact bY _ | refine bU ?_ NU)
         case mle => repeat (first | exact aZ _ | exact aC _ | refine aY ?_ Nq)
         case sle => repeat (first | exact aQ _ | exact aK _ | refine aP ?_ ND)
        ·simp only [Tryz.f29, bE, aD, toT, fin, eT, fH, DID, exb, simprocAttr, eX, kg]
         rw [bad2 y (List.mem_of_getElem? hy) Qw]
       ·intro hal
        repeat (first | refine WI.seq ?_ | refine WI.block ?_ | refine WI.skip ?_ | refine WI.exit ?_ | refine WI.region ah 0 (by decide) (by kernel_rfl) (aG kP) ?_)
        refine ⟨q + 1, ⟨hlt, ?_⟩, by omega, ?_⟩
        ·rw [List.take_add_one, hy, List.all_append, hfit]; simp [hf2 o ho hge]; simpa using hal
        simp only [bB, eX]
        refine dh ?sle ?mle ?swf ?mwf hkeepL (by rfl)
        case swf => repeat (first | exact aT _ | refine aU ?_ PY)
        case mwf => repeat (first | exact bY _ | refine bU ?_ PG)
        case mle => repeat (first | exact aZ _ | exact aC _ | refine aY ?_ zq1)
        case sle => repeat (first | exact aQ _ | exact aK _ | refine aP ?_ zq4)
     ·intro hge
      replace hge := dnl hge
      obtain rfl : q = c.methods.length := by omega
      repeat (first | refine WI.seq ?_ | refine WI.block ?_ | refine WI.skip ?_ | refine WI.exit ?_ | refine WI.region ah 0 (by decide) (by kernel_rfl) (aG kP) ?_)
      rw [List.take_length] at hfit
      refine ⟨good hfit, fun j => j, Le.toT ?_⟩
      simp only [bB, eX]
      refine dh ?sle ?mle ?swf ?mwf (fun j hj => fG (hG _) hj) (by rfl)
      case swf => repeat (first | exact aT _ | refine aU ?_ EL)
      case mwf => repeat (first | exact bY _ | refine bU ?_ NU)
      case mle => repeat (first | exact aZ _ | exact aC _ | refine aY ?_ Nq)
      case sle => repeat (first | exact aQ _ | exact aK _ | refine aP ?_ ND)
 case done =>
  intro hAll b
  rw [List.take_length] at hAll ⊢
  have hcl := (hS c hc)
  have hmN : ∀ l : List Method, (l.map (·.name)).length = l.length := fun l => by simp
  repeat (first | refine W.q ?_ | refine W.g ?_ (by simp only [exb, simprocAttr, eT, fH, DID, eX, kg, ay]; rfl))
  refine W.Ap 6 60 9 1 rfl rfl ?_
  refine W.loop (ι := Nat) (fun q => ⟨upd (upd (upd (upd (upd (upd (eT (fun _ => .top) b 1002) 4 (.ptr 4 0)) 5 (.ptr 5 0)) 6 (.own 60)) 67 (.c (.sl (c.methods.map aS)))) 68 (.c (.int .i64 c.methods.length))) 69 (.c (.int .i64 q)),
   upd (fH (eX cs mn c false (dG cs (upX cs (cs.length + 1) 0 c.name))) 1002) 60 (some (.arr 9 1 (((c.methods.take q).map (·.name)).map cStr)))⟩) (fun q => q ≤ c.methods.length ∧ (c.methods.take q).all (fun m => jZ (dV m.params)) = true) (fun q => c.methods.length - q) 0 ?start ⟨Nat.zero_le _, rfl⟩ ?round
  case start =>
   simp only [eT, fH, eX, DID]
   refine dh ?sle ?mle ?swf ?mwf (aI hkeep) (by rfl)
   case swf => repeat (first | exact aT _ | refine aU ?_ (by simp [A.ids, av, ay, List.take_zero]))
   case mwf => repeat (first | exact bY _ | refine bU ?_ (by simp [A.ids, O.ids, av, ay, List.take_zero]))
   case mle => repeat (first | exact aZ _ | exact aC _ | refine aY ?_ (by first | rfl | (simp only [av, aL, O.kill, A.kill, Nat.reduceEqDiff, reduceIte, Option.map_some, Option.map_none, List.map_cons, List.map_nil, ay, List.take_zero]; done)))
   case sle => repeat (first | exact aQ _ | exact aK _ | refine aP ?_ (by first | rfl | (simp only [av, aM, A.kill, aN, aO, Nat.reduceEqDiff, reduceIte, ay, List.take_zero]; done)))
  case round =>
   rintro q ⟨hq, hon⟩
   repeat (first | refine W.q ?_ | refine W.g ?_ yM)
   refine W.cond rfl ?_ ?_
   ·intro hlt
    replace hlt := dtl hlt
    obtain ⟨y, hy⟩ : ∃ y, c.methods[q]? = some y := ⟨_, List.getElem?_eq_getElem hlt⟩
    have hyp := hcl.2.2 y (List.mem_of_getElem? hy)
    repeat (first | refine W.q ?_ | refine W.g ?_ (by simp only [exb, simprocAttr, eT, fH, DID, eX, ay, cZ hy, aS]; rfl))
    refine W.ak ah 0 (by decide) ?_
    refine aj 4 yM ?_
    refine fu ah 60 rfl rfl rfl rfl rfl rfl rfl rfl (by first | rfl | (simp only [exb, simprocAttr, eT, fH, DID, eX, ay]; rfl)) rfl rfl rfl rfl (ku hkeep) (by simp) (by have h1 := List.length_take_le q c.methods; simp only [List.length_map, List.length_cons, List.length_nil]; omega) (by decide) ?_
    refine aA yM ?_
    refine W.seq ?_
    refine W.ak ah 0 (by decide) ?_
    refine aj 2 yM ?_
    refine au rfl rfl rfl rfl rfl (by simp) cw1 (xw y.params (by omega) _) ?_
    refine aj 0 yM ?_
    refine au rfl rfl rfl rfl rfl (by simp) cw1 (yU (dV y.params) (by simp [dV]; omega) _) ?_
    refine aA yM ?_
    refine W.cond rfl ?_ ?_
    ·intro hb
     repeat (first | refine W.q ?_ | refine W.g ?_ yM)
     refine W.ret ⟨.inr rfl, .inr ⟨b, 1002, rfl, rfl, rfl, ?_⟩⟩
     simp only [Tryz.f29, bE, aD, toT, fin, eT, fH, DID, exb, simprocAttr, eX]
     have : dB cs c = false := by
      unfold dB
      have : (c.methods.all fun m => jZ (dV m.params)) = false := by
       rw [List.all_eq_false]
       exact ⟨y, List.mem_of_getElem? hy, by simpa using hb⟩
      rw [this]; simp
     rw [this]
    ·intro hb
     repeat (first | refine W.q ?_ | refine W.g ?_ yM)
     refine ⟨q + 1, ⟨hlt, ?_⟩, by omega, ?_⟩
     ·rw [List.take_add_one, hy, List.all_append, hon]; simpa using hb
     simp only [eT, fH, eX, DID]
     refine dh ?sle ?mle ?swf ?mwf (aI hkeep) (by rfl)
     case swf => repeat (first | exact aT _ | refine aU ?_ (by simp [A.ids, av, ay, aR (show q + 1 < 9223372036854775808 by omega), List.take_add_one, hy, Option.toList_some, List.map_append, cStr]))
     case mwf => repeat (first | exact bY _ | refine bU ?_ (by simp [A.ids, O.ids, av, ay, aR (show q + 1 < 9223372036854775808 by omega), List.take_add_one, hy, Option.toList_some, List.map_append, cStr]))
     case mle => repeat (first | exact aZ _ | exact aC _ | refine aY ?_ (by first | rfl | (simp only [av, aL, O.kill, A.kill, Nat.reduceEqDiff, reduceIte, Option.map_some, Option.map_none, List.map_cons, List.map_nil, ay, aR (show q + 1 < 9223372036854775808 by omega), List.take_add_one, hy, Option.toList_some, List.map_append, cStr]; done)))
     case sle => repeat (first | exact aQ _ | exact aK _ | refine aP ?_ (by first | rfl | (simp only [av, aM, A.kill, aN, aO, Nat.reduceEqDiff, reduceIte, ay, aR (show q + 1 < 9223372036854775808 by omega), List.take_add_one, hy, Option.toList_some, List.map_append, cStr]; done)))
   ·intro hge
    replace hge := dnl hge
    obtain rfl : q = c.methods.length := by omega
    rw [List.take_length] at hon
    have hfl := pz hS (upX cs (cs.length + 1) 0 c.name)
    have hul := nP cs (cs.length + 1) 0 c.name
    have hval : dB cs c = (jZ (dG cs (upX cs (cs.length + 1) 0 c.name)) && jZ (c.methods.map (·.name))) := by
     unfold dB
     rw [hAll, hon]; simp
    repeat (first | refine W.q ?_ | refine W.g ?_ yM)
    refine W.ak ah 0 (by decide) ?_
    refine aj 1 yM ?_
    refine au rfl rfl rfl rfl rfl (by simp) (bZ (Gj rfl) iR) (yU (dG cs (upX cs (cs.length + 1) 0 c.name)) (by omega) _) ?_
    cases h1 : jZ (dG cs (upX cs (cs.length + 1) 0 c.name)) with
    | false =>
      refine aA yM ?_
      refine W.ret ⟨.inr rfl, .inr ⟨b, 1002, rfl, rfl, rfl, ?_⟩⟩
      simp only [Tryz.f29, bE, aD, toT, fin, eT, fH, DID, exb, simprocAttr, eX]
      rw [hval, h1]; rfl
    | true =>
      refine aj 2 (by simp only [exb, simprocAttr, eT, fH, DID, eX, ay, List.take_length]; rfl) ?_
      refine au rfl rfl rfl rfl rfl (by simp) (bZ (Gj rfl) iR) (yU (c.methods.map (·.name)) (by simp; omega) _) ?_
      refine aA yM ?_
      refine W.ret ⟨.inr rfl, .inr ⟨b, 1002, rfl, rfl, rfl, ?_⟩⟩
      simp only [Tryz.f29, bE, aD, toT, fin, eT, fH, DID, exb, simprocAttr, eX]
      rw [hval, h1]; rfl
end V
end Go.Proofs.YthhpcjoaogmhbaaGreatDoor
end
