/- Joined by my own program, in build order: Vi, Vj, Vq, Bulk, Bulk6, Bx, Top, Cd3, By, Ps, Bd, Frz, Veff, Be, Bw, Pd, Vk, Ly, Li, Vs, Vtree, Vpor, Vpan, Dt, Sh, Nxj. -/
import Derived.Test.YtbmbmcdaabhgnaaDoorT21
import Derived.Shelf.Abstract
import Derived.Test.YtbmbmcdaabhgnaaDoorT1
import Derived.Test.YtbmbmcdaabhgnaaDoorRows
import Derived.Test.YtbmbmcdaabhgnaaDoorT2
import Derived.Test.YtbmbmcdaabhgnaaDoorT11
import Derived.ProofKit
import Derived.OpenShut
import Derived.HandedShaped
import Derived.Deep.DeepHandedRow
import Derived.LaidLaws
import Derived.Lib.LaidTab
import Derived.Test.YtbmbmcdaabhgnaaDoorT16
import Derived.Lib.AppendStr
import Derived.Test.YtbmbmcdaabhgnaaDoorChecked
import Derived.Lib.Builder
import Derived.Lib.UnsafeStr
import Derived.WalkKit
import Derived.Laws.Externs
import Derived.Tactics
import Derived.Tactics2
import Derived.Defers
import Derived.Test.YtbmbmcdaabhgnaaDoorT9
import Derived.Test.YtbmbmcdaabhgnaaDoorT17
import Derived.Sort.LoopGhostIn
import Derived.Test.YtbmbmcdaabhgnaaDoorT10
import Derived.Test.YtbmbmcdaabhgnaaDoorT4
import Derived.Lib.ItoaLen
import Derived.Lib.AppendIntMem
set_option linter.unusedVariables false
set_option linter.unusedSimpArgs false
section
namespace Go.Proofs.YtbmbmcdaabhgnaaDoor
namespace V
open Go.RowKit
def stepQ (T : Tab) (base : Nat) (ops : Array Oper) (o : Oper) (st : St) : Option St :=
  match wantA ops o st.s with
  | some true => (match kind T o.op with
    | .store => (match o.op with
      | .store ty x v => (match adrId (ev st.s x), o.dst with
        | some j, none => (match st.m j with
          | some b => (match stO T ty (ev st.s x) (ev st.s v) b with | some b' => some ⟨st.s, upd st.m j (some b')⟩ | none => none)
          | none => none)
        | _, _ => none)
      | _ => none)
    | .barrier => none
    | _ => (match o.dst with
      | some d => (match qv T st.s st.m (base + d) o.op with
        | some (r, none) => some ⟨upd st.s d r, st.m⟩
        | some (r, some x) => (match st.m (base + d) with | none => some ⟨upd st.s d r, upd st.m (base + d) (some x)⟩ | some _ => none)
        | none => none)
      | none => none))
  | some false => (match o.dst with | some d => some ⟨upd st.s d .undef, st.m⟩ | none => some st)
  | none => none
def exec (T : Tab) (base : Nat) (ops : Array Oper) : List Oper → St → Option St
  | [], st => some st
  | o :: l, st => match stepQ T base ops o st with | some st1 => exec T base ops l st1 | none => none
section
variable {P : Go.Program} {T : Tab} {kp : Nat → Prop} {base : Nat} {ops : Array Oper}
theorem stepQ_hs {o : Oper} {st st' : St} (h : stepQ T base ops o st = some st') : HS P T kp base ops o st st' := by
  unfold stepQ at h
  split at h
  · rename_i hw
    split at h
    · split at h
      · rename_i ty x v hop
        split at h
        · rename_i j hx hd
          split at h
          · rename_i b hj
            split at h
            · rename_i b' hn
              cases h
              exact .store ⟨hw, hop, hd, hx, hj, hn⟩
            · cases h
          · cases h
        · cases h
      · cases h
    · cases h
    · split at h
      · rename_i d hd
        have hid : idOf base o = base + d := by simp [idOf, hd]
        split at h
        · rename_i r hq
          cases h
          have := HS.val (P := P) (T := T) (kp := kp) (HV.val (base := base) hw (by rw [hid]; exact hq) (fun h => by cases h) (fun h => by cases h))
          rw [hd] at this
          exact this
        · rename_i r x hq
          split at h
          · rename_i hm
            cases h
            have := HS.val (P := P) (T := T) (kp := kp) (HV.val (base := base) hw (by rw [hid]; exact hq) (fun _ => by rw [hid]; exact hm) (fun _ => by rw [hd]; rfl))
            rw [hd, hid] at this
            exact this
          · cases h
        · cases h
      · cases h
  · rename_i hw
    have := HS.val (P := P) (T := T) (base := base) (kp := kp) (HV.skip hw)
    split at h
    · rename_i d hd
      cases h
      rw [hd] at this
      exact this
    · rename_i hd
      cases h
      rw [hd] at this
      exact this
  · cases h
theorem exec_run : ∀ {l : List Oper} {st st' : St}, exec T base ops l st = some st' → RunL P T kp base ops l st st'
  | [], st, st', h => by simp [exec] at h; subst h; exact .nil _
  | o :: l, st, st', h => by
    simp only [exec] at h
    split at h
    · rename_i st1 h1
      exact .cons (stepQ_hs h1) (exec_run h)
    · cases h
theorem RunL.append {l1 l2 : List Oper} {st st1 st2 : St} (h : RunL P T kp base ops l1 st st1) (k : RunL P T kp base ops l2 st1 st2) : RunL P T kp base ops (l1 ++ l2) st st2 := by
  induction h with
  | nil => exact k
  | cons h _ ih => exact .cons h (ih k)
theorem run_split {l : List Oper} {st st1 st2 : St} (i : Nat) (h : exec T base ops (l.take i) st = some st1) (k : RunL P T kp base ops (l.drop i) st1 st2) : RunL P T kp base ops l st st2 := by
  have := (exec_run (P := P) (kp := kp) h).append k
  rwa [List.take_append_drop] at this
def RunK (P : Go.Program) (T : Tab) (kp : Nat → Prop) (base : Nat) (ops : Array Oper) (l : List Oper) (st : St) (k : St → Prop) : Prop := ∃ st', RunL P T kp base ops l st st' ∧ k st'
theorem runk_exec {l : List Oper} {st st' : St} {k : St → Prop} (h : exec T base ops l st = some st') (hk : k st') : RunK P T kp base ops l st k := ⟨st', exec_run h, hk⟩
theorem runk_split {l : List Oper} {st st1 : St} {k : St → Prop} (i : Nat) (h : exec T base ops (l.take i) st = some st1) (hk : RunK P T kp base ops (l.drop i) st1 k) : RunK P T kp base ops l st k :=
  let ⟨st', h1, h2⟩ := hk
  ⟨st', run_split i h h1, h2⟩
theorem runk_step {o : Oper} {l : List Oper} {st st1 : St} {k : St → Prop} (h : HS P T kp base ops o st st1) (ht : RunK P T kp base ops l st1 k) : RunK P T kp base ops (o :: l) st k :=
  let ⟨st', h1, h2⟩ := ht
  ⟨st', .cons h h1, h2⟩
theorem runk_call {o : Oper} {l : List Oper} {st : St} {k : St → Prop} {r : A} {c : Call} {x : Operand} {f : FuncId} {ids : List Nat} {args : List A} {d : Nat} (h : wantA ops o st.s = some true) (hop : o.op = .call c) (hc : c.callee = .value x) (hx : ev st.s x = .fn f ids) (hd : o.dst = some d) (hb : ∀ j ∈ ids, ∃ ty cells, st.m j = some (.box ty cells))
    (ha : Cvs st.m (c.args.toList.map (ev st.s) ++ ids.map (A.ptr · 0)) args) (hk : COk P f args st.m r) (ht : RunK P T kp base ops l ⟨upd st.s d r, st.m⟩ k) : RunK P T kp base ops (o :: l) st k := by
  refine runk_step (st1 := ⟨upd st.s d r, st.m⟩) ?_ ht
  have := HS.val (P := P) (T := T) (base := base) (ops := ops) (o := o) (kp := kp) (HV.call h hop hc hx hb ha hk)
  rw [hd] at this
  exact this
theorem runk_callR {o : Oper} {l : List Oper} {st : St} {k : St → Prop} {r : A} {c : Call} {x : Operand} {f : FuncId} {ids : List Nat} {args : List A} {d : Nat} (h : wantA ops o st.s = some true) (hop : o.op = .call c) (hc : c.callee = .value x) (hx : ev st.s x = .fn f ids) (hd : o.dst = some d) (hb : ∀ j ∈ ids, ∃ ty cells, st.m j = some (.box ty cells))
    (ha : CvRs st.m (c.args.toList.map (ev st.s) ++ ids.map (A.ptr · 0)) args) (hi : args.all (fun a => a.ids.isEmpty) = true) (hf : flatA r = true) (hk : ∀ m, COk P f args m r) (ht : RunK P T kp base ops l ⟨upd st.s d r, st.m⟩ k) : RunK P T kp base ops (o :: l) st k := by
  refine runk_step (st1 := ⟨upd st.s d r, st.m⟩) ?_ ht
  have := HS.val (P := P) (T := T) (base := base) (ops := ops) (o := o) (kp := kp) (HV.callR h hop hc hx hb ha (fun a ha => by have := List.all_eq_true.1 hi a ha; simpa using this) hf hk)
  rw [hd] at this
  exact this
theorem runk_callE {o : Oper} {l : List Oper} {st : St} {k : St → Prop} {r : A} {c : Call} {x : Operand} {f : FuncId} {ids : List Nat} {args : List A} {D : List Nat} {M' : Mem} (h : wantA ops o st.s = some true) (hop : o.op = .call c) (hc : c.callee = .value x) (hbar : kind T o.op = .barrier) (hx : ev st.s x = .fn f ids) (hkp : ∀ j ∈ D, ¬ kp j) (hb : ∀ j ∈ ids, ∃ ty cells, st.m j = some (.box ty cells))
    (ha : Cvs st.m (c.args.toList.map (ev st.s) ++ ids.map (A.ptr · 0)) args) (hk : CallE P f args st.m D r M') (ht : RunK P T kp base ops l ⟨putS (killL D st.s) o.dst r, M'⟩ k) : RunK P T kp base ops (o :: l) st k :=
  runk_step (.eff (eff_call hkp hbar h hop hc hx hb ha hk)) ht
theorem app_small {n b : Nat} (h : n * b ≤ 140737488355328) (h0 : 0 < b) : n ≤ maxLen := by
  have : n * 1 ≤ n * b := Nat.mul_le_mul_left _ h0
  unfold maxLen; omega
theorem W.regionK {R : Ref} {n : Nat} {ds : List Deferred} {st : St} {K : Exit → St → Prop} (hT : T.Ok P) (base : Nat) {id : Nat} (hd : dstOk n ops = true) (h : RunK P T R.keep base ops ops.toList st (K .normal)) : W P R n ds st (.region id ops false) K :=
  let ⟨_, h1, h2⟩ := h
  W.region hT base hd h1 h2
theorem W.regionDK {R : Ref} {n : Nat} {ds : List Deferred} {st : St} {K : Exit → St → Prop} (hT : T.Ok P) (base : Nat) {id : Nat} (hm : P.follows .mixedOrders = true) (hok : okRegion T ops = true) (hd : dstOk n ops = true) (h : RunK P T R.keep base ops ops.toList st (K .normal)) : W P R n ds st (.region id ops true) K :=
  let ⟨_, h1, h2⟩ := h
  W.regionD hT base hm hok hd h1 h2
theorem MR.newNil {w0 w : World} {I0 I : Nat → Nat → Prop} {B : Nat → Value} {m : Mem} (hm : MR w0 I0 B I m w) {id : Nat} (hid : m id = none) (fz : Bool) (ty e : Nat) : MR w0 I0 (upd B id (.slice none 0 0)) I (upd m id (some (rowO fz ty e []))) w := by
  have hne : ∀ j, (m j).isSome = true → j ≠ id := fun j hj e' => by subst e'; rw [hid] at hj; cases hj
  have hB : ∀ j, (m j).isSome = true → upd B id (.slice none 0 0) j = B j := fun j hj => upd_ne _ _ (hne j hj)
  have liv : ∀ j, (m j).isSome = true → (upd m id (some (rowO fz ty e [])) j).isSome = true := fun j hj => by rw [upd_ne _ _ (hne j hj)]; exact hj
  have other : ∀ {j : Nat} {z : O}, upd m id (some (rowO fz ty e [])) j = some z → (j = id ∧ z = rowO fz ty e []) ∨ (j ≠ id ∧ m j = some z) := fun {j z} hz => by
    unfold upd at hz
    split at hz
    · rename_i e'; exact .inl ⟨e', (Option.some.inj hz).symm⟩
    · rename_i e'; exact .inr ⟨e', hz⟩
  have nofoot : ∀ {k : Nat}, ¬ foot (upd B id (.slice none 0 0)) id (rowO fz ty e []) k := fun {k} hk => by cases fz <;> simp [rowO, foot, upd_same, Value.ownBlock] at hk
  have live : ∀ {j : Nat} {z : O}, m j = some z → (m j).isSome = true := fun {j z} hj => by simp [hj]
  refine ⟨hm.below, hm.glob, hm.base, hm.old, hm.there, fun j z hz => ?_, fun j z hz k hk => ?_, fun j z j' z' hz hz' hne' k hk hk' => ?_, fun j z hz i hi => ?_⟩
  · rcases other hz with ⟨rfl, rfl⟩ | ⟨hj, ho⟩
    · cases fz with
      | true => exact ⟨[], by rw [upd_same]; exact World.ownsRow_nil w 0 ty e, trivial, fun x hx => by simp at hx, fun b hb => by simp [upd_same, Value.ownBlock] at hb⟩
      | false => exact ⟨[], by rw [upd_same]; exact ⟨by simp, .inl ⟨rfl, rfl⟩⟩, trivial, fun x hx => by simp at hx, fun b hb => by simp [upd_same, Value.ownBlock] at hb⟩
    · exact RO.mono (Ext.refl _ _) (hB j (live ho)) (fun i hi => hB i (hm.live j z ho i hi)) (fun _ _ => rfl) (fun _ _ _ hp => hp) (hm.objs j z ho)
  · rcases other hz with ⟨rfl, rfl⟩ | ⟨hj, ho⟩
    · exact absurd hk nofoot
    · exact hm.low j z ho k ((foot_eq (hB j (live ho))).1 hk)
  · rcases other hz with ⟨rfl, rfl⟩ | ⟨hj, ho⟩
    · exact nofoot hk
    · rcases other hz' with ⟨rfl, rfl⟩ | ⟨hj', ho'⟩
      · exact nofoot hk'
      · exact hm.apart j z j' z' ho ho' hne' k ((foot_eq (hB j (live ho))).1 hk) ((foot_eq (hB j' (live ho'))).1 hk')
  · rcases other hz with ⟨rfl, rfl⟩ | ⟨hj, ho⟩
    · cases fz <;> simp [rowO, O.ids] at hi
    · exact liv i (hm.live j z ho i hi)
theorem W.newRowBox {R : Ref} {n : Nat} {ds : List Deferred} {st : St} {c : Code} {K : Exit → St → Prop} (fz : Bool) (j k id ty e : Nat) {tyb : TypeId} {cells : List A} (hj : st.m j = some (.box tyb cells)) (hk : cells[k]? = some .nil) (hid : st.m id = none)
    (h : W P R n ds ⟨st.s, upd (upd st.m id (some (rowO fz ty e []))) j (some (.box tyb (cells.set k (.own id))))⟩ c K) : W P R n ds st c K := by
  intro a w hr
  refine h a w ?_
  obtain ⟨⟨B, I, hm, hx0, hkp, hs⟩, h2, h3, hnn, h4, h5⟩ := hr
  have hne : ∀ i, (st.m i).isSome = true → i ≠ id := fun i hi e' => by subst e'; rw [hid] at hi; cases hi
  have hB : ∀ i, (st.m i).isSome = true → upd B id (.slice none 0 0) i = B i := fun i hi => upd_ne _ _ (hne i hi)
  have hm1 := hm.newNil hid fz ty e
  have hj1 : upd st.m id (some (rowO fz ty e [])) j = some (.box tyb cells) := by rw [upd_ne _ _ (hne j (by simp [hj]))]; exact hj
  obtain ⟨b, vs, e1, e2, e3, e4⟩ := hm1.objs j _ hj1
  have liv : ∀ i, (st.m i).isSome = true → (upd (upd st.m id (some (rowO fz ty e []))) j (some (.box tyb (cells.set k (.own id)))) i).isSome = true := fun i hi => by
    unfold upd; split
    · rfl
    · split
      · rfl
      · exact hi
  have hm2 := hm1.turn (o' := .box tyb (cells.set k (.own id))) hj1 ⟨0, e1⟩ (fun q hq => by obtain ⟨off, hq⟩ := hq; rw [e1] at hq; cases hq; rfl) e4 rfl rfl rfl rfl (fun _ _ => rfl) (fun i hi => by
    obtain ⟨a', ha', hi'⟩ := List.mem_flatMap.1 hi
    rcases List.mem_or_eq_of_mem_set ha' with ha' | rfl
    · exact hm1.live j _ hj1 i (List.mem_flatMap.2 ⟨a', ha', hi'⟩)
    · simp [A.ids] at hi'; subst hi'; rw [upd_same]; rfl) (fun _ => by
    refine ⟨b, vs, e1, e2, ?_, e4⟩
    have hl := e3.length
    refine RVs.of (by rw [List.length_set]; exact hl) fun q a' v' ha' hv' => ?_
    rw [List.getElem?_set] at ha'
    split at ha'
    · rename_i hq
      subst hq
      split at ha'
      · cases ha'
        obtain ⟨v2, q1, q2, q3⟩ := e3.at k _ hk
        rw [hv'] at q1; cases q1
        have hv : v' = .slice none 0 0 := q2
        exact ⟨⟨hv.trans (upd_same ..).symm, none, 0, 0, hv⟩, q3⟩
      · cases ha'
    · obtain ⟨v2, q1, q2, q3⟩ := e3.at q _ ha'
      rw [hv'] at q1; cases q1
      exact ⟨q2, q3⟩)
  exact ⟨⟨_, I, hm2.1, hx0, fun i hi => (hB i (h5 i hi)).trans (hkp i hi), fun t => (hs t).mono (Ext.refl _ _) fun i hi => hB i (h2 t i hi)⟩, fun t i hi => liv i (h2 t i hi), h3, hnn, h4, fun i hi => liv i (h5 i hi)⟩
end
theorem ybeq_some (a b : Bool) : (some a == some b) = (a == b) := rfl
theorem beqT (b : Bool) : (b == true) = b := by cases b <;> rfl
theorem beqF (b : Bool) : (b == false) = !b := by cases b <;> rfl
theorem ybeq_none (b : Bool) : ((none : Option Bool) == some b) = false := rfl
theorem empty_toList : (⟨#[]⟩ : ByteArray).toList = [] := by
  unfold ByteArray.toList ByteArray.toList.loop
  rfl
theorem upd_app {α : Type} (f : Nat → α) (t : Nat) (x : α) (u : Nat) : upd f t x u = if u = t then x else f u := rfl
theorem entry_zero (a : A) (l : List A) : entry (a :: l) 0 = a := rfl
theorem entry_succ (a : A) (l : List A) (n : Nat) : entry (a :: l) (n + 1) = entry l n := rfl
theorem entry_nil (n : Nat) : entry [] n = .undef := by simp [entry]
theorem cvs_nil {m : Mem} : Cvs m [] [] := trivial
theorem cvs_cons {m : Mem} {a a' : A} {l l' : List A} (h : Cv m a a') (k : Cvs m l l') : Cvs m (a :: l) (a' :: l') := ⟨h, k⟩
theorem cv_refl {m : Mem} {a : A} : Cv m a a := .inl rfl
theorem cvrs_nil {m : Mem} : CvRs m [] [] := trivial
theorem cvrs_cons {m : Mem} {a a' : A} {l l' : List A} (h : CvR m a a') (k : CvRs m l l') : CvRs m (a :: l) (a' :: l') := ⟨h, k⟩
theorem cvr_refl {m : Mem} {a : A} : CvR m a a := .inl (.inl rfl)
theorem cvr_row {m : Mem} {j : Nat} {ty : TypeId} {e : Nat} {xs : List (List C)} (hj : m j = some (.mrow ty e xs)) : CvR m (.own j) (.c (.sl xs)) := .inr (.inr (.inr ⟨j, ty, e, xs, rfl, hj, rfl⟩))
theorem cv_nil {m : Mem} : Cv m .nil (.c (.sl [])) := .inr (.inr ⟨_, rfl, rfl⟩)
theorem mem_nil_app (j : Nat) : Mem.nil j = none := rfl
theorem top_app (t : Nat) : (fun _ : Nat => A.top) t = .top := rfl
def SLe (s s' : Nat → A) : Prop := ∀ t, s' t = .top ∨ s' t = s t
def MLe (m m' : Mem) : Prop := ∀ j, m' j = none ∨ m' j = m j
theorem sle_top (s : Nat → A) : SLe s (fun _ => .top) := fun _ => .inl rfl
theorem sle_refl (s : Nat → A) : SLe s s := fun _ => .inr rfl
theorem sle_upd {s s' : Nat → A} {t : Nat} {x : A} (h : SLe s s') (hx : s t = x) : SLe s (upd s' t x) := fun u => by
  unfold upd; split
  · rename_i e; subst e; exact .inr hx.symm
  · exact h u
theorem mle_nil (m : Mem) : MLe m Mem.nil := fun _ => .inl rfl
theorem mle_refl (m : Mem) : MLe m m := fun _ => .inr rfl
theorem mle_upd {m m' : Mem} {j : Nat} {o : O} (h : MLe m m') (ho : m j = some o) : MLe m (upd m' j (some o)) := fun u => by
  unfold upd; split
  · rename_i e; subst e; exact .inr ho.symm
  · exact h u
def SWf (m : Mem) (s : Nat → A) : Prop := ∀ t, ∀ j ∈ (s t).ids, (m j).isSome = true
def MWf (m m' : Mem) : Prop := ∀ id o, m' id = some o → ∀ j ∈ o.ids, (m j).isSome = true
theorem swf_top (m : Mem) : SWf m (fun _ => .top) := fun _ j hj => by simp [A.ids] at hj
theorem swf_upd {m : Mem} {s : Nat → A} {t : Nat} {x : A} (h : SWf m s) (hx : ∀ j ∈ x.ids, (m j).isSome = true) : SWf m (upd s t x) := fun u j hj => by
  unfold upd at hj; split at hj
  · exact hx j hj
  · exact h u j hj
theorem mwf_nil (m : Mem) : MWf m Mem.nil := fun _ _ h => absurd h (noneSome _)
theorem mwf_upd {m m' : Mem} {i : Nat} {o : O} (h : MWf m m') (ho : ∀ j ∈ o.ids, (m j).isSome = true) : MWf m (upd m' i (some o)) := fun id x hx j hj => by
  unfold upd at hx; split at hx
  · cases hx; exact ho j hj
  · exact h id x hx j hj
theorem le_mk {kp : Nat → Prop} {st st' : St} (h1 : SLe st.s st'.s) (h2 : MLe st.m st'.m) (h3 : SWf st'.m st'.s) (h4 : MWf st'.m st'.m) (h5 : ∀ j, kp j → (st'.m j).isSome = true) (h6 : dfs (st'.s DID) = dfs (st.s DID)) : Le kp st st' := ⟨h1, h2, ⟨h3, h4⟩, h5, h6⟩
theorem kept_not {kp : Nat → Prop} (h : kp = fun _ => False) {m : Mem} : ∀ j, kp j → (m j).isSome = true := fun j hj => by rw [h] at hj; exact hj.elim
theorem nokeep {kp : Nat → Prop} (h : kp = fun _ => False) {j : Nat} : ¬ kp j := by rw [h]; exact fun h => h
theorem wrap_nat {k : Nat} (h : k < 9223372036854775808) : IntKind.i64.wrap (k : Int) = k := by
  have h2 : (k : Int) % 18446744073709551616 = k := by omega
  have h3 : ¬ ((k : Int) ≥ 9223372036854775808) := by omega
  simp [IntKind.wrap, IntKind.bits, IntKind.signed, h2]
  omega
theorem ok_pure {P : Go.Program} {T : Tab} (hT : T.Ok P) {f : FuncId} {fn : Func} {c : Code} {l : List ResultVar} {args : List A} {r : A} (hf : P.funcs[f]? = some fn) (hn : (fn.name == "runtime.NumGoroutine") = false) (hb : fn.body = some c) (hl : fn.results.toList = l) (hd : args.all (fun a => a.ids.isEmpty && !(match a with | .defs _ => true | _ => false)) = true) (hr : r.ids = []) (hle : decide (args.length ≤ fn.ntmps ∧ fn.ntmps ≤ DID) = true)
    (hW : ∀ R : Ref, R.keep = (fun _ => False) → W P R fn.ntmps [] ⟨entry args, Mem.nil⟩ c (fun e st => (e = .normal ∨ e = .ret) ∧ dfs (st.s DID) = [] ∧ resA T st l = some r)) (m : Mem) : COk P f args m r :=
  ⟨enters_of hf hn hb, hr, fun m' _ => call_pure hT hf hb hl (fun a ha => by have := List.all_eq_true.1 hd a ha; simp only [Bool.and_eq_true] at this; simpa using this.1) (fun a ha l e => by have := List.all_eq_true.1 hd a ha; subst e; simp at this) (of_decide_eq_true hle).1 (of_decide_eq_true hle).2 hW m'⟩
theorem wrap_succ {k : Nat} (h : k + 1 < 9223372036854775808) : IntKind.i64.wrap ((k : Int) + 1) = ((k + 1 : Nat) : Int) := by
  have := wrap_nat h
  simpa using this
theorem wf_i64 {n : Int} (h1 : -9223372036854775808 ≤ n) (h2 : n ≤ 9223372036854775807) : (Lit.int .i64 n).wf = true := by
  simp [Lit.wf, IntKind.min, IntKind.max, IntKind.bits, IntKind.signed]
  omega
theorem at_map {α β : Type} {f : α → β} {l : List α} {k : Nat} {x : α} (h : l[k]? = some x) : (l.map f)[k]? = some (f x) := by simp [h]
theorem exs : (∀ (α : Type) (l : List α) (i : Nat), l.toArray[i]? = l[i]?) ∧ (∀ (α : Type) (a : α) (l : List α) (i : Nat), (a :: l)[i + 1]? = l[i]?) ∧ (∀ (α : Type) (a : α) (l : List α), (a :: l)[0]? = some a) ∧
    (∀ (α β : Type) (a : α) (f : α → Option β), (some a).bind f = f a) ∧ (∀ (α : Type) (l : List α), l.toArray.size = l.length) ∧ (∀ (α β : Type) (f : α → β) (a : α) (l : List α), (a :: l).map f = f a :: l.map f) ∧ (∀ (α β : Type) (f : α → β), ([] : List α).map f = []) ∧
    (∀ (α : Type) (l : List α), l.drop 0 = l) ∧ (∀ (α : Type) (a : α) (l : List α) (i : Nat), (a :: l).drop (i + 1) = l.drop i) ∧ (∀ (α : Type) (i : Nat), ([] : List α).drop i = []) ∧
    (∀ (α : Type) (a : α) (l : List α) (i : Nat), (a :: l).take (i + 1) = a :: l.take i) ∧ (∀ (α : Type) (l : List α), l.take 0 = []) ∧ (∀ (α : Type) (i : Nat), ([] : List α).take i = []) ∧ (∀ (α : Type) (a : α) (l : List α), (a :: l).head? = some a) ∧
    (∀ (α : Type) (a : α) (n : Nat), List.replicate (n + 1) a = a :: List.replicate n a) ∧ (∀ (α : Type) (a : α), List.replicate 0 a = []) ∧ (∀ (α : Type) (l : List α) (r : List (List α)), (l :: r).flatten = l ++ r.flatten) ∧ (∀ (α : Type), ([] : List (List α)).flatten = []) ∧
    (∀ (α : Type) (a : α) (l : List α), (a :: l).length = l.length + 1) ∧ (∀ (α : Type), ([] : List α).length = 0) ∧ (∀ (α β : Type) (f : α → β) (l : List α), (l.map f).length = l.length) ∧ (∀ (α : Type) (l : List α), [] ++ l = l) ∧ (∀ (α : Type) (a : α) (l r : List α), a :: l ++ r = a :: (l ++ r)) ∧ (∀ (α : Type) (l : List α), l ++ [] = l) ∧
    (∀ (α β : Type) (f : α → β) (a : α), (some a).map f = some (f a)) ∧ (∀ (α β : Type) (f : α → β), (none : Option α).map f = none) ∧ (∀ n : Nat, 0 * n = 0) ∧ (∀ n : Nat, 1 * n = n) ∧ (∀ n : Nat, n * 1 = n) ∧ (∀ n : Nat, 0 + n = n) ∧ (∀ n : Nat, n + 0 = n) ∧ (∀ n : Nat, (n : Int).toNat = n) ∧ (∀ n : Nat, (0 ≤ (n : Int)) = True) ∧
    (∀ p : Prop, (p ∨ True) = True) ∧ (∀ p : Prop, (True ∧ p) = p) ∧ (∀ p : Prop, (p ∧ True) = p) ∧ (∀ p : Prop, (p ∧ p) = p) ∧ (∀ (α : Type) (a b : α), (if True then a else b) = a) ∧ (∀ (α : Type) (a b : α), (if False then a else b) = b) ∧ ((!true) = false) ∧ ((!false) = true) :=
  ⟨fun _ _ _ => by simp, fun _ _ _ _ => rfl, fun _ _ _ => rfl, fun _ _ _ _ => rfl, fun _ _ => rfl, fun _ _ _ _ _ => rfl, fun _ _ _ => rfl, fun _ _ => rfl, fun _ _ _ _ => rfl, fun _ _ => by simp, fun _ _ _ _ => rfl, fun _ _ => by simp, fun _ _ => by simp, fun _ _ _ => rfl,
    fun _ _ _ => rfl, fun _ _ => rfl, fun _ _ _ => by simp, fun _ => rfl, fun _ _ _ => rfl, fun _ => rfl, fun _ _ _ _ => by simp, fun _ _ => rfl, fun _ _ _ _ => rfl, fun _ _ => by simp, fun _ _ _ _ => rfl, fun _ _ _ => rfl, fun _ => by simp, fun _ => by simp, fun _ => by simp, fun _ => by simp, fun _ => rfl, fun _ => rfl, fun _ => by simp,
    fun _ => by simp, fun _ => by simp, fun _ => by simp, fun _ => by simp, fun _ _ _ => rfl, fun _ _ _ => rfl, rfl, rfl⟩
theorem fillC_cons (place : Nat → Option (Nat × Nat)) (cells : List C) (i : Nat) (v : Option (List C)) (rest : List (Nat × Option (List C))) : fillC place cells ((i, v) :: rest) = match place i, v with
    | some (o, n), some xs => if xs.length = n ∧ o + n ≤ cells.length then fillC place (cells.take o ++ (xs ++ cells.drop (o + n))) rest else none
    | _, _ => none := rfl
theorem fillA_cons (place : Nat → Option (Nat × Nat)) (cells : List A1) (i : Nat) (v : Option (List A1)) (rest : List (Nat × Option (List A1))) : fillA place cells ((i, v) :: rest) = match place i, v with
    | some (o, n), some xs => if xs.length = n ∧ o + n ≤ cells.length then fillA place (cells.take o ++ (xs ++ cells.drop (o + n))) rest else none
    | _, _ => none := rfl
theorem stO_box (T : Tab) (ty : Nat) (a v : A) (ty0 : TypeId) (cells : List A) : stO T ty a v (.box ty0 cells) = match a, T.ty ty, cellsA v with
    | .ptr _ off, some (n, _), some l => if l.length = n ∧ off + l.length ≤ cells.length then some (.box ty0 (repl cells off l)) else none
    | _, _, _ => none := rfl
theorem stO_mrow (T : Tab) (ty : Nat) (a v : A) (ty0 : TypeId) (e : Nat) (xs : List (List C)) : stO T ty a v (.mrow ty0 e xs) = match a, T.ty ty, dataC v with
    | .eptr _ e' i f, some (n, _), some l => if e' = e ∧ l.length = n ∧ f + l.length ≤ e then (match xs[i]? with | some cs => some (.mrow ty0 e (xs.set i (replC cs f l))) | none => none) else none
    | _, _, _ => none := rfl
theorem stO_rows (T : Tab) (ty : Nat) (a v : A) (ty0 : TypeId) (xs : List A1) : stO T ty a v (.rows ty0 xs) = match a, T.ty ty, cellsA v with
    | .eptr _ e i f, some (n, _), some [b] => if e = 1 ∧ n = 1 ∧ f = 0 ∧ i < xs.length then (match b.down with | some y => some (.rows ty0 (xs.set i y)) | none => none) else none
    | _, _, _ => none := rfl
set_option linter.defProp false in
def exa :=
  And.intro (And.intro (And.intro @qv2.eq_17 @qv2.eq_18) (And.intro @A.kill.eq_9 (And.intro @A.kill.eq_10 (And.intro @partA.eq_1 (And.intro @fillA.eq_1 (And.intro @fillA_cons (And.intro @fillC_cons (And.intro @stO_box (And.intro @stO_mrow @stO_rows))))))))) (And.intro (And.intro (And.intro (And.intro (And.intro (And.intro (And.intro (And.intro @exec.eq_1 @exec.eq_2) (And.intro @stepQ.eq_1 @wantA.eq_1)) (And.intro (And.intro @yieldA.eq_1 @kind.eq_1) (And.intro @kind.eq_2 @kind.eq_3))) (And.intro (And.intro (And.intro @kind.eq_4 @kind.eq_5) (And.intro @kind.eq_6 @kind.eq_7)) (And.intro (And.intro @kind.eq_8 @kind.eq_9) (And.intro @kind.eq_10 @kind.eq_11)))) (And.intro (And.intro (And.intro (And.intro @kind.eq_12 @kind.eq_13) (And.intro @kind.eq_14 @kind.eq_15)) (And.intro (And.intro @kind.eq_16 @kind.eq_17) (And.intro @kind.eq_18 @kind.eq_19))) (And.intro (And.intro (And.intro @kind.eq_20 @kind.eq_21) (And.intro @kind.eq_22 @kind.eq_23)) (And.intro (And.intro @kind.eq_24 @kind.eq_25) (And.intro @qv.eq_1 (And.intro @qv1.eq_1 @qv1.eq_2)))))) (And.intro (And.intro (And.intro (And.intro (And.intro @qv1.eq_3 @qv1.eq_4) (And.intro @qv1.eq_5 @qv1.eq_6)) (And.intro (And.intro @qv1.eq_7 @qv1.eq_8) (And.intro @qv1.eq_9 @qv1.eq_10))) (And.intro (And.intro (And.intro @qv1.eq_11 @qv1.eq_12) (And.intro @qv1.eq_13 @qv1.eq_14)) (And.intro (And.intro @qv1.eq_15 @qv1.eq_16) (And.intro @qv1.eq_17 @qv1.eq_18)))) (And.intro (And.intro (And.intro (And.intro @qv1.eq_19 @qv2.eq_1) (And.intro @qv2.eq_2 @qv2.eq_3)) (And.intro (And.intro @qv2.eq_4 @qv2.eq_5) (And.intro @qv2.eq_6 @qv2.eq_7))) (And.intro (And.intro (And.intro @qv2.eq_8 @qv2.eq_9) (And.intro @qv2.eq_10 @qv2.eq_11)) (And.intro (And.intro @qv2.eq_12 @qv2.eq_13) (And.intro @qv2.eq_14 (And.intro @qv2.eq_15 @qv2.eq_16))))))) (And.intro (And.intro (And.intro (And.intro (And.intro (And.intro @stO.eq_1 @stO.eq_2) (And.intro @stO.eq_3 @stO.eq_4)) (And.intro (And.intro @stO.eq_5 @stO.eq_6) (And.intro @stO.eq_7 @adrId.eq_1))) (And.intro (And.intro (And.intro @adrId.eq_2 @adrId.eq_3) (And.intro @dataC.eq_1 @dataC.eq_2)) (And.intro (And.intro @dataC.eq_3 @dataC.eq_4) (And.intro @dataC.eq_5 @replC.eq_1)))) (And.intro (And.intro (And.intro (And.intro @eqNil.eq_1 @eqNil.eq_2) (And.intro @eqNil.eq_3 @eqNil.eq_4)) (And.intro (And.intro @eqNil.eq_5 @eqNil.eq_6) (And.intro @eqNil.eq_7 @eqNil.eq_8))) (And.intro (And.intro (And.intro @eqNil.eq_9 @eqNil.eq_10) (And.intro @eqNil.eq_11 @eqNil.eq_12)) (And.intro (And.intro @eqNil.eq_13 @binNil.eq_1) (And.intro @binNil.eq_2 (And.intro @binNil.eq_3 @shiftInt.eq_1)))))) (And.intro (And.intro (And.intro (And.intro (And.intro @shiftInt.eq_2 @shiftInt.eq_3) (And.intro @A.down.eq_1 @A.down.eq_2)) (And.intro (And.intro @A.down.eq_3 @A.down.eq_4) (And.intro @A.down.eq_5 @A.down.eq_6))) (And.intro (And.intro (And.intro @A.down.eq_7 @A.down.eq_8) (And.intro @A.down.eq_9 @A1.up.eq_1)) (And.intro (And.intro @A1.up.eq_2 @A1.up.eq_3) (And.intro @A1.up.eq_4 @A1.up.eq_5)))) (And.intro (And.intro (And.intro (And.intro @A1.up.eq_6 @A1.up.eq_7) (And.intro @A1.up.eq_8 @downs.eq_1)) (And.intro (And.intro @downs.eq_2 @toR.eq_1) (And.intro @toR.eq_2 @ev.eq_1))) (And.intro (And.intro (And.intro @ev.eq_2 @ev.eq_3) (And.intro @ev.eq_4 @putS.eq_1)) (And.intro (And.intro @putS.eq_2 @rowO.eq_1) (And.intro @ofConst.eq_1 (And.intro @ofConst.eq_2 @ofConst.eq_3)))))))) (And.intro (And.intro (And.intro (And.intro (And.intro (And.intro (And.intro @ofConst.eq_4 @ofConst.eq_5) (And.intro @ofConst.eq_6 @ofConst.eq_7)) (And.intro (And.intro @ofConst.eq_8 @ofConst.eq_9) (And.intro @cellsA.eq_1 @cellsA.eq_2))) (And.intro (And.intro (And.intro @cellsA.eq_3 @cellsA.eq_4) (And.intro @cellsA.eq_5 @cellsA.eq_6)) (And.intro (And.intro @cellsA.eq_7 @cellsA.eq_8) (And.intro @cellsA.eq_9 @cellsA.eq_10)))) (And.intro (And.intro (And.intro (And.intro @cellsA.eq_11 @cellsA.eq_12) (And.intro @cellsC.eq_1 @cellsC.eq_2)) (And.intro (And.intro @asC.eq_1 @asC.eq_2) (And.intro @asC.eq_3 @asC.eq_4))) (And.intro (And.intro (And.intro @asC.eq_5 @asCs.eq_1) (And.intro @asCs.eq_2 @ld.eq_1)) (And.intro (And.intro @ldR.eq_1 @ldR.eq_2) (And.intro @bin.eq_1 (And.intro @bin.eq_2 @bin.eq_3)))))) (And.intro (And.intro (And.intro (And.intro (And.intro @bin.eq_4 @bin.eq_5) (And.intro @bin.eq_6 @bin.eq_7)) (And.intro (And.intro @binInt.eq_1 @binInt.eq_2) (And.intro @binInt.eq_3 @binInt.eq_4))) (And.intro (And.intro (And.intro @binInt.eq_5 @binInt.eq_6) (And.intro @binInt.eq_7 @binInt.eq_8)) (And.intro (And.intro @binInt.eq_9 @binInt.eq_10) (And.intro @binInt.eq_11 @binInt.eq_12)))) (And.intro (And.intro (And.intro (And.intro @binInt.eq_13 @binInt.eq_14) (And.intro @binInt.eq_15 @binInt.eq_16)) (And.intro (And.intro @binStr.eq_1 @binStr.eq_2) (And.intro @binStr.eq_3 @binStr.eq_4))) (And.intro (And.intro (And.intro @binStr.eq_5 @binStr.eq_6) (And.intro @binStr.eq_7 @binStr.eq_8)) (And.intro (And.intro @binBool.eq_1 @binBool.eq_2) (And.intro @binBool.eq_3 (And.intro @sliceOf.eq_1 @bndOf.eq_1))))))) (And.intro (And.intro (And.intro (And.intro (And.intro (And.intro @bndOf.eq_2 @bndOf.eq_3) (And.intro @repl.eq_1 @fillC.eq_1)) (And.intro (And.intro @fillC.eq_2 @fillC.eq_3) (And.intro @zeroC.eq_1 @chunks.eq_1))) (And.intro (And.intro (And.intro @chunks.eq_2 @ptrIds.eq_1) (And.intro @ptrIds.eq_2 @ptrIds.eq_3)) (And.intro (And.intro @A.kill.eq_1 @A.kill.eq_2) (And.intro @A.kill.eq_3 @A.kill.eq_4)))) (And.intro (And.intro (And.intro (And.intro @A.kill.eq_5 @A.kill.eq_6) (And.intro @A.kill.eq_7 @A.kill.eq_8)) (And.intro (And.intro @A.kill.eq_9 @A.kill.eq_10) (And.intro @O.kill.eq_1 @O.kill.eq_2))) (And.intro (And.intro (And.intro @O.kill.eq_3 @O.kill.eq_4) (And.intro @maxStr.eq_1 @toKey.eq_1)) (And.intro (And.intro @toKey.eq_2 (And.intro @toKey.eq_3 @toKey.eq_4)) (And.intro (And.intro @keyTy.eq_1 (And.intro @keyC.eq_1 (And.intro @keyC.eq_2 (And.intro @keyC.eq_3 @keyCs.eq_1)))) (And.intro (And.intro @keyTy.eq_2 (And.intro @keyCs.eq_2 @keyCs.eq_3)) (And.intro @keyTy.eq_3 @keyTy.eq_4))))))) (And.intro (And.intro (And.intro (And.intro (And.intro @zero1.eq_1 @lookRes.eq_1) (And.intro @eqTs.eq_1 @eqTs.eq_2)) (And.intro (And.intro @eqTs.eq_3 @eqT.eq_1) (And.intro @eqT.eq_2 @eqT.eq_3))) (And.intro (And.intro (And.intro @eqT.eq_4 @eqRes.eq_1) (And.intro @eqRes.eq_2 @eqRes.eq_3)) (And.intro (And.intro @offs.eq_1 @offs.eq_2) (And.intro @upd_app (And.intro @mem_nil_app @entry_zero))))) (And.intro (And.intro (And.intro (And.intro @entry_succ @entry_nil) (And.intro @top_app @killS_app)) (And.intro (And.intro @killM_app @wf_i64) (And.intro @decide_true @decide_false))) (And.intro (And.intro (And.intro @ybeq_some @ybeq_none) (And.intro @beqT @beqF)) (And.intro (And.intro @empty_toList exs) (And.intro tabs (And.intro @isNilRow.eq_1 @isNilRow.eq_2)))))))))
end V
end Go.Proofs.YtbmbmcdaabhgnaaDoor
end
section
namespace Go.Proofs.YtbmbmcdaabhgnaaDoor
namespace V
open Go.RowKit
def cSlot (s : Slot) : List C := [.str s.type, .str s.name]
mutual
def cExpr : Expr → List C
  | ⟨k, n, nm, kids⟩ => [.int .i64 k, .int .i64 n, .str nm, .sl (cExprs kids)]
def cExprs : List Expr → List (List C)
  | [] => []
  | x :: l => cExpr x :: cExprs l
end
mutual
def cStmt : Stmt → List C
  | ⟨k, n, ty, nm, es, th, el⟩ => [.int .i64 k, .int .i64 n, .str ty, .str nm, .sl (cExprs es), .sl (cStmts th), .sl (cStmts el)]
def cStmts : List Stmt → List (List C)
  | [] => []
  | x :: l => cStmt x :: cStmts l
end
def cMethod (m : Method) : List C := [.str m.type, .str m.name, .sl (m.params.map cSlot), .sl (cStmts m.body)]
def cClass (c : Class) : List C := [.str c.name, .str c.super, .sl (c.fields.map cSlot), .sl (c.methods.map cMethod)]
def cProg (p : Program) : List C := [.sl (p.classes.map cClass), .sl (cStmts p.main)]
theorem cExprs_map (l : List Expr) : cExprs l = l.map cExpr := by induction l with | nil => rfl | cons x l ih => simp [cExprs, ih]
theorem cStmts_map (l : List Stmt) : cStmts l = l.map cStmt := by induction l with | nil => rfl | cons x l ih => simp [cStmts, ih]
end V
end Go.Proofs.YtbmbmcdaabhgnaaDoor
end
section
namespace Go.Proofs.YtbmbmcdaabhgnaaDoor
namespace V
open Go.RowKit
theorem cellsAt_of {w : World} {b : Nat} : ∀ {cs : List Value} {o : Nat}, (∀ (j : Nat) v, cs[j]? = some v → w.cell? ⟨b, o + j, none⟩ = some v) → cellsAt w b o cs
  | [], _, _ => trivial
  | v :: cs, o, h => ⟨by simpa using h 0 v rfl, cellsAt_of fun j u hj => by have := h (j + 1) u (by simpa using hj); rwa [show o + (j + 1) = o + 1 + j by omega] at this⟩
theorem cellsAt_get {w : World} {b : Nat} : ∀ {cs : List Value} {o : Nat}, cellsAt w b o cs → ∀ (j : Nat) v, cs[j]? = some v → w.cell? ⟨b, o + j, none⟩ = some v
  | [], _, _, j, v, h => by simp at h
  | u :: cs, o, h, 0, v, hv => by simp at hv; subst hv; exact h.1
  | u :: cs, o, h, j + 1, v, hv => by
    have := cellsAt_get h.2 j v (by simpa using hv)
    rwa [show o + (j + 1) = o + 1 + j by omega]
section
variable {w : World} {I : Nat → Nat → Prop}
theorem rc_rsl {α : Type} {f : α → List C} {sz : Nat} {R : List Value → α → Prop} {J : Nat → Prop} {v : Value} {l : List α} (hI : ∀ b o, I b o → J b) (hz : 0 < sz) (hf : ∀ x ∈ l, (f x).length = sz) (hR : ∀ cs x, x ∈ l → RCs w I cs (f x) → R cs x) (h : RC w I v (.sl (l.map f))) : RSl sz R w J v l := by
  cases h with
  | @sl a n cap e _ g h1 h2 h3 h4 h5 h6 =>
    refine ⟨a, n, cap, rfl, by simpa using h1, h2, by unfold maxC; unfold maxLen at h3; omega, fun i x hx => ?_⟩
    have hx' := at_map (f := f) hx
    have hm := List.mem_of_getElem? hx
    have he : e = sz := by rw [← hf x hm, h4 _ (List.mem_of_getElem? hx')]
    subst he
    obtain ⟨b, off, rfl, hc⟩ := h5 _ _ hx'
    refine ⟨b, off, (List.range e).map (g i), rfl, hI b _ (hc 0 hz).1, cellsAt_of fun j u hj => ?_, hR _ _ hm (RCs.of (by simp [hf x hm]) fun j u c hj hcj => ?_)⟩
    · rw [List.getElem?_map] at hj
      by_cases hje : j < e
      · rw [List.getElem?_range hje] at hj; cases hj; exact (hc j hje).2
      · rw [List.getElem?_eq_none (by simp; omega)] at hj; cases hj
    · rw [List.getElem?_map] at hj
      by_cases hje : j < e
      · rw [List.getElem?_range hje] at hj; cases hj; exact h6 _ _ _ _ hx' hcj
      · rw [List.getElem?_eq_none (by simp; omega)] at hj; cases hj
theorem rsl_rc {α : Type} {f : α → List C} {sz : Nat} {R : List Value → α → Prop} {J : Nat → Prop} {v : Value} {l : List α} (hI : ∀ b o, J b → I b o) (hR : ∀ cs x, x ∈ l → R cs x → cs.length = sz ∧ RCs w I cs (f x)) (h : RSl sz R w J v l) : RC w I v (.sl (l.map f)) := by
  obtain ⟨a, n, cap, rfl, h1, h2, h3, h4⟩ := h
  have hch : ∀ (i : Nat) x, l[i]? = some x → ∃ cs : List Value, ∃ b off, a = some ⟨b, off, none⟩ ∧ J b ∧ cellsAt w b (off + i * sz) cs ∧ cs.length = sz ∧ RCs w I cs (f x) := fun i x hx => by
    obtain ⟨b, off, cs, e1, e2, e3, e4⟩ := h4 i x hx
    obtain ⟨e5, e6⟩ := hR cs x (List.mem_of_getElem? hx) e4
    exact ⟨cs, b, off, e1, e2, e3, e5, e6⟩
  obtain ⟨g, hg⟩ : ∃ g : Nat → List Value, ∀ (i : Nat) x, l[i]? = some x → ∃ b off, a = some ⟨b, off, none⟩ ∧ J b ∧ cellsAt w b (off + i * sz) (g i) ∧ (g i).length = sz ∧ RCs w I (g i) (f x) := by
    have : ∀ i, ∃ g : List Value, ∀ x, l[i]? = some x → ∃ b off, a = some ⟨b, off, none⟩ ∧ J b ∧ cellsAt w b (off + i * sz) g ∧ g.length = sz ∧ RCs w I g (f x) := fun i => by
      cases hx : l[i]? with
      | none => exact ⟨[], fun x h => by cases h⟩
      | some x =>
        obtain ⟨cs, b, off, q⟩ := hch i x hx
        exact ⟨cs, fun y hy => by cases hy; exact ⟨b, off, q⟩⟩
    exact Classical.skolem.1 this
  have el : ∀ (i : Nat) y, (l.map f)[i]? = some y → ∃ x, l[i]? = some x ∧ y = f x := fun i y hy => by
    rw [List.getElem?_map] at hy
    cases hx : l[i]? with
    | none => rw [hx] at hy; cases hy
    | some x => rw [hx] at hy; exact ⟨x, rfl, (Option.some.inj hy).symm⟩
  refine .sl (e := sz) (fun i j => (g i).getD j undef) (by simpa using h1) h2 (by unfold maxLen; unfold maxC at h3; omega) (fun y hy => ?_) (fun i y hy => ?_) (fun i j y c hy hc => ?_)
  · obtain ⟨i, hi⟩ := List.getElem?_of_mem hy
    obtain ⟨x, hx, rfl⟩ := el i y hi
    obtain ⟨b, off, -, -, -, q1, q2⟩ := hg i x hx
    rw [← q2.length, q1]
  · obtain ⟨x, hx, rfl⟩ := el i y hy
    obtain ⟨b, off, q1, q2, q3, q4, -⟩ := hg i x hx
    refine ⟨b, off, q1, fun j hj => ⟨hI b _ q2, ?_⟩⟩
    have hj' : j < (g i).length := by omega
    rw [cellsAt_get q3 j _ (List.getElem?_eq_getElem hj')]
    simp [hj']
  · obtain ⟨x, hx, rfl⟩ := el i y hy
    obtain ⟨b, off, -, -, -, -, q2⟩ := hg i x hx
    obtain ⟨u, h5, h6⟩ := q2.at j c hc
    simp [h5]; exact h6
variable (hI : ∀ b o, I b o → b < w.heap.size)
theorem rcs_slot {cs : List Value} {x : Slot} (h : RCs w I cs (cSlot x)) : RSlot cs x := by
  match cs, h with
  | [a, b], ⟨h1, h2, _⟩ => exact ⟨by rw [h1.toStr.1, h2.toStr.1], h1.toStr.2, h2.toStr.2⟩
theorem slot_rcs {cs : List Value} {x : Slot} (h : RSlot cs x) : cs.length = 2 ∧ RCs w I cs (cSlot x) := by
  obtain ⟨rfl, h1, h2⟩ := h
  exact ⟨rfl, .str h1, .str h2, trivial⟩
include hI in
theorem rc_slots {v : Value} {l : List Slot} (h : RC w I v (.sl (l.map cSlot))) : RSlots w (· < w.heap.size) v l := rc_rsl hI (by decide) (fun _ _ => rfl) (fun _ _ _ h => rcs_slot h) h
mutual
def dExpr : Expr → Nat
  | ⟨_, _, _, kids⟩ => dExprs kids + 1
def dExprs : List Expr → Nat
  | [] => 0
  | x :: l => max (dExpr x) (dExprs l)
end
theorem dExprs_mem {l : List Expr} {x : Expr} (h : x ∈ l) : dExpr x ≤ dExprs l := by
  induction l with
  | nil => simp at h
  | cons y l ih =>
    simp only [dExprs]
    rcases List.mem_cons.1 h with rfl | h
    · omega
    · have := ih h; omega
include hI in
theorem rcs_expr : ∀ (d : Nat) {cs : List Value} {x : Expr}, dExpr x ≤ d → RCs w I cs (cExpr x) → RExpr d w (· < w.heap.size) cs x
  | 0, cs, ⟨k, n, nm, kids⟩, hd, _ => by simp [dExpr] at hd
  | d + 1, cs, ⟨k, n, nm, kids⟩, hd, h => by
    simp only [cExpr] at h
    match cs, h with
    | [a, b, c, e], ⟨h1, h2, h3, h4, _⟩ =>
      simp only [dExpr] at hd
      rw [cExprs_map] at h4
      refine ⟨e, by rw [h1.toInt.1, h2.toInt.1, h3.toStr.1], h1.toInt.2, h2.toInt.2, h3.toStr.2, rc_rsl hI (by decide) (fun x _ => by cases x; rfl) (fun cs x hx hc => rcs_expr d (by have h' : dExpr x ≤ dExprs kids := dExprs_mem hx; omega) hc) h4⟩
theorem expr_rcs (hJ : ∀ b o, b < w.heap.size → I b o) : ∀ (d : Nat) {cs : List Value} {x : Expr}, RExpr d w (· < w.heap.size) cs x → cs.length = 4 ∧ RCs w I cs (cExpr x)
  | 0, _, _, h => h.elim
  | d + 1, cs, ⟨k, n, nm, kids⟩, ⟨kv, h1, h2, h3, h4, h5⟩ => by
    subst h1
    refine ⟨rfl, .int h2, .int h3, .str h4, ?_, trivial⟩
    rw [cExprs_map]
    exact rsl_rc hJ (fun _ _ _ h => expr_rcs hJ d h) h5
mutual
def dStmt : Stmt → Nat
  | ⟨_, _, _, _, es, th, el⟩ => max (dExprs es) (max (dStmts th) (dStmts el)) + 1
def dStmts : List Stmt → Nat
  | [] => 0
  | x :: l => max (dStmt x) (dStmts l)
end
theorem dStmts_mem {l : List Stmt} {x : Stmt} (h : x ∈ l) : dStmt x ≤ dStmts l := by
  induction l with
  | nil => simp at h
  | cons y l ih =>
    simp only [dStmts]
    rcases List.mem_cons.1 h with rfl | h
    · omega
    · have := ih h; omega
include hI in
theorem rcs_stmt : ∀ (d : Nat) {cs : List Value} {x : Stmt}, dStmt x ≤ d → RCs w I cs (cStmt x) → RStmt d w (· < w.heap.size) cs x
  | 0, cs, ⟨k, n, ty, nm, es, th, el⟩, hd, _ => by simp [dStmt] at hd
  | d + 1, cs, ⟨k, n, ty, nm, es, th, el⟩, hd, h => by
    simp only [cStmt] at h
    match cs, h with
    | [a, b, c, e, f, g, i], ⟨h1, h2, h3, h4, h5, h6, h7, _⟩ =>
      simp only [dStmt] at hd
      rw [cExprs_map] at h5
      rw [cStmts_map] at h6 h7
      refine ⟨f, g, i, by rw [h1.toInt.1, h2.toInt.1, h3.toStr.1, h4.toStr.1], h1.toInt.2, h2.toInt.2, h3.toStr.2, h4.toStr.2, rc_rsl hI (by decide) (fun x _ => by cases x; rfl) (fun cs x hx hc => rcs_expr hI d (by have h' : dExpr x ≤ dExprs es := dExprs_mem hx; omega) hc) h5,
        rc_rsl hI (by decide) (fun x _ => by cases x; rfl) (fun cs x hx hc => rcs_stmt d (by have h' : dStmt x ≤ dStmts th := dStmts_mem hx; omega) hc) h6, rc_rsl hI (by decide) (fun x _ => by cases x; rfl) (fun cs x hx hc => rcs_stmt d (by have h' : dStmt x ≤ dStmts el := dStmts_mem hx; omega) hc) h7⟩
theorem stmt_rcs (hJ : ∀ b o, b < w.heap.size → I b o) : ∀ (d : Nat) {cs : List Value} {x : Stmt}, RStmt d w (· < w.heap.size) cs x → cs.length = 7 ∧ RCs w I cs (cStmt x)
  | 0, _, _, h => h.elim
  | d + 1, cs, ⟨k, n, ty, nm, es, th, el⟩, ⟨ev, tv, fv, h1, h2, h3, h4, h5, h6, h7, h8⟩ => by
    subst h1
    refine ⟨rfl, .int h2, .int h3, .str h4, .str h5, ?_, ?_, ?_, trivial⟩
    · rw [cExprs_map]; exact rsl_rc hJ (fun _ _ _ h => expr_rcs hJ d h) h6
    · rw [cStmts_map]; exact rsl_rc hJ (fun _ _ _ h => stmt_rcs hJ d h) h7
    · rw [cStmts_map]; exact rsl_rc hJ (fun _ _ _ h => stmt_rcs hJ d h) h8
include hI in
theorem rc_stmts {v : Value} {l : List Stmt} {d : Nat} (hd : dStmts l ≤ d) (h : RC w I v (.sl (cStmts l))) : RStmts d w (· < w.heap.size) v l := by
  rw [cStmts_map] at h
  exact rc_rsl hI (by decide) (fun x _ => by cases x; rfl) (fun cs x hx hc => rcs_stmt hI d (by have h' : dStmt x ≤ dStmts l := dStmts_mem hx; omega) hc) h
def dMethod (x : Method) : Nat := dStmts x.body
include hI in
theorem rcs_method {cs : List Value} {x : Method} {d : Nat} (hd : dMethod x ≤ d) (h : RCs w I cs (cMethod x)) : RMethod d w (· < w.heap.size) cs x := by
  match cs, h with
  | [a, b, c, e], ⟨h1, h2, h3, h4, _⟩ => exact ⟨c, e, by rw [h1.toStr.1, h2.toStr.1], h1.toStr.2, h2.toStr.2, rc_slots hI h3, rc_stmts hI hd h4⟩
theorem method_rcs (hJ : ∀ b o, b < w.heap.size → I b o) {d : Nat} {cs : List Value} {x : Method} (h : RMethod d w (· < w.heap.size) cs x) : cs.length = 4 ∧ RCs w I cs (cMethod x) := by
  obtain ⟨pv, bv, rfl, h1, h2, h3, h4⟩ := h
  refine ⟨rfl, .str h1, .str h2, rsl_rc hJ (fun _ _ _ h => slot_rcs h) h3, ?_, trivial⟩
  rw [cStmts_map]; exact rsl_rc hJ (fun _ _ _ h => stmt_rcs hJ d h) h4
def maxL (l : List Nat) : Nat := l.foldr max 0
theorem maxL_mem {l : List Nat} {x : Nat} (h : x ∈ l) : x ≤ maxL l := by
  induction l with
  | nil => simp at h
  | cons y l ih =>
    simp only [maxL, List.foldr_cons] at ih ⊢
    rcases List.mem_cons.1 h with rfl | h
    · omega
    · have := ih h; omega
def dClass (x : Class) : Nat := maxL (x.methods.map dMethod)
include hI in
theorem rcs_class {cs : List Value} {x : Class} {d : Nat} (hd : dClass x ≤ d) (h : RCs w I cs (cClass x)) : RClass d w (· < w.heap.size) cs x := by
  match cs, h with
  | [a, b, c, e], ⟨h1, h2, h3, h4, _⟩ =>
    exact ⟨c, e, by rw [h1.toStr.1, h2.toStr.1], h1.toStr.2, h2.toStr.2, rc_slots hI h3, rc_rsl hI (by decide) (fun _ _ => rfl) (fun cs m hm hc => rcs_method hI (Nat.le_trans (maxL_mem (List.mem_map_of_mem hm)) hd) hc) h4⟩
theorem class_rcs (hJ : ∀ b o, b < w.heap.size → I b o) {d : Nat} {cs : List Value} {x : Class} (h : RClass d w (· < w.heap.size) cs x) : cs.length = 4 ∧ RCs w I cs (cClass x) := by
  obtain ⟨pv, bv, rfl, h1, h2, h3, h4⟩ := h
  exact ⟨rfl, .str h1, .str h2, rsl_rc hJ (fun _ _ _ h => slot_rcs h) h3, rsl_rc hJ (fun _ _ _ h => method_rcs hJ h) h4, trivial⟩
theorem rprog_of {v : Value} {p : Program} (hI : ∀ b o, I b o → b < w.heap.size) (h : ∃ us, v = .agg us.toArray ∧ RCs w I us (cProg p)) : ∃ d, RProgram d w (· < w.heap.size) v p := by
  obtain ⟨us, rfl, h⟩ := h
  match us, h with
  | [a, b], ⟨h1, h2, _⟩ =>
    refine ⟨max (maxL (p.classes.map dClass)) (dStmts p.main), a, b, rfl, ?_, rc_stmts hI (by omega) h2⟩
    exact rc_rsl hI (by decide) (fun _ _ => rfl) (fun _ _ hm hc => rcs_class hI (by have := maxL_mem (List.mem_map_of_mem (f := dClass) hm); omega) hc) h1
theorem prog_rcs (hJ : ∀ b o, b < w.heap.size → I b o) {d : Nat} {v : Value} {p : Program} (h : RProgram d w (· < w.heap.size) v p) : ∃ us, v = .agg us.toArray ∧ RCs w I us (cProg p) := by
  obtain ⟨cv, mv, rfl, h1, h2⟩ := h
  refine ⟨[cv, mv], rfl, rsl_rc hJ (fun _ _ _ h => class_rcs hJ h) h1, ?_, trivial⟩
  rw [cStmts_map]; exact rsl_rc hJ (fun _ _ _ h => stmt_rcs hJ d h) h2
end
end V
end Go.Proofs.YtbmbmcdaabhgnaaDoor
end
section
set_option linter.unusedVariables false
set_option linter.unusedSimpArgs false
namespace Go.Proofs.YtbmbmcdaabhgnaaDoor
namespace V
open Go.RowKit
section
variable {H : Type} {enc : TypeId × Value → H} {w : World} {held : Bool}
theorem bulk_one (d : DataW H) : 1 ≤ Rows.uptoBulk d := by
  cases d with
  | lit l => cases l <;> simp [Rows.uptoBulk]
  | _ => simp [Rows.uptoBulk]
theorem bulk_mem {d : DataW H} {l : List (DataW H)} (h : d ∈ l) : Rows.uptoBulk d ≤ Rows.uptoBulkAll l := by
  induction l with
  | nil => cases h
  | cons x r ih =>
    simp only [Rows.uptoBulkAll]
    rcases List.mem_cons.1 h with rfl | e
    · omega
    · have := ih e; omega
theorem cells_same {b off : Nat} {cs cs' : List Value} (h : cellsAt w b off cs) (k : ∀ i, i < cs'.length → w.cell? ⟨b, off + i, none⟩ = cs'[i]?) (hl : cs.length = cs'.length) : cs = cs' := by
  refine List.ext_getElem? fun i => ?_
  by_cases hi : i < cs.length
  · have h1 := cellsAt_get h i _ (List.getElem?_eq_getElem hi)
    have h2 := k i (by omega)
    rw [List.getElem?_eq_getElem hi, ← h2, ← h1]
  · rw [List.getElem?_eq_none (by omega), List.getElem?_eq_none (by omega)]
theorem struct_bulk {P : Go.Program} {t : TypeId} {fl : List (TypeId × Nat)} {fuel : Nat} {cs : List Value} {x : DataW H × List MemPlace}
    (hf : (P.underlying t).map (fun d => match d with | .struct fs => fs.toList.map (fun f => (f.type, f.offset)) | _ => []) = some fl) (hne : fl ≠ [])
    (h : DataW.trod enc P w 0 (fun _ => true) held fuel t cs = some x) : ∀ k ∈ fl, ∃ n y, DataW.trod enc P w 0 (fun _ => true) held n k.1 ((cs.drop k.2).take (P.cellsOf k.1)) = some y ∧ Rows.uptoBulk y.1 ≤ Rows.uptoBulk x.1 := by
  cases hu : P.underlying t with
  | none => rw [hu] at hf; simp at hf
  | some d =>
    rw [hu] at hf
    simp only [Option.map_some, Option.some.injEq] at hf
    cases d with
    | struct fs =>
      simp only at hf
      obtain ⟨xs, n, hfu, hxe, hl, hlen, hall⟩ := DataW.trod_struct hu h
      intro k hk
      rw [← hf] at hk
      obtain ⟨f, hfm, rfl⟩ := List.mem_map.1 hk
      obtain ⟨i, hi⟩ := List.mem_iff_getElem?.1 hfm
      have hi' : fs[i]? = some f := by rw [← Array.getElem?_toList]; exact hi
      have := hall i f hi'
      have hlt : i < xs.length := by
        rw [hlen]
        exact (Array.getElem?_eq_some_iff.1 hi').1
      refine ⟨n, xs[i], by simpa [List.getElem?_eq_getElem hlt] using this, ?_⟩
      have h1 : xs[i].1 ∈ xs.map (·.1) := List.mem_map_of_mem (List.getElem_mem hlt)
      have h2 := bulk_mem h1
      subst hxe
      simp only [Rows.uptoBulk]
      omega
    | _ => simp only at hf; exact absurd hf.symm hne
end
end V
end Go.Proofs.YtbmbmcdaabhgnaaDoor
end
section
set_option linter.unusedVariables false
set_option linter.unusedSimpArgs false
namespace Go.Proofs.YtbmbmcdaabhgnaaDoor
namespace V
open Go.RowKit
section
variable {H : Type} {enc : TypeId × Value → H} {w : World} {held : Bool}
theorem sum_le {α β : Type} (f : α → Nat) (g : β → Nat) : ∀ (l : List α) (e : List β), l.length ≤ e.length → (∀ (i : Nat) x y, l[i]? = some x → e[i]? = some y → f x ≤ g y) → (l.map f).sum ≤ (e.map g).sum
  | [], _, _, _ => by simp
  | x :: l, [], h, _ => by simp at h
  | x :: l, y :: e, h, hp => by
    have h1 := hp 0 x y rfl rfl
    have h2 := sum_le f g l e (by simpa using h) (fun i a b ha hb => hp (i + 1) a b (by simpa using ha) (by simpa using hb))
    simp only [List.map_cons, List.sum_cons]
    omega
theorem bulk_sum : ∀ l : List (DataW H), Rows.uptoBulkAll l = (l.map Rows.uptoBulk).sum
  | [] => by simp [Rows.uptoBulkAll]
  | x :: l => by simp [Rows.uptoBulkAll, bulk_sum l]
theorem slice_sum {α : Type} {P : Go.Program} {t e : TypeId} {sz fuel : Nat} {v : Value} {x : DataW H × List MemPlace} {R : List Value → α → Prop} {J : Nat → Prop} {l : List α} (cnt : α → Nat) (ht : P.underlying t = some (.slice e)) (hsz : P.cellsOf e = sz) (hpos : 0 < sz)
    (hlen : ∀ cs y, R cs y → cs.length = sz) (h : DataW.trod enc P w 0 (fun _ => true) held fuel t [v] = some x) (hR : RSl sz R w J v l) (hc : ∀ y ∈ l, ∀ n cs z, R cs y → DataW.trod enc P w 0 (fun _ => true) held n e cs = some z → cnt y ≤ Rows.uptoBulk z.1) :
    (l.map cnt).sum + 1 ≤ Rows.uptoBulk x.1 := by
  obtain ⟨a, n, cap, rfl, hn, -, -, hel⟩ := hR
  rcases DataW.trod_slice ht h with ⟨e1, rfl⟩ | ⟨a', len, cap', elems, rest, m, -, e1, hxe, -, -, -, hlen', hall, -, -⟩
  · simp only [List.cons.injEq, Value.slice.injEq, and_true] at e1
    obtain ⟨-, rfl, -⟩ := e1
    obtain rfl : l = [] := List.length_eq_zero_iff.1 hn
    have := bulk_one (H := H) DataW.nil
    simpa using this
  · simp only [List.cons.injEq, Value.slice.injEq, and_true] at e1
    obtain ⟨rfl, rfl, rfl⟩ := e1
    subst hxe
    have hb : Rows.uptoBulkAll (elems.map (·.1)) + 1 ≤ Rows.uptoBulk (DataW.slice (elems.map (·.1)) (rest.map (·.1))) := by simp only [Rows.uptoBulk]; omega
    refine Nat.le_trans (Nat.succ_le_succ ?_) hb
    rw [bulk_sum, List.map_map]
    refine sum_le cnt _ l elems (by omega) fun i y z hi hz => ?_
    have hil := (List.getElem?_eq_some_iff.1 hi).1
    obtain ⟨b, off, cs, ea, -, hcc, hr⟩ := hel i y hi
    cases ea
    have h1 := hall i (by omega)
    rw [hsz, hz] at h1
    cases hcell : w.cells? 0 ((⟨b, off, none⟩ : Addr).add (i * sz)) sz with
    | none => rw [hcell] at h1; simp at h1
    | some cs' =>
      rw [hcell] at h1
      have h1' : DataW.trod enc P w 0 (fun _ => true) held m e cs' = some z := by simpa using h1
      obtain ⟨_, hlen2, hcs⟩ := World.cells?_some hcell
      have : cs = cs' := cells_same hcc (fun j hj => by
        have := hcs j (by omega)
        rw [← this]
        congr 1
        have h3 : ∀ (o k : Nat), (⟨b, o, none⟩ : Addr).add k = ⟨b, o + k, none⟩ := fun o k => by
          unfold Addr.add
          by_cases hk : k = 0
          · subst hk; rfl
          · simp [hk]
        rw [h3, h3]) (by rw [hlen _ _ hr, hlen2])
      subst this
      exact hc y (List.mem_of_getElem? hi) m cs z hr h1'
end
end V
end Go.Proofs.YtbmbmcdaabhgnaaDoor
end
section
set_option linter.unusedVariables false
set_option linter.unusedSimpArgs false
namespace Go.Proofs.YtbmbmcdaabhgnaaDoor
namespace V
open Go.RowKit
section
variable {H : Type} {enc : TypeId × Value → H} {w : World} {held : Bool}
theorem cntEs_sum : ∀ l : List Expr, cntEs l = (l.map cntE).sum
  | [] => by simp [cntEs]
  | x :: l => by simp only [cntEs, List.map_cons, List.sum_cons, cntEs_sum l]
theorem expr_cnt : ∀ (d n : Nat) (cs : List Value) (x : Expr) (z : DataW H × List MemPlace), RExpr d w (· < w.heap.size) cs x → DataW.trod enc Tryd.prog w 0 (fun _ => true) held n 24 cs = some z → cntE x ≤ Rows.uptoBulk z.1
  | 0, _, _, _, _, h, _ => h.elim
  | d + 1, n, cs, ⟨k, nn, nm, kids⟩, z, ⟨kv, e1, _, _, _, h5⟩, h => by
    subst e1
    obtain ⟨n3, y3, k3, b3⟩ := struct_bulk fieldsExpr (by simp) h (22, 3) (by simp)
    rw [cellsOf_one _ c_exprs _ _ _ rfl] at k3
    have c5 : (kids.map cntE).sum + 1 ≤ Rows.uptoBulk y3.1 := slice_sum cntE Tryd.underlying22 c_expr (by decide) (fun cs y hy => by cases d with | zero => exact hy.elim | succ d => obtain ⟨_, rfl, -⟩ := hy; rfl) k3 h5 (fun y _ n cs z hr ht => expr_cnt d n cs y z hr ht)
    simp only [cntE, cntEs_sum]
    omega
theorem expr_short {x : Expr} (h : cntE x ≤ 1048576) (want : Int) (hb : exprB x = true) : (exprX x want).length ≤ 140737488351232 := by
  have h1 := textX_len x hb
  have h2 := exprX_le x want
  omega
end
end V
end Go.Proofs.YtbmbmcdaabhgnaaDoor
end
section
set_option linter.unusedSimpArgs false
namespace Go.Proofs.YtbmbmcdaabhgnaaDoor
open Go.ChangeShapes Go.WideShapes Go.ChangeAt Go.RowKit
open Go.ChangeMaps (open_string shut_string)
set_option linter.unusedVariables false
theorem own : ownKnob Tryd.prog.godebug = none := by kernel_rfl
theorem laidOut : laidOutB Tryd.prog = true := by kernel_rfl
namespace V
theorem cok_top {f : FuncId} {args : List A} {r : A} {W : World} {vals : List Value} (h : COk Tryd.prog f args Mem.nil r) (hg : GlobOk W) (hv : ∀ B, RVl B W (fun b _ => b < W.heap.size) args vals) :
    Calls Tryd.prog f vals.toArray W fun e w' => ∃ v, e = .returned v ∧ Below W.heap.size W w' ∧ ∃ B I', RV B w' I' r v := by
  obtain ⟨-, -, h⟩ := h
  have hm : MR W (fun b _ => b < W.heap.size) (fun _ => undef) (fun b _ => b < W.heap.size) Mem.nil W :=
    ⟨Below.refl _ _, hg, fun _ _ h => h, fun _ _ h => .inl h, fun _ _ h => h, (fun _ _ h => by simp [Mem.nil] at h), (fun _ _ h => by simp [Mem.nil] at h), (fun _ _ _ _ h => by simp [Mem.nil] at h), (fun _ _ h => by simp [Mem.nil] at h)⟩
  refine (h Mem.nil (fun _ _ => rfl) W _ _ _ W vals hm (hv _)).mono ?_
  rintro e w' ⟨v, I', rfl, hb, -, -, hr⟩
  exact ⟨v, rfl, hb, _, _, hr⟩
theorem cok_true {f : FuncId} {args : List A} {W : World} {vals : List Value} (h : COk Tryd.prog f args Mem.nil (.c (.bool true))) (hg : GlobOk W) (hv : ∀ B, RVl B W (fun b _ => b < W.heap.size) args vals) :
    Calls Tryd.prog f vals.toArray W fun e w' => e = .returned (.bool true) ∧ Below W.heap.size W w' := by
  refine (cok_top h hg hv).mono ?_
  rintro e w' ⟨v, rfl, hb, B, I', hr⟩
  have hr : RC w' I' v (.bool true) := hr
  cases hr
  exact ⟨rfl, hb⟩
theorem rv_prog {B : Nat → Value} {W : World} {d : Nat} {v : Value} {p : Program} (h : RProgram d W (· < W.heap.size) v p) : RV B W (fun b _ => b < W.heap.size) (.agg (cProg p)) v :=
  prog_rcs (fun _ _ h => h) h
end V
end Go.Proofs.YtbmbmcdaabhgnaaDoor
end
section
set_option linter.unusedVariables false
set_option linter.unusedSimpArgs false
namespace Go.Proofs.YtbmbmcdaabhgnaaDoor
open Go.ChangeShapes Go.WideShapes Go.ChangeAt Go.RowKit
open V
theorem tabIs_of_vars {P : Go.Program} {W : World} {name : String} {k : IntKind} {zs : List Int} {g : Nat} {t e : TypeId} {n : Nat}
    (hg : P.globalNamed name = some g) (hty : (P.globals[g]?).map (·.type) = some t) (ht : P.underlying t = some (.array n e)) (he : P.underlying e = some (.int k)) (hce : P.cellsOf e = 1) (hct : P.cellsOf t = n) {rest : List (String × DataW Unit)} {ps : List MemPlace}
    (h : DataW.LaidVars P W ((name, Lib.tabData k zs) :: rest) ps) : Lib.TabIs P W name k zs := by
  obtain ⟨g', t', cs, fuel, p, q, hg', ht', hvar, hd, _, _⟩ := h
  obtain rfl := Option.some.inj (hg.symm.trans hg')
  obtain rfl := Option.some.inj (hty.symm.trans ht')
  unfold Lib.TabIs
  rw [hvar, ← Lib.cells_of_tab ht he hce hct hd]
theorem gTens : Tryd.prog.globalNamed "internal/strconv.uint64pow10" = some 1 := by kernel_rfl
theorem tens_of {W : World} (h : laidMetH Tryd.prog Rows.showExprsUptoRow.laid W) : Lib.TabIs Tryd.prog W "internal/strconv.uint64pow10" .u64 Lib.pow10Tab := by
  obtain ⟨ps, ⟨_, _, _, _, _, q1, _, _, _, _, ⟨_, _, _, _, _, q2, _, _, _, _, h3, _⟩, _⟩, _⟩ := h
  exact tabIs_of_vars (zs := Lib.pow10Tab) gTens (by kernel_rfl) Tryd.underlying129 Tryd.underlying104 (by kernel_rfl) (by kernel_rfl) h3
def laidVals : DataW Unit → Array Value
  | .agg l => (l.map fun | .lit (.int k z) => Value.int k z | _ => undef).toArray
  | _ => #[]
def setTab (h : Array Obj) (g : Nat) (d : DataW Unit) : Array Obj := h.modify g fun
  | .cells _ t frozen => .cells (laidVals d) t frozen
  | o => o
noncomputable def laidWorld (os : Os) : World :=
  { World.holding Tryd.prog os ⟨#[], #[], []⟩ with heap := setTab (setTab (setTab (World.holding Tryd.prog os ⟨#[], #[], []⟩).heap 2 Rows.laid_math_bits_deBruijn32tab) 3 Rows.laid_math_bits_deBruijn64tab) 1 Rows.laid_internal_strconv_uint64pow10 }
section
variable {H : Type} {enc : TypeId × Value → H} {w : World} {held : Bool}
end
theorem rv_expr {B : Nat → Value} {W : World} {d : Nat} {cs : Array Value} {x : Expr} (h : RExpr d W (· < W.heap.size) cs.toList x) : RV B W (fun b _ => b < W.heap.size) (.agg (cExpr x)) (.agg cs) :=
  ⟨cs.toList, by simp, (expr_rcs (fun _ _ h => h) d h).2⟩
end Go.Proofs.YtbmbmcdaabhgnaaDoor
end
section
set_option linter.unusedVariables false
set_option linter.unusedSimpArgs false
namespace Go.Proofs.YtbmbmcdaabhgnaaDoor
namespace V
open Go.RowKit
section
variable {H : Type} {enc : TypeId × Value → H} {w : World} {held : Bool}
theorem dat_one {l : List (DataW H)} {b : Nat} {y : DataW H} (h : l[b]? = some y) : Rows.uptoBulk y ≤ Rows.uptoBulkAll l := bulk_mem (List.mem_of_getElem? h)
theorem dat_two : ∀ {l : List (DataW H)} {a b : Nat} {x y : DataW H}, a < b → l[a]? = some x → l[b]? = some y → Rows.uptoBulk x + Rows.uptoBulk y ≤ Rows.uptoBulkAll l
  | [], a, b, x, y, _, ha, _ => by simp at ha
  | z :: l, 0, b + 1, x, y, _, ha, hb => by
    cases ha
    have := dat_one (l := l) (b := b) (y := y) (by simpa using hb)
    simp only [Rows.uptoBulkAll]
    omega
  | z :: l, a + 1, b + 1, x, y, h, ha, hb => by
    have := dat_two (l := l) (a := a) (b := b) (x := x) (y := y) (by omega) (by simpa using ha) (by simpa using hb)
    simp only [Rows.uptoBulkAll]
    omega
theorem dat_three : ∀ {l : List (DataW H)} {a b c : Nat} {x y z : DataW H}, a < b → b < c → l[a]? = some x → l[b]? = some y → l[c]? = some z → Rows.uptoBulk x + Rows.uptoBulk y + Rows.uptoBulk z ≤ Rows.uptoBulkAll l
  | [], a, b, c, x, y, z, _, _, ha, _, _ => by simp at ha
  | u :: l, 0, b + 1, c + 1, x, y, z, _, h, ha, hb, hc => by
    cases ha
    have := dat_two (l := l) (a := b) (b := c) (x := y) (y := z) (by omega) (by simpa using hb) (by simpa using hc)
    simp only [Rows.uptoBulkAll]
    omega
  | u :: l, a + 1, b + 1, c + 1, x, y, z, h1, h2, ha, hb, hc => by
    have := dat_three (l := l) (a := a) (b := b) (c := c) (x := x) (y := y) (z := z) (by omega) (by omega) (by simpa using ha) (by simpa using hb) (by simpa using hc)
    simp only [Rows.uptoBulkAll]
    omega
theorem struct_all {P : Go.Program} {t : TypeId} {fl : List (TypeId × Nat)} {fuel : Nat} {cs : List Value} {x : DataW H × List MemPlace} (hne : fl ≠ [])
    (hf : (P.underlying t).map (fun d => match d with | .struct fs => fs.toList.map (fun f => (f.type, f.offset)) | _ => []) = some fl)
    (h : DataW.trod enc P w 0 (fun _ => true) held fuel t cs = some x) : ∃ n l, Rows.uptoBulkAll l + 1 ≤ Rows.uptoBulk x.1 ∧ ∀ (i : Nat) k, fl[i]? = some k → ∃ y, l[i]? = some y.1 ∧ DataW.trod enc P w 0 (fun _ => true) held n k.1 ((cs.drop k.2).take (P.cellsOf k.1)) = some y := by
  cases hu : P.underlying t with
  | none => rw [hu] at hf; simp at hf
  | some d =>
    rw [hu] at hf
    simp only [Option.map_some, Option.some.injEq] at hf
    cases d with
    | struct fs =>
      simp only at hf
      obtain ⟨xs, n, hfu, hxe, hl, hlen, hall⟩ := DataW.trod_struct hu h
      refine ⟨n, xs.map (·.1), by subst hxe; simp only [Rows.uptoBulk]; omega, fun i k hk => ?_⟩
      rw [← hf, List.getElem?_map] at hk
      cases hfi : fs.toList[i]? with
      | none => rw [hfi] at hk; cases hk
      | some f =>
        rw [hfi] at hk
        cases hk
        have hi' : fs[i]? = some f := by rw [← Array.getElem?_toList]; exact hfi
        have := hall i f hi'
        have hlt : i < xs.length := by rw [hlen]; exact (Array.getElem?_eq_some_iff.1 hi').1
        exact ⟨xs[i], by rw [List.getElem?_map, List.getElem?_eq_getElem hlt]; rfl, by simpa [List.getElem?_eq_getElem hlt] using this⟩
    | _ => simp only at hf; exact absurd hf.symm hne
theorem cntSs_sumX : ∀ l : List Stmt, cntSs l = (l.map cntS).sum
  | [] => by simp [cntSs]
  | x :: l => by simp only [cntSs, List.map_cons, List.sum_cons, cntSs_sumX l]
theorem exprs_cntX {d n : Nat} {v : Value} {l : List Expr} {z : DataW H × List MemPlace} (h : RSl 4 (RExpr d w (· < w.heap.size)) w (· < w.heap.size) v l) (k : DataW.trod enc Tryd.prog w 0 (fun _ => true) held n 22 [v] = some z) : cntEs l + 1 ≤ Rows.uptoBulk z.1 := by
  have := slice_sum cntE Tryd.underlying22 c_expr (by decide) (fun cs y hy => by cases d with | zero => exact hy.elim | succ d => obtain ⟨_, rfl, -⟩ := hy; rfl) k h (fun y _ n cs z hr ht => expr_cnt d n cs y z hr ht)
  rwa [← cntEs_sum] at this
theorem stmt_cntX : ∀ (d n : Nat) (cs : List Value) (x : Stmt) (z : DataW H × List MemPlace), RStmt d w (· < w.heap.size) cs x → DataW.trod enc Tryd.prog w 0 (fun _ => true) held n 39 cs = some z → cntS x ≤ Rows.uptoBulk z.1
  | 0, _, _, _, _, h, _ => h.elim
  | d + 1, n, cs, ⟨k, nn, ty, nm, es, th, el⟩, z, ⟨ev, tv, fv, e1, _, _, _, _, h6, h7, h8⟩, h => by
    subst e1
    have hlen : ∀ cs y, RStmt d w (· < w.heap.size) cs y → cs.length = 7 := fun cs y hy => by cases d with | zero => exact hy.elim | succ d => obtain ⟨_, _, _, rfl, -⟩ := hy; rfl
    obtain ⟨n1, l, hb, hall⟩ := struct_all (by simp) fieldsStmt h
    obtain ⟨y4, g4, k4⟩ := hall 4 _ rfl
    obtain ⟨y5, g5, k5⟩ := hall 5 _ rfl
    obtain ⟨y6, g6, k6⟩ := hall 6 _ rfl
    have h3 := dat_three (by decide) (by decide) g4 g5 g6
    rw [cellsOf_one _ c_exprs _ _ _ rfl] at k4
    rw [cellsOf_one _ c_stmts _ _ _ rfl] at k5 k6
    have c4 : cntEs es + 1 ≤ Rows.uptoBulk y4.1 := exprs_cntX h6 k4
    have c5 : (th.map cntS).sum + 1 ≤ Rows.uptoBulk y5.1 := slice_sum cntS Tryd.underlying31 c_stmt (by decide) hlen k5 h7 (fun y _ n cs z hr ht => stmt_cntX d n cs y z hr ht)
    have c6 : (el.map cntS).sum + 1 ≤ Rows.uptoBulk y6.1 := slice_sum cntS Tryd.underlying31 c_stmt (by decide) hlen k6 h8 (fun y _ n cs z hr ht => stmt_cntX d n cs y z hr ht)
    simp only [cntS, cntSs_sumX]
    omega
theorem stmts_cntX {d n : Nat} {v : Value} {l : List Stmt} {z : DataW H × List MemPlace} (h : RStmts d w (· < w.heap.size) v l) (k : DataW.trod enc Tryd.prog w 0 (fun _ => true) held n 31 [v] = some z) : cntSs l + 1 ≤ Rows.uptoBulk z.1 := by
  have hlen : ∀ cs y, RStmt d w (· < w.heap.size) cs y → cs.length = 7 := fun cs y hy => by cases d with | zero => exact hy.elim | succ d => obtain ⟨_, _, _, rfl, -⟩ := hy; rfl
  have c5 := slice_sum cntS Tryd.underlying31 c_stmt (by decide) hlen k h (fun y _ n cs z hr ht => stmt_cntX d n cs y z hr ht)
  rwa [← cntSs_sumX] at c5
theorem slots_cntX {n : Nat} {v : Value} {l : List Slot} {z : DataW H × List MemPlace} (h : RSlots w (· < w.heap.size) v l) (k : DataW.trod enc Tryd.prog w 0 (fun _ => true) held n 54 [v] = some z) : l.length + 1 ≤ Rows.uptoBulk z.1 := by
  have := slice_sum (fun _ : Slot => 1) Tryd.underlying54 c_slot (by decide) (fun cs y hy => (slot_rcs (w := w) (I := fun _ _ => False) hy).1) k h (fun y _ n cs z hr ht => bulk_one _)
  rwa [sumX_one] at this
theorem method_cntX {d n : Nat} {cs : List Value} {x : Method} {z : DataW H × List MemPlace} (hr : RMethod d w (· < w.heap.size) cs x) (h : DataW.trod enc Tryd.prog w 0 (fun _ => true) held n 62 cs = some z) : cntM x ≤ Rows.uptoBulk z.1 := by
  obtain ⟨pv, bv, rfl, -, -, hp, hb⟩ := hr
  obtain ⟨n1, l, hbu, hall⟩ := struct_all (by simp) fieldsMethod h
  obtain ⟨y2, g2, k2⟩ := hall 2 _ rfl
  obtain ⟨y3, g3, k3⟩ := hall 3 _ rfl
  have h2 := dat_two (by decide) g2 g3
  rw [cellsOf_one _ c_slots _ _ _ rfl] at k2
  rw [cellsOf_one _ c_stmts _ _ _ rfl] at k3
  have c2 := slots_cntX hp k2
  have c3 := stmts_cntX hb k3
  unfold cntM
  omega
theorem class_cntX {d n : Nat} {cs : List Value} {x : Class} {z : DataW H × List MemPlace} (hr : RClass d w (· < w.heap.size) cs x) (h : DataW.trod enc Tryd.prog w 0 (fun _ => true) held n 57 cs = some z) : cntC x ≤ Rows.uptoBulk z.1 := by
  obtain ⟨fv, mv, rfl, -, -, hf, hm⟩ := hr
  obtain ⟨n1, l, hbu, hall⟩ := struct_all (by simp) fieldsClass h
  obtain ⟨y2, g2, k2⟩ := hall 2 _ rfl
  obtain ⟨y3, g3, k3⟩ := hall 3 _ rfl
  have h2 := dat_two (by decide) g2 g3
  rw [cellsOf_one _ c_slots _ _ _ rfl] at k2
  rw [cellsOf_one _ c_methods _ _ _ rfl] at k3
  have c2 := slots_cntX hf k2
  have c3 := slice_sum cntM Tryd.underlying55 c_method (by decide) (fun cs y hy => by obtain ⟨_, _, rfl, -⟩ := hy; rfl) k3 hm (fun y _ n cs z hr ht => method_cntX hr ht)
  unfold cntC
  omega
theorem prog_cntX {d fuel : Nat} {cs : List Value} {x : DataW H × List MemPlace} {p : Program} (hp : RProgram d w (· < w.heap.size) (.agg cs.toArray) p) (h : DataW.trod enc Tryd.prog w 0 (fun _ => true) held fuel 33 cs = some x) : cntP p + 1 ≤ Rows.uptoBulk x.1 := by
  obtain ⟨cv, mv, e1, h1, hm⟩ := hp
  have e2 : cs = [cv, mv] := by simpa using congrArg Array.toList (Value.agg.inj e1)
  subst e2
  obtain ⟨n1, l, hbu, hall⟩ := struct_all (by simp) fieldsProgram h
  obtain ⟨y0, g0, k0⟩ := hall 0 _ rfl
  obtain ⟨y1, g1, k1⟩ := hall 1 _ rfl
  have h2 := dat_two (by decide) g0 g1
  rw [cellsOf_one _ c_classes _ _ _ rfl] at k0
  rw [cellsOf_one _ c_stmts _ _ _ rfl] at k1
  have c0 := slice_sum cntC Tryd.underlying30 c_class (by decide) (fun cs y hy => by obtain ⟨_, _, rfl, -⟩ := hy; rfl) k0 h1 (fun y _ n cs z hr ht => class_cntX hr ht)
  have c1 := stmts_cntX hm k1
  unfold cntP
  omega
end
end V
end Go.Proofs.YtbmbmcdaabhgnaaDoor
end
section
set_option linter.unusedVariables false
set_option linter.unusedSimpArgs false
namespace Go.Proofs.YtbmbmcdaabhgnaaDoor
namespace V
open Go.RowKit Go.Lib
def cBytes (l : List UInt8) : List (List C) := l.map fun b => [C.int .u8 b.toNat]
theorem strRCs {w : World} {I : Nat → Nat → Prop} (s : ByteArray) : RCs w I (strCells s) (flat (cBytes s.data.toList)) := by
  unfold strCells cBytes flat
  generalize s.data.toList = l
  induction l with
  | nil => trivial
  | cons x l ih =>
    simp only [List.map_cons, List.flatten_cons, List.singleton_append]
    exact ⟨.int (by have := x.toNat_lt; simp [Lit.wf, IntKind.min, IntKind.max, IntKind.bits, IntKind.signed]; omega), ih⟩
theorem run_append_str_two {P : Go.Program} (w : World) (t u ty e : TypeId) (i : TypeInfo) (ht : P.underlying t = some (.slice e)) (hu : P.underlying u = some .string) (hi : P.info? e = some i) (hz : i.zero = some (.int .u8 0)) (hsize : i.size = 1) (hby : i.bytes = 1)
    (v : Value) (n : Nat) (xs : List Value) (hown : w.ownsRow 0 e 1 v n xs) (s : ByteArray) (h63 : n + s.size ≤ maxLen) (hbytes : n + s.size ≤ 140737488355328) :
    ∃ v' w', (Builtin.append_ #[t, u] ty #[v, .string s]).run P w = .ok v' w' ∧ w'.ownsRow 0 e 1 v' (n + s.size) (xs ++ strCells s) ∧ w'.os = w.os ∧ w'.tape = w.tape ∧ w'.output = w.output ∧
      ((∃ g, v.ownBlock = some g ∧ v'.ownBlock = some g ∧ w'.heap.size = w.heap.size ∧ ∀ k, k ≠ g → w'.heap[k]? = w.heap[k]?) ∨ (Below w.heap.size w w' ∧ ∀ k, v'.ownBlock = some k → w.heap.size ≤ k) ∨ (v' = v ∧ w' = w)) := by
  have hsmall : n + s.size ≤ 9223372036854775807 := by simp only [maxLen] at h63; omega
  have hxl : xs.length = n := by simpa using hown.1
  have hlen : (xs ++ strCells s).length = (n + s.size) * 1 := by rw [List.length_append, hxl, strCells_length, Nat.mul_one]
  have grown : ∀ (old : Nat), old < n + s.size →
      (w.drew.alloc (.cells (xs.toArray ++ (strCells s).toArray ++ Builtin.zeroCells (Value.int .u8 0).cells (grownCap w (n + s.size) old e - (n + s.size))) e)).ownsRow 0 e 1
        (.slice (some ⟨w.heap.size, 0, none⟩) (n + s.size) (grownCap w (n + s.size) old e)) (n + s.size) (xs ++ strCells s) ∧
      Below w.heap.size w (w.drew.alloc (.cells (xs.toArray ++ (strCells s).toArray ++ Builtin.zeroCells (Value.int .u8 0).cells (grownCap w (n + s.size) old e - (n + s.size))) e)) := by
    intro old ho
    have hge := grownCap_ge w (n + s.size) old e
    have hcm : grownCap w (n + s.size) old e ≤ maxLen := grownCap_le_maxLen w (n + s.size) old e h63
    refine ⟨⟨hlen, .inr ⟨w.heap.size, _, _, rfl, Nat.zero_le _, heap_alloc_new w.drew _, hge, hcm, ?_, ?_⟩⟩, (Below.refl w.heap.size w).drew.alloc (Nat.le_refl _) _⟩
    · have hz1 : (Value.int IntKind.u8 0).cells.size = 1 := rfl
      simp only [Array.size_append, List.size_toArray, size_zeroCells, hz1, hxl, strCells_length]
      omega
    · simp only [Array.toList_append, List.append_assoc]
      rw [← List.append_assoc, ← hlen]
      exact List.take_left
  rcases hown.2 with ⟨rfl, rfl⟩ | ⟨g, cap, cur, rfl, hbg, hg, hnc, hcm, hcs, htake⟩
  · have hx : xs = [] := List.eq_nil_of_length_eq_zero hxl
    subst hx
    by_cases hm : s.size = 0
    · have hn : strCells s = [] := List.eq_nil_of_length_eq_zero (by rw [strCells_length]; exact hm)
      refine ⟨.slice none 0 0, w, ?_, by rw [hm, hn]; exact World.ownsRow_nil w 0 e 1, rfl, rfl, rfl, .inr (.inr ⟨rfl, rfl⟩)⟩
      have hf := run_firstCells_string (P := P) w 1 s
      rw [hm] at hf
      simp [Builtin.append_, run_underlying ht, run_underlying hu, sizeOf, typeInfo, hi, hsize, Builtin.lenOf, hm, hf]
    · have hr := run_append_nil_string (P := P) w t u ty e i (.int .u8 0) ht hu hi hz s (by omega) (by omega) (by rw [hby]; omega)
      have hgr := grown 0 (by omega)
      simp only [Nat.zero_add, List.nil_append, Array.empty_append] at hgr ⊢
      have e1 : (s.data.map fun b => Value.int .u8 b.toNat) = (strCells s).toArray := by
        apply Array.ext'
        simp [strCells]
      rw [e1] at hr
      exact ⟨_, _, hr, hgr.1, rfl, rfl, rfl, .inr (.inl ⟨hgr.2, fun k hk => by simp [Value.ownBlock] at hk; omega⟩)⟩
  · by_cases hroom : n + s.size ≤ cap
    · have hcs' : cur.size = cap := by simpa using hcs
      have hr := run_append_room_string (P := P) w t u ty e i ht hu hi hsize g n cap cur hg s hroom (by omega)
      refine ⟨_, _, hr, ⟨hlen, .inr ⟨g, cap, _, rfl, hbg, setRow_heap w g cur _ e _ hg, hroom, hcm, ?_, ?_⟩⟩, rfl, rfl, rfl, .inl ⟨g, rfl, rfl, by simp, fun k hk => setRow_other w g k _ hk⟩⟩
      · simp only [List.size_toArray, List.length_append, List.length_take, List.length_drop, Array.length_toList, strCells_length]
        omega
      · have ht' : cur.toList.take n = xs := by simpa using htake
        rw [ht', ← hlen]
        exact List.take_left
    · have holds : ∀ j u, xs[j]? = some u → w.cell? ((⟨g, 0, none⟩ : Addr).add j) = some u := hown.cells (g := g) rfl
      have hr := run_append_grow_string (P := P) w t u ty e i (.int .u8 0) ht hu hi hz ⟨g, 0, none⟩ n cap xs (by rw [hsize]; simpa using hxl) holds s (by omega) (by omega) (by rw [hby]; exact growslice_fits (by omega) (by omega))
      have hgr := grown cap (by omega)
      exact ⟨_, _, hr, hgr.1, rfl, rfl, rfl, .inr (.inl ⟨hgr.2, fun k hk => by simp [Value.ownBlock] at hk; omega⟩)⟩
structure HAppendS (T : Tab) (ops : Array Oper) (o : Oper) (st : St) (c : Call) (x y : Operand) (t u d id e : Nat) (xs : List (List C)) (s : ByteArray) : Prop where
  want : wantA ops o st.s = some true
  op : o.op = .call c
  callee : c.callee = .builtin .append
  args : c.args = #[x, y]
  tys : c.argTypes = #[t, u]
  dst : o.dst = some d
  at_ : ev st.s x = .own id
  arr : st.m id = some (.arr e 1 xs)
  val : ev st.s y = .c (.str s)
  elem : T.elem t = some (e, 1)
  str : T.str u = true
  bytes : T.bytes e = some 1
  one : T.one e = some (.int .u8 0)
  small : xs.length + s.size ≤ 140737488355328
section
variable {P : Go.Program} {T : Tab} (hT : T.Ok P) {kp : Nat → Prop} {ops : Array Oper}
include hT
theorem eff_appendS {o : Oper} {st : St} {c : Call} {x y : Operand} {t u d id e : Nat} {xs : List (List C)} {s : ByteArray} (hkp : ¬ kp id) (h : HAppendS T ops o st c x y t u d id e xs s) :
    Eff P T kp ops o st ⟨upd (killS id st.s) d (.own id), upd (killM id st.m) id (some (.arr e 1 (xs ++ cBytes s.data.toList)))⟩ := by
  refine ⟨by rw [h.op]; simp [kind, h.callee], fun hw => ?_, fun R n0 ds a w K Q hR hr hd hK => ?_⟩
  · refine killW hw h.arr (fun i hi => ?_) d _ (fun i hi => ?_)
    · simp [O.ids] at hi
    · simp [A.ids] at hi; subst hi; simp [h.arr]
  · obtain ⟨B, I, hm, hx0, hkp0, hs⟩ := hr.ex
    rw [want_snd hs h.want, if_pos rfl]
    obtain ⟨hu, hn0, i, hi, hin⟩ := hT.elem _ _ _ h.elem
    obtain ⟨i2, hi2, hib⟩ := hT.bytes _ _ h.bytes
    obtain ⟨i3, hi3, hz0, -⟩ := hT.one _ _ h.one
    have e1 : i2 = i := Option.some.inj (hi2.symm.trans hi)
    have e2 : i3 = i := Option.some.inj (hi3.symm.trans hi)
    subst e1 e2
    have hx := ev_rv hs x
    rw [h.at_] at hx
    obtain ⟨hx, -⟩ := hx
    have hy := ev_rv hs y
    rw [h.val] at hy
    have hy : RC w I (a.eval y) (.str s) := hy
    obtain ⟨hyv, -⟩ := hy.toStr
    have hml : (140737488355328 : Nat) ≤ maxLen := by unfold maxLen; decide
    have fin : ∃ v' w' I', (Builtin.append_ #[t, u] o.type #[B id, .string s]).run P w = .ok v' w' ∧ (∃ aa nn cc, v' = .slice aa nn cc) ∧ MR R.w0 R.I0 (upd B id v') I' (upd (killM id st.m) id (some (.arr e 1 (xs ++ cBytes s.data.toList)))) w' ∧ Ext w w' I I' := by
      obtain ⟨vs, hv, hvs, hlx, hiff⟩ := hm.objs id _ h.arr
      obtain ⟨v', w', r1, r2, r3, r4, r5, r6⟩ := run_append_str_two (P := P) w t u o.type e i3 hu (hT.str _ h.str) hi3 hz0 hin hib (B id) xs.length vs hv s (Nat.le_trans h.small hml) h.small
      have hbl : (cBytes s.data.toList).length = s.size := by unfold cBytes; rw [List.length_map, Array.length_toList]; rfl
      rw [← hbl] at r2
      obtain ⟨I', hm', hE⟩ := hm.append h.arr hv hvs hlx hiff r2 (strRCs s) (fun z hz => by obtain ⟨b, -, rfl⟩ := List.mem_map.1 hz; rfl) r3 r4 r5 r6
      refine ⟨v', w', I', r1, ?_, hm', hE⟩
      rcases r2.2 with ⟨q, -⟩ | ⟨g, cap, cur, q, -⟩
      · exact ⟨_, _, _, q⟩
      · exact ⟨_, _, _, q⟩
    obtain ⟨v', w', I', r1, hsh, hm', hE⟩ := fin
    have hrun : (execOp a.eval o).run P w = .ok (.value v') w' := by
      obtain ⟨cal, args, tys⟩ := c
      have h7 := h.callee
      have h8 := h.args
      have h9 := h.tys
      simp only at h7 h8 h9
      subst h7 h8 h9
      simp only [execOp, h.op, resolve, invoke, builtin, Sem.run_bind, Sem.run_pure, Result.andThen_ok, List.map_toArray, List.map_cons, List.map_nil, hx, hyv, r1]
    unfold Oper.wp Oper.upon
    rw [hrun]
    have hdlt : ∀ q, o.dst = some q → q < a.tmps.size := fun q hq => by rw [hr.size]; exact hd q hq
    have hkill : ∀ t', RV (upd B id v') w' I' ((st.s t').kill id) (a.tmps.getD t' undef) := fun t' => by
      rcases (A.kill_ids (id := id) (a := st.s t')).2 with q | ⟨q, hnn⟩
      · rw [q]; trivial
      · rw [q]
        exact (hs t').mono hE fun j hj => upd_ne _ _ (fun e => hnn (e ▸ hj))
    have hput := putS_rv (dst := o.dst) (r := A.own id) (v := v') hkill ⟨(upd_same B id v').symm, hsh⟩ hdlt
    rw [h.dst] at hput
    have hwf : WF ⟨upd (killS id st.s) d (.own id), upd (killM id st.m) id (some (.arr e 1 (xs ++ cBytes s.data.toList)))⟩ := killW hr.wf h.arr (fun i hi => by simp [O.ids] at hi) d _ (fun i hi => by simp [A.ids] at hi; subst hi; simp [h.arr])
    refine hK _ _ ⟨⟨_, I', hm', hx0.trans hE, fun j hj => ?_, by rw [h.dst]; exact hput⟩, hwf.ids, by rw [(put_dst_size _ _ _).1]; exact hr.size, hr.nn, by
      rw [(put_dst_size _ _ _).2]
      have hdd : DID ≠ d := fun q => absurd (hd d h.dst) (Nat.not_lt.2 (q ▸ hr.nn))
      show a.defers = dfs (upd (killS id st.s) d (.own id) DID) ++ ds
      rw [upd_ne _ _ hdd, killS_app, dfs_kill]; exact hr.defs, fun j hj => ?_⟩
    · rw [upd_ne _ _ (fun e => by subst e; rw [hR] at hj; exact hkp hj)]; exact hkp0 j hj
    · have := hr.kept j hj
      show (upd (killM id st.m) id _ j).isSome = true
      unfold upd; split
      · rfl
      · simpa [killM_app] using this
omit hT in
theorem runk_appendS (hT : T.Ok P) {base : Nat} {o : Oper} {l : List Oper} {st : St} {k : St → Prop} {c : Call} {x y : Operand} {t u d : Nat} (id : Nat) {e : Nat} {xs : List (List C)} {s : ByteArray} (h : wantA ops o st.s = some true) (hop : o.op = .call c) (hc : c.callee = .builtin .append) (ha : c.args = #[x, y]) (ht : c.argTypes = #[t, u]) (hd : o.dst = some d)
    (hx : ev st.s x = .own id) (hm : st.m id = some (.arr e 1 xs)) (hy : ev st.s y = .c (.str s)) (h1 : T.elem t = some (e, 1)) (h2 : T.str u = true) (h3 : T.bytes e = some 1) (h4 : T.one e = some (.int .u8 0)) (hkp : ¬ kp id) (hb : xs.length + s.size ≤ 140737488355328)
    (ht2 : RunK P T kp base ops l ⟨upd (killS id st.s) d (.own id), upd (killM id st.m) id (some (.arr e 1 (xs ++ cBytes s.data.toList)))⟩ k) : RunK P T kp base ops (o :: l) st k :=
  runk_step (.eff (eff_appendS hT hkp ⟨h, hop, hc, ha, ht, hd, hx, hm, hy, h1, h2, h3, h4, hb⟩)) ht2
end
end V
end Go.Proofs.YtbmbmcdaabhgnaaDoor
end
section
set_option linter.unusedVariables false
set_option linter.unusedSimpArgs false
namespace Go.Proofs.YtbmbmcdaabhgnaaDoor
open Go.RowKit
set_option maxRecDepth 100000 in
theorem copyCheck_used (b : Nat) (w : World) (h0 : w.cell? ⟨b, 0, none⟩ = some (.pointer (some ⟨b, 0, none⟩))) :
    Calls Tryd.prog 74 #[.pointer (some ⟨b, 0, none⟩)] w fun e w' => e = .returned (.tuple #[]) ∧ w' = w := by
  have hsz : ((Tryd.prog).info? 45).map (·.size) = some 2 := by kernel_rfl
  obtain ⟨j, hj, hjs⟩ := Option.map_eq_some_iff.1 hsz
  go_enter Tryd.func74, Tryd.ntmps74
  go_wp2
  rw [Lib.run_neq_ptr_same w _ Tryd.underlying42 hj]
  go_wp2
  go_end0
  exact ⟨rfl, rfl⟩
set_option maxRecDepth 100000 in
theorem copyCheck_fresh (b : Nat) (w : World) (h0 : w.cell? ⟨b, 0, none⟩ = some (.pointer none)) (hsh : w.shape? b = some (47, 3)) (hfz : w.frozen? ⟨b, 0, none⟩ = false) :
    Calls Tryd.prog 74 #[.pointer (some ⟨b, 0, none⟩)] w fun e w' => e = .returned (.tuple #[]) ∧ w' = w.setCell ⟨b, 0, none⟩ (.pointer (some ⟨b, 0, none⟩)) := by
  have hsz : ((Tryd.prog).info? 45).map (·.size) = some 2 := by kernel_rfl
  obtain ⟨j, hj, hjs⟩ := Option.map_eq_some_iff.1 hsz
  have hlies : liesAt Tryd.prog (Tryd.prog).depth 47 (3 / (Tryd.prog).cellsOf 47) 0 45 1 = true := by kernel_rfl
  go_enter Tryd.func74, Tryd.ntmps74
  go_wp2
  rw [Lib.run_to_unsafe w ⟨b, 0, none⟩ Tryd.underlying42 Tryd.underlying114 hj (by rw [hjs]; decide) hsh (Nat.zero_lt_succ 2)]
  simp only [Result.andThen]
  rw [Oper.upon_value]
  go_wp2
  rw [run_callFunc_extern Tryd.func89 (by kernel_rfl) (by kernel_rfl) (by kernel_rfl) (e := Extern.AbiNoEscape.same) (by kernel_rfl)]
  rw [Lib.run_noEscape]
  simp only [Result.andThen]
  rw [Oper.upon_value]
  go_wp2
  rw [Lib.run_from_unsafe w ⟨b, 0, none⟩ Tryd.underlying114 Tryd.underlying42 hj hsh hlies]
  simp only [Result.andThen]
  rw [Oper.upon_value]
  go_wp2
  go_end0
  exact ⟨rfl, rfl⟩
end Go.Proofs.YtbmbmcdaabhgnaaDoor
end
section
set_option linter.unusedVariables false
set_option linter.unusedSimpArgs false
namespace Go.Proofs.YtbmbmcdaabhgnaaDoor
namespace V
open Go.RowKit
section
variable {w0 w : World} {I0 I : Nat → Nat → Prop} {B : Nat → Value} {m : Mem}
theorem MR.moreI (h : MR w0 I0 B I m w) {N : Nat → Nat → Prop} (hN : ∀ b o, N b o → w0.heap.size ≤ b ∧ b < w.heap.size ∧ ∀ j z, m j = some z → ¬ foot B j z b) : MR w0 I0 B (fun b o => I b o ∨ N b o) m w :=
  ⟨h.below, h.glob, fun b o k => .inl (h.base b o k), fun b o k => k.elim (h.old b o) fun k => .inr (hN b o k).1, fun b o k => k.elim (h.there b o) fun k => (hN b o k).2.1,
    fun j z hz => RO.mono ⟨fun _ _ k => .inl k, fun _ _ _ => rfl⟩ rfl (fun _ _ => rfl) (fun _ _ => rfl) (fun k hk p hp => hp.elim id fun hp => absurd hk ((hN k p hp).2.2 j z hz)) (h.objs j z hz), h.low, h.apart, h.live⟩
theorem MR.freeze (h : MR w0 I0 B I m w) {id : Nat} {ty : TypeId} {e : Nat} {xs : List (List C)} (hid : m id = some (.mrow ty e xs)) :
    ∃ I', MR w0 I0 (upd B id (.slice none 0 0)) I' (upd (killM id m) id (some (.arr ty e []))) w ∧ Ext w w I I' ∧ RC w I' (B id) (.sl xs) := by
  have hob := h.objs id _ hid
  obtain ⟨vs, hrow, hvs, hlx, hnI⟩ := hob
  have hnew : RO (upd B id (.slice none 0 0)) w I id (.arr ty e []) := ⟨[], ⟨by simp, .inl ⟨upd_same .., rfl⟩⟩, trivial, (fun x hx => by cases hx), (fun b hb o => by rw [upd_same] at hb; cases hb)⟩
  have h1 := h.reval (v' := .slice none 0 0) (o' := .arr ty e []) (w' := w) (I' := I) hid rfl rfl rfl (Nat.le_refl _) (fun _ _ _ => rfl) (fun k hk => by
      have hk : (upd B id (.slice none 0 0) id).ownBlock = some k := hk
      rw [upd_same] at hk; cases hk) (Ext.refl _ _) (fun b p k => .inl k)
    hnew (fun i hi => by simp [O.ids] at hi)
  have h2 := h1.moreI (N := fun b o => (B id).ownBlock = some b) (fun b o hb => by
    have hf : foot B id (.mrow ty e xs) b := hb
    refine ⟨(h.low id _ hid b hf).1, (h.low id _ hid b hf).2, fun j z hz hk => ?_⟩
    unfold upd at hz
    split at hz
    · rename_i ej
      cases hz
      subst ej
      have hk : (upd B j (.slice none 0 0) j).ownBlock = some b := hk
      rw [upd_same] at hk; cases hk
    · rename_i ej
      rw [killM_app] at hz
      cases hmj : m j with
      | none => rw [hmj] at hz; cases hz
      | some z0 =>
        rw [hmj] at hz
        cases hz
        exact h.apart j z0 id _ hmj hid ej b ((foot_kill (upd_ne _ _ ej)).1 hk) hf)
  refine ⟨_, h2, ⟨fun _ _ k => .inl k, fun _ _ _ => rfl⟩, ?_⟩
  have hvs' : RCs w (fun b o => I b o ∨ (B id).ownBlock = some b) vs (flat xs) := hvs.mono ⟨fun _ _ k => .inl k, fun _ _ _ => rfl⟩
  obtain ⟨hl, ho⟩ := hrow
  rcases ho with ⟨ev, hn⟩ | ⟨g, off, cap, cur, ev, hcell, q1, q2, q3, q4⟩
  · obtain rfl : xs = [] := List.length_eq_zero_iff.1 hn
    rw [ev]
    exact RC.sl (e := 0) (fun _ _ => undef) rfl (Nat.le_refl _) (Nat.zero_le _) (fun x hx => by cases hx) (fun i x hx => by simp at hx) (fun i j x c hx _ => by simp at hx)
  · have hat : ∀ i j x, xs[i]? = some x → j < e → i * e + j < xs.length * e := fun i j x hx hj => by
      have hi := (List.getElem?_eq_some_iff.1 hx).1
      have : (i + 1) * e ≤ xs.length * e := Nat.mul_le_mul_right _ hi
      rw [Nat.add_mul] at this
      omega
    rw [ev] at hvs' ⊢
    refine RC.sl (e := e) (fun i j => vs.getD (i * e + j) undef) rfl q1 q2 hlx (fun i x hx => ⟨g, off, rfl, fun j hj => ⟨.inr rfl, ?_⟩⟩) (fun i j x c hx hc => ?_)
    · have hlt := hat i j x hx hj
      have hcur : cur[off + (i * e + j)]? = vs[i * e + j]? := by
        rw [← q4, List.getElem?_take, if_pos hlt, List.getElem?_drop, Array.getElem?_toList]
      rw [Nat.add_assoc]
      have hv : vs[i * e + j]? = some (vs.getD (i * e + j) undef) := by
        rw [List.getD_eq_getElem?_getD, List.getElem?_eq_getElem (by omega)]; rfl
      rw [← hv, ← hcur]
      simp [World.cell?, hcell]
    · have hj : j < e := by rw [← hlx x (List.mem_of_getElem? hx)]; exact (List.getElem?_eq_some_iff.1 hc).1
      have hfl := flat_at hlx i j x hx hj
      rw [hc] at hfl
      obtain ⟨u, hu, hr⟩ := hvs'.at _ _ hfl
      rw [List.getD_eq_getElem?_getD, hu]
      exact hr
end
section
variable {P : Go.Program}
theorem W.freeze {R : Ref} {n : Nat} {ds : List Deferred} {st : St} {c : Code} {K : Exit → St → Prop} (t id : Nat) {ty : TypeId} {e : Nat} {xs : List (List C)} (ht : st.s t = .own id) (hid : st.m id = some (.mrow ty e xs)) (hkp : ¬ R.keep id)
    (h : W P R n ds ⟨upd (killS id st.s) t (.c (.sl xs)), upd (killM id st.m) id (some (.arr ty e []))⟩ c K) : W P R n ds st c K := by
  intro a w hr
  refine h a w ?_
  obtain ⟨⟨B, I, hm, hx0, hkp0, hs⟩, h2, h3, hnn, h4, h5⟩ := hr
  obtain ⟨I', hm', hE, hrc⟩ := hm.freeze hid
  have hBne : ∀ j, j ≠ id → upd B id (.slice none 0 0) j = B j := fun j hj => upd_ne _ _ hj
  have liv : ∀ i, (st.m i).isSome = true → (upd (killM id st.m) id (some (.arr ty e [])) i).isSome = true := fun i hi => by
    unfold upd; split
    · rfl
    · rw [killM_app]; simpa using hi
  have hown : RV B w I (.own id) (a.tmps.getD t undef) := ht ▸ hs t
  have hval : a.tmps.getD t undef = B id := hown.1
  refine ⟨⟨_, I', hm', hx0.trans hE, fun j hj => (hBne j (fun e => hkp (e ▸ hj))).trans (hkp0 j hj), fun u => ?_⟩, fun u j hj => ?_, h3, hnn, ?_, fun i hi => liv i (h5 i hi)⟩
  · show RV _ w I' (upd (killS id st.s) t (.c (.sl xs)) u) _
    by_cases hu : u = t
    · subst hu
      rw [upd_same, hval]
      exact hrc
    · rw [upd_ne _ _ hu, killS_app]
      rcases (A.kill_ids (id := id) (a := st.s u)).2 with k | ⟨k, hn⟩
      · rw [k]; trivial
      · rw [k]
        exact (hs u).mono hE fun i hi => hBne i (fun e => hn (e ▸ hi))
  · have hj : j ∈ (upd (killS id st.s) t (.c (.sl xs)) u).ids := hj
    by_cases hu : u = t
    · subst hu; rw [upd_same] at hj; simp [A.ids] at hj
    · rw [upd_ne _ _ hu, killS_app] at hj
      exact liv j (h2 u j ((A.kill_ids (id := id) (a := st.s u)).1 j hj).1)
  · show _ = dfs (upd (killS id st.s) t (.c (.sl xs)) DID) ++ ds
    by_cases e : DID = t
    · rw [← e, upd_same]
      rw [← e] at ht
      rw [ht] at h4
      exact h4
    · rw [upd_ne _ _ e, killS_app, dfs_kill]
      exact h4
end
end V
end Go.Proofs.YtbmbmcdaabhgnaaDoor
end
section
set_option linter.unusedVariables false
set_option linter.unusedSimpArgs false
namespace Go.Proofs.YtbmbmcdaabhgnaaDoor
namespace V
open Go.RowKit
theorem mle_refl' {m m' : Mem} (h : m = m') : MLe m m' := h ▸ mle_refl m
theorem upd_upd {α : Type} (f : Nat → α) (t : Nat) (x y : α) : upd (upd f t x) t y = upd f t y := by
  funext u; unfold upd; split <;> rfl
theorem upd_id {α : Type} (f : Nat → α) {t : Nat} {x : α} (h : f t = x) : upd f t x = f := by
  funext u; unfold upd; split
  · rename_i e; subst e; exact h.symm
  · rfl
theorem mwf_some {M : Mem} {j : Nat} {o : O} (hw : WFm M) (ho : ∀ i ∈ o.ids, (upd M j (some o) i).isSome = true) : WFm (upd M j (some o)) := fun id z hz i hi => by
  unfold upd at hz
  split at hz
  · cases hz; exact ho i hi
  · have := hw id z hz i hi
    unfold upd; split
    · rfl
    · exact this
theorem live_upd {M : Mem} {j : Nat} {o : O} : ∀ i, (M i).isSome = true → (upd M j (some o) i).isSome = true := fun i hi => by
  unfold upd; split
  · rfl
  · exact hi
theorem ren1_id : A1.ren (fun j => j) = id := funext fun a => by cases a <;> rfl
theorem ren_id : A.ren (fun j => j) = id := funext fun a => by cases a <;> simp [A.ren, ren1_id]
theorem renO_id (o : O) : O.ren (fun j => j) o = o := by cases o <;> simp [O.ren, ren1_id, ren_id]
theorem ok_eff {P : Go.Program} {T : Tab} (hT : T.Ok P) {f : FuncId} {fn : Func} {c : Code} {l : List ResultVar} {args : List A} {M : Mem} (D : List Nat) {r : A} {M' : Mem} (hf : P.funcs[f]? = some fn) (hn : (fn.name == "runtime.NumGoroutine") = false) (hb : fn.body = some c) (hl : fn.results.toList = l)
    (hle : decide (args.length ≤ fn.ntmps ∧ fn.ntmps ≤ DID) = true) (hdf : args.all (fun a => !(match a with | .defs _ => true | _ => false)) = true) (hids : ∀ a ∈ args, ∀ j ∈ a.ids, (M j).isSome = true) (hr : ∀ j ∈ r.ids, (M' j).isSome = true) (hsub : ∀ j, (M j).isSome = true → (M' j).isSome = true) (hwm : WFm M → WFm M')
    (hW : WFm M → ∀ R : Ref, R.keep = (fun j => (M j).isSome = true ∧ j ∉ D) → W P R fn.ntmps [] ⟨entry args, M⟩ c (fun e st => (e = .normal ∨ e = .ret) ∧ dfs (st.s DID) = [] ∧ resE T st l = some r ∧ MLe st.m M')) : CallE P f args M D r M' := by
  refine ⟨enters_of hf hn hb, hr, hsub, hwm, ?_⟩
  intro w0 I0 B I w vals hm hv
  have hWF : WFm M := hm.live
  refine (call_eff hT (D := D) hf hb hl (of_decide_eq_true hle).1 (of_decide_eq_true hle).2 hids (fun a ha l e => by have := List.all_eq_true.1 hdf a ha; subst e; simp at this) (enters_of hf hn hb) hr hsub hwm (fun R hR => ?_)).2.2.2.2 w0 I0 B I w vals hm hv
  refine W.mono (hW hWF R hR) fun e st ⟨h1, h2, h3, h4⟩ => ⟨h1, h2, fun j => j, r, h3, ?_⟩
  have hwf' : WFm M' := hwm hWF
  refine ⟨fun t => .inr ?_, fun j o ho => ?_, fun i j _ _ e => e, ⟨fun t j hj => ?_, hwf'⟩, fun j hj => ?_, ?_⟩
  · show (upd (fun _ => A.top) 0 r t).ren (fun j => j) = _
    rw [ren_id]; rfl
  · rw [renO_id]
    rcases h4 j with q | q
    · rw [show (⟨upd (fun _ => A.top) 0 r, M'⟩ : St).m j = M' j from rfl, q] at ho; cases ho
    · exact q.symm.trans ho
  · show (M' j).isSome = true
    have hj : j ∈ (upd (fun _ => A.top) 0 r t).ids := hj
    unfold upd at hj
    split at hj
    · exact hr j hj
    · simp [A.ids] at hj
  · rw [hR] at hj
    exact ⟨rfl, hsub j hj.1⟩
  · show dfs (upd (fun _ => A.top) 0 r DID) = dfs (upd (fun _ => A.top) 0 r DID)
    rfl
theorem kill_free {M : Mem} {id : Nat} (hw : WFm M) (hM : M id = none) : killM id M = M := by
  funext j
  rw [killM_app]
  cases hj : M j with
  | none => rfl
  | some o =>
    rw [Option.map_some]
    congr 1
    have hno : id ∉ o.ids := fun h => by have := hw j o hj id h; rw [hM] at this; cases this
    cases o with
    | box ty cells =>
      simp only [O.kill, O.box.injEq, true_and]
      refine (List.map_congr_left fun a ha => ?_).trans (List.map_id _)
      rcases (A.kill_ids (id := id) (a := a)).2 with e | ⟨e, -⟩
      · have hn : id ∉ a.ids := fun h => hno (List.mem_flatMap.2 ⟨a, ha, h⟩)
        have : ∀ a : A, id ∉ a.ids → a.kill id = a := fun a hn => by
          cases a with
          | ptr j off => simp only [A.ids, List.mem_singleton] at hn; simp [A.kill, Ne.symm hn]
          | own j => simp only [A.ids, List.mem_singleton] at hn; simp [A.kill, Ne.symm hn]
          | fn f ids => simp only [A.ids] at hn; simp [A.kill, hn]
          | pinP v j off => simp only [A.ids, List.mem_singleton] at hn; simp [A.kill, Ne.symm hn]
          | eptr j e i f => simp only [A.ids, List.mem_singleton] at hn; simp [A.kill, Ne.symm hn]
          | win j e lo hi => simp only [A.ids, List.mem_singleton] at hn; simp [A.kill, Ne.symm hn]
          | map j => simp only [A.ids, List.mem_singleton] at hn; simp [A.kill, Ne.symm hn]
          | tupA xs => simp only [A.ids] at hn; simp only [A.kill]; rw [if_neg (by simpa using hn)]
          | aggA xs => simp only [A.ids] at hn; simp only [A.kill]; rw [if_neg (by simpa using hn)]
          | _ => rfl
        exact this a hn
      · exact e
    | rows ty xs =>
      simp only [O.kill, O.rows.injEq, true_and]
      refine (List.map_congr_left fun a ha => ?_).trans (List.map_id _)
      have hn : id ∉ a.ids := fun h => hno (List.mem_flatMap.2 ⟨a, ha, h⟩)
      unfold A1.kill
      rw [if_neg (by simpa using hn)]; rfl
    | map ents =>
      simp only [O.kill, O.map.injEq]
      refine (List.map_congr_left fun p hp => ?_).trans (List.map_id _)
      have hn : id ∉ p.1.ids ++ p.2.ids := fun h => hno (List.mem_flatMap.2 ⟨p, hp, h⟩)
      rw [List.mem_append, not_or] at hn
      unfold A1.kill
      rw [if_neg (by simpa using hn.1), if_neg (by simpa using hn.2)]; rfl
    | _ => rfl
end V
end Go.Proofs.YtbmbmcdaabhgnaaDoor
end
section
set_option linter.unusedVariables false
set_option linter.unusedSimpArgs false
namespace Go.Proofs.YtbmbmcdaabhgnaaDoor
namespace V
open Go.RowKit
def adrB (u : Bool) (j : Nat) : A := if u = true then .ptr j 0 else .nilv (.pointer none)
def pageB (u : Bool) (j q : Nat) (t : Int) : O := .box 47 [adrB u j, .own q, .c (.int .i64 t)]
theorem copyCheck_ok {M : Mem} {j q : Nat} {t : Int} (u : Bool) (hj : M j = some (pageB u j q t)) (hq : (M q).isSome = true) : CallE Tryd.prog 74 [.ptr j 0] M [] (.tup []) (upd M j (some (pageB true j q t))) := by
  have hjs : (M j).isSome = true := by rw [hj]; rfl
  have hids : ∀ i ∈ (pageB true j q t).ids, (M i).isSome = true := fun i hi => by
    simp [pageB, adrB, O.ids, A.ids] at hi
    rcases hi with rfl | rfl
    · exact hjs
    · exact hq
  refine ⟨enters_of Tryd.func74 (by kernel_rfl) rfl, fun i hi => by simp [A.ids] at hi, fun i hi => live_upd i hi, fun hw => mwf_some hw (fun i hi => live_upd i (hids i hi)), ?_⟩
  intro w0 I0 B I w vals hm hv
  match vals, hv with
  | [v], ⟨h1, _⟩ =>
    obtain ⟨b, vs, hB, hh, hvs, hno⟩ := hm.objs j _ hj
    obtain ⟨b', hB', rfl⟩ := h1
    obtain rfl : b = b' := by rw [hB] at hB'; cases hB'; rfl
    match vs, hvs with
    | [x0, x1, x2], ⟨⟨h0, c0⟩, ⟨hx1, c1⟩, ⟨hx2, c2⟩, _⟩ =>
      cases u with
      | true =>
        obtain ⟨b2, hB2, hx0⟩ := h0
        obtain rfl : b = b2 := by rw [hB] at hB2; cases hB2; rfl
        subst hx0
        refine (copyCheck_used b w (by simp [World.cell?, hh])).mono ?_
        rintro e w' ⟨rfl, rfl⟩
        exact ⟨_, B, I, rfl, by rw [upd_id M hj]; exact hm, Ext.refl _ _, fun _ _ _ => rfl, [], rfl, trivial⟩
      | false =>
        have h0 : x0 = .pointer none := h0
        subst h0
        refine (copyCheck_fresh b w (by simp [World.cell?, hh]) (by simp [World.shape?, hh]) (by simp [World.frozen?, hh])).mono ?_
        rintro e w' ⟨rfl, rfl⟩
        have hset : (w.setCell ⟨b, 0, none⟩ (.pointer (some ⟨b, 0, none⟩))).heap[b]? = some (.cells ([.pointer (some ⟨b, 0, none⟩), x1, x2] : List Value).toArray 47) := by
          simp only [World.setCell, Array.getElem?_modify, if_true, hh]
          rfl
        have ht := hm.turn (w' := w.setCell ⟨b, 0, none⟩ (.pointer (some ⟨b, 0, none⟩))) (j := j) (b := b) (o' := pageB true j q t) hj ⟨0, hB⟩ (fun k hk => by
          obtain ⟨off, hk⟩ := hk
          rw [hB] at hk; cases hk; rfl) hno rfl rfl rfl (by simp [World.setCell]) (fun k hk => Below.heap_setCell w ⟨b, 0, none⟩ _ k hk) hids (fun hE => ⟨b, [.pointer (some ⟨b, 0, none⟩), x1, x2], hB, hset, ⟨⟨⟨b, hB, rfl⟩, rfl⟩, ⟨hx1.mono hE (fun _ _ => rfl), c1⟩, ⟨hx2.mono hE (fun _ _ => rfl), c2⟩, trivial⟩, hno⟩)
        exact ⟨_, B, I, rfl, ht.1, ht.2, fun _ _ _ => rfl, [], rfl, trivial⟩
end V
end Go.Proofs.YtbmbmcdaabhgnaaDoor
end
section
set_option linter.unusedVariables false
set_option linter.unusedSimpArgs false
namespace Go.Proofs.YtbmbmcdaabhgnaaDoor
namespace V
open Go.RowKit
def textB (bs : List UInt8) : O := .arr 5 1 (cBytes bs)
def pgM (M : Mem) (j q : Nat) (u : Bool) (t : Int) (bs : List UInt8) : Mem := upd (upd M j (some (pageB u j q t))) q (some (textB bs))
structure PgAt (M : Mem) (j q : Nat) (u : Bool) (t : Int) (bs : List UInt8) : Prop where
  box : M j = some (pageB u j q t)
  row : M q = some (textB bs)
  ne : j ≠ q
  only : ∀ i o, M i = some o → i ≠ j → O.kill q o = o
theorem PgAt.pgM {M : Mem} {j q : Nat} {u u' : Bool} {t t' : Int} {bs bs' : List UInt8} (h : PgAt M j q u t bs) : PgAt (pgM M j q u' t' bs') j q u' t' bs' where
  box := by unfold V.pgM; rw [upd_ne _ _ h.ne, upd_same]
  row := by unfold V.pgM; rw [upd_same]
  ne := h.ne
  only := fun i o ho hi => by
    unfold V.pgM at ho
    by_cases e : i = q
    · subst e; rw [upd_same] at ho; cases ho; rfl
    · rw [upd_ne _ _ e, upd_ne _ _ hi] at ho; exact h.only i o ho hi
theorem pgM_same {M : Mem} {j q : Nat} {u : Bool} {t : Int} {bs : List UInt8} (h : PgAt M j q u t bs) : pgM M j q u t bs = M := by
  unfold pgM
  rw [upd_id M h.box, upd_id M h.row]
theorem pgM_pgM {M : Mem} {j q : Nat} {u u' : Bool} {t t' : Int} {bs bs' : List UInt8} (h : j ≠ q) : pgM (pgM M j q u t bs) j q u' t' bs' = pgM M j q u' t' bs' := by
  funext i
  unfold pgM upd
  by_cases e1 : i = q
  · simp [e1]
  · by_cases e2 : i = j <;> simp [e1, e2]
theorem pgM_live {M : Mem} {j q : Nat} {u : Bool} {t : Int} {bs : List UInt8} : ∀ i, (M i).isSome = true → (pgM M j q u t bs i).isSome = true := fun i hi => live_upd i (live_upd i hi)
theorem pgM_wf {M : Mem} {j q : Nat} {u u' : Bool} {t t' : Int} {bs bs' : List UInt8} (h : PgAt M j q u t bs) (hw : WFm M) : WFm (pgM M j q u' t' bs') := by
  have hjs : (M j).isSome = true := by rw [h.box]; rfl
  have hqs : (M q).isSome = true := by rw [h.row]; rfl
  refine mwf_some (mwf_some hw (fun i hi => live_upd i ?_)) (fun i hi => by simp [textB, O.ids] at hi)
  unfold pageB adrB at hi
  cases u' <;> simp [O.ids, A.ids] at hi
  · subst hi; exact hqs
  · rcases hi with rfl | rfl
    · exact hjs
    · exact hqs
theorem writeS_ok {M : Mem} {j q : Nat} {u : Bool} {t : Int} {bs : List UInt8} (h : PgAt M j q u t bs) (s : ByteArray) (hs : bs.length + s.size ≤ 140737488355328) : CallE Tryd.prog 48 [.ptr j 0, .c (.str s)] M [q] (.tupA [.c (.int .i64 s.size), .nilv .nilIface]) (pgM M j q true t (bs ++ s.data.toList)) := by
  have hjs : (M j).isSome = true := by rw [h.box]; rfl
  have hqs : (M q).isSome = true := by rw [h.row]; rfl
  have jq : (j = q) = False := eq_false h.ne
  have qj : (q = j) = False := eq_false (Ne.symm h.ne)
  have hq := h.row
  have hcb : (cBytes bs).length = bs.length := by unfold cBytes; rw [List.length_map]
  refine (ok_eff tab_ok [q] Tryd.func48 (by kernel_rfl) rfl rfl (by rfl) (by rfl) ?ids ?res ?sub ?wfm (fun hWF Rr hkeep => ?_))
  case ids => intro a ha i hi; simp at ha; rcases ha with rfl | rfl <;> simp [A.ids] at hi; subst hi; exact hjs
  case res => intro i hi; simp [A.ids, A1.ids] at hi
  case sub => exact pgM_live
  case wfm => exact pgM_wf h
  have nkq : ¬ Rr.keep q := by rw [hkeep]; intro hh; exact hh.2 (by simp)
  repeat (first | refine W.seq ?_ | refine W.block ?_ | refine W.skip ?_ | refine W.exit ?_ | refine W.region tab_ok 0 (by decide) (exec_run (by simp only [exa, beq_self_eq_true, ByteArray.size, Nat.reduceAdd, Nat.reduceLeDiff, Nat.reduceEqDiff, Nat.reduceMul, Int.reduceToNat, reduceIte, Int.reduceLE, Int.reduceNeg]; rfl)) ?_)
  (repeat (first | refine W.seq ?_ | refine W.block ?_ | refine W.skip ?_))
  refine W.regionK tab_ok 0 (by decide) ?_
  refine runk_split 1 (by simp only [exa, beq_self_eq_true, ByteArray.size, Nat.reduceAdd, Nat.reduceLeDiff, Nat.reduceEqDiff, Nat.reduceMul, Int.reduceToNat, reduceIte, Int.reduceLE, Int.reduceNeg]; rfl) ?_
  refine runk_callE (D := []) rfl rfl rfl rfl rfl (fun j hj => by simp at hj) (by simp) (cvs_cons cv_refl cvs_nil) (copyCheck_ok u h.box hqs) ?_
  simp only [killL, putS, upd_upd]
  refine runk_exec (by simp only [exa, beq_self_eq_true, ByteArray.size, Nat.reduceAdd, Nat.reduceLeDiff, Nat.reduceEqDiff, Nat.reduceMul, Int.reduceToNat, reduceIte, Int.reduceLE, Int.reduceNeg]; rfl) ?_
  (repeat (first | refine W.seq ?_ | refine W.block ?_ | refine W.skip ?_))
  refine W.regionK tab_ok 0 (by decide) ?_
  refine runk_split 6 (by simp only [exa, beq_self_eq_true, ByteArray.size, Nat.reduceAdd, Nat.reduceLeDiff, Nat.reduceEqDiff, Nat.reduceMul, Int.reduceToNat, reduceIte, Int.reduceLE, Int.reduceNeg, pageB, adrB, upd_same, jq, qj, hq, textB]; rfl) ?_
  refine runk_appendS tab_ok q rfl rfl rfl rfl rfl rfl (by simp only [exa, beq_self_eq_true, ByteArray.size, Nat.reduceAdd, Nat.reduceLeDiff, Nat.reduceEqDiff, Nat.reduceMul, Int.reduceToNat, reduceIte, Int.reduceLE, Int.reduceNeg]) (by simp only [exa, beq_self_eq_true, ByteArray.size, Nat.reduceAdd, Nat.reduceLeDiff, Nat.reduceEqDiff, Nat.reduceMul, Int.reduceToNat, reduceIte, Int.reduceLE, Int.reduceNeg, pageB, adrB, upd_same, jq, qj, hq, textB]; rfl) (by simp only [exa, beq_self_eq_true, ByteArray.size, Nat.reduceAdd, Nat.reduceLeDiff, Nat.reduceEqDiff, Nat.reduceMul, Int.reduceToNat, reduceIte, Int.reduceLE, Int.reduceNeg]; rfl) rfl rfl rfl rfl nkq (by rw [hcb]; exact hs) ?_
  refine runk_exec (by simp only [exa, beq_self_eq_true, ByteArray.size, Nat.reduceAdd, Nat.reduceLeDiff, Nat.reduceEqDiff, Nat.reduceMul, Int.reduceToNat, reduceIte, Int.reduceLE, Int.reduceNeg, killM_app, killS_app, A.kill, O.kill, pageB, adrB, upd_same, jq, qj, hq, textB, List.map_cons, List.map_nil, Option.map_some]; rfl) ?_
  (repeat (first | refine W.seq ?_ | refine W.block ?_ | refine W.skip ?_))
  refine W.regionK tab_ok 0 (by decide) ?_
  refine runk_exec (by simp only [exa, beq_self_eq_true, ByteArray.size, Nat.reduceAdd, Nat.reduceLeDiff, Nat.reduceEqDiff, Nat.reduceMul, Int.reduceToNat, reduceIte, Int.reduceLE, Int.reduceNeg]; rfl) ?_
  (repeat (first | refine W.seq ?_ | refine W.block ?_ | refine W.skip ?_))
  refine W.ret ⟨.inr rfl, by rfl, ?_, ?mle⟩
  simp only [Tryd.f48, resE, resOne, fin, toT, exa, beq_self_eq_true, ByteArray.size, Nat.reduceAdd, Nat.reduceLeDiff, Nat.reduceEqDiff, Nat.reduceMul, Int.reduceToNat, reduceIte, Int.reduceLE, Int.reduceNeg]
  case mle =>
    intro i
    have hbx := h.box
    by_cases e1 : i = q
    · subst e1; right; simp [upd_app, pgM, textB, cBytes, qj]
    by_cases e2 : i = j
    · subst e2; right; simp [upd_app, pgM, pageB, adrB, jq, A.kill]
    cases ho : M i with
    | none => left; simp [upd_app, pgM, e1, e2, ho]
    | some o => right; simp [upd_app, pgM, e1, e2, killM_app, ho, h.only i o ho e2]
end V
end Go.Proofs.YtbmbmcdaabhgnaaDoor
end
section
set_option linter.unusedVariables false
set_option linter.unusedSimpArgs false
namespace Go.Proofs.YtbmbmcdaabhgnaaDoor
namespace V
open Go.RowKit
theorem mle_mr {w0 w : World} {I0 I : Nat → Nat → Prop} {B : Nat → Value} {m M' : Mem} (hm : MR w0 I0 B I m w) (hle : MLe m M') (hw : WFm M') : MR w0 I0 B I M' w := by
  have hsome : ∀ j o, M' j = some o → m j = some o := fun j o ho => by
    rcases hle j with q | q
    · rw [q] at ho; cases ho
    · exact q.symm.trans ho
  exact ⟨hm.below, hm.glob, hm.base, hm.old, hm.there, fun j o ho => hm.objs j o (hsome j o ho), fun j o ho => hm.low j o (hsome j o ho), fun j o j' o' ho ho' => hm.apart j o j' o' (hsome j o ho) (hsome j' o' ho'), fun j o ho i hi => hw j o ho i hi⟩
def CallDf (P : Go.Program) (f : FuncId) (args : List A) (M : Mem) (D : List Nat) (M' : Mem) : Prop :=
  (∀ args w, (callFunc f args).run P w = .ok (.enter f args) w) ∧ (∀ j, (M j).isSome = true → (M' j).isSome = true) ∧ (WFm M → WFm M') ∧
  ∀ (w0 : World) (I0 : Nat → Nat → Prop) (B : Nat → Value) (I : Nat → Nat → Prop) (w : World) (vals : List Value) (u : FrameMode), MR w0 I0 B I M w → RVl B w I args vals →
    CallsD P f vals.toArray u w fun e u' w' => u' = u ∧ ∃ v B' I', e = .returned v ∧ MR w0 I0 B' I' M' w' ∧ Ext w w' I I' ∧ ∀ j, (M j).isSome = true → j ∉ D → B' j = B j
theorem ok_effDf {P : Go.Program} {T : Tab} (hT : T.Ok P) {f : FuncId} {fn : Func} {c : Code} {l : List ResultVar} {args : List A} {M : Mem} (D : List Nat) {r : A} {M' : Mem} (hf : P.funcs[f]? = some fn) (hn : (fn.name == "runtime.NumGoroutine") = false) (hb : fn.body = some c) (hl : fn.results.toList = l)
    (hle : decide (args.length ≤ fn.ntmps ∧ fn.ntmps ≤ DID) = true) (hdf : args.all (fun a => !(match a with | .defs _ => true | _ => false)) = true) (hids : ∀ a ∈ args, ∀ j ∈ a.ids, (M j).isSome = true) (hsub : ∀ j, (M j).isSome = true → (M' j).isSome = true) (hwm : WFm M → WFm M')
    (hW : WFm M → ∀ R : Ref, R.keep = (fun j => (M j).isSome = true ∧ j ∉ D) → W P R fn.ntmps [] ⟨entry args, M⟩ c (fun e st => (e = .normal ∨ e = .ret) ∧ dfs (st.s DID) = [] ∧ resE T st l = some r ∧ MLe st.m M')) : CallDf P f args M D M' := by
  refine ⟨enters_of hf hn hb, hsub, hwm, ?_⟩
  intro w0 I0 B I w vals u hm hv
  have hWF : WFm M := hm.live
  have hd2 : ∀ a ∈ args, ∀ l, a ≠ .defs l := fun a ha l e => by have := List.all_eq_true.1 hdf a ha; subst e; simp at this
  obtain ⟨hl1, hl2⟩ := of_decide_eq_true hle
  have hlen := rvl_len hv
  refine callsD_of_wp (R := fun e w' => ∃ v B' I', e = .returned v ∧ MR w0 I0 B' I' M' w' ∧ Ext w w' I I' ∧ ∀ j, (M j).isSome = true → j ∉ D → B' j = B j) hf hb ?_
  have h0 : SR ⟨w0, I0, w, I, B, fun j => (M j).isSome = true ∧ j ∉ D⟩ fn.ntmps [] ⟨entry args, M⟩ { tmps := vals.toArray ++ Array.replicate (fn.ntmps - vals.toArray.size) undef, defers := [] } w := by
    refine ⟨⟨B, I, hm, Ext.refl _ _, fun _ _ => rfl, rvl_entry hv⟩, fun t i hi => ?_, by simp [hlen]; omega, hl2, by rw [show dfs ((⟨entry args, M⟩ : St).s DID) = [] from entry_dfs (fun a ha l e => by subst e; exact hd2 _ ha l rfl)]; rfl, fun i hi => hi.1⟩
    simp only [entry, List.getD_eq_getElem?_getD] at hi
    cases hx : args[t]? with
    | none => rw [hx] at hi; simp [A.ids] at hi
    | some a => rw [hx] at hi; exact hids a (List.mem_of_getElem? hx) i hi
  refine wp_mono (hW hWF _ rfl _ w h0) ?_
  rintro e a' w' ⟨st', ⟨he, hdn, hres, hle2⟩, ⟨⟨B', I', hm', hx', hkp', hs'⟩, -, -, -, hds, -⟩⟩
  rw [hdn] at hds
  obtain ⟨v, h1, h2⟩ := resE_snd hT hm' hs' hl hres
  have key : a'.defers = [] ∧ ∃ v, (results fn a'.tmps).run P w' = .ok v w' ∧ ∃ v' B' I', Ending.returned v = .returned v' ∧ MR w0 I0 B' I' M' w' ∧ Ext w w' I I' ∧ ∀ j, (M j).isSome = true → j ∉ D → B' j = B j :=
    ⟨hds, v, h1, v, B', I', rfl, mle_mr hm' hle2 (hwm hWF), hx', fun j hj hd => hkp' j ⟨hj, hd⟩⟩
  rcases he with rfl | rfl
  · exact key
  · exact key
end V
end Go.Proofs.YtbmbmcdaabhgnaaDoor
end
section
namespace Go.Proofs.YtbmbmcdaabhgnaaDoor
namespace V
open Go.RowKit
set_option linter.unusedSimpArgs false
def cStr (s : ByteArray) : List C := [.str s]
end V
end Go.Proofs.YtbmbmcdaabhgnaaDoor
end
section
set_option linter.unusedVariables false
set_option linter.unusedSimpArgs false
namespace Go.Proofs.YtbmbmcdaabhgnaaDoor
namespace V
open Go.RowKit
def txtB (l : List ByteArray) : List UInt8 := l.flatMap fun s => s.data.toList
theorem txtB_snoc (l : List ByteArray) (s : ByteArray) : txtB (l ++ [s]) = txtB l ++ s.data.toList := by simp [txtB]
theorem txtB_le (l : List ByteArray) (k : Nat) : (txtB (l.take k)).length ≤ (txtB l).length := by
  have : txtB l = txtB (l.take k) ++ txtB (l.drop k) := by unfold txtB; rw [← List.flatMap_append, List.take_append_drop]
  rw [this, List.length_append]; omega
def layU (u : Bool) (l : List ByteArray) : Bool := u || !l.isEmpty
theorem layU_take (u : Bool) {l : List ByteArray} {k : Nat} {s : ByteArray} (h : l[k]? = some s) : layU u (l.take (k + 1)) = true := by
  rw [List.take_add_one, h]; simp [layU]
set_option maxHeartbeats 1000000 in
theorem lay_W {M : Mem} {j q : Nat} {u : Bool} {t : Int} {bs : List UInt8} (h : PgAt M j q u t bs) (l : List ByteArray) (hl : l.length ≤ 1000000000) (hs : bs.length + (txtB l).length ≤ 140737488355328) {c : Code} (hc : (Tryd.f23).body = some c) (hWF : WFm M) (Rr : Ref) (hkeep : Rr.keep = (fun i => (M i).isSome = true ∧ i ∉ [q])) :
    W Tryd.prog Rr (Tryd.f23).ntmps [] ⟨entry [.ptr j 0, .c (.sl (l.map cStr))], M⟩ c (fun e st => (e = .normal ∨ e = .ret) ∧ dfs (st.s DID) = [] ∧ resE tab st (Tryd.f23).results.toList = some (.tup []) ∧ MLe st.m (pgM M j q (layU u l) t (bs ++ txtB l))) := by
  obtain rfl : _ = c := Option.some.inj hc
  have hjs : (M j).isSome = true := by rw [h.box]; rfl
  have nkq : ¬ Rr.keep q := by rw [hkeep]; intro hh; exact hh.2 (by simp)
  have kept : ∀ i, Rr.keep i → (M i).isSome = true := fun i hi => by rw [hkeep] at hi; exact hi.1
  repeat (first | refine W.seq ?_ | refine W.block ?_ | refine W.skip ?_ | refine W.exit ?_ | refine W.region tab_ok 0 (by decide) (exec_run (by simp only [exa, beq_self_eq_true, ByteArray.size, Nat.reduceAdd, Nat.reduceLeDiff, Nat.reduceEqDiff, Nat.reduceMul, Int.reduceToNat, reduceIte, Int.reduceLE, Int.reduceNeg]; rfl)) ?_)
  refine W.loop (ι := Nat) (fun k => ⟨upd (upd (upd (upd (fun _ => .top) 0 (.ptr j 0)) 6 (.c (.sl (l.map cStr)))) 7 (.c (.int .i64 l.length))) 8 (.c (.int .i64 k)), pgM M j q (layU u (l.take k)) t (bs ++ txtB (l.take k))⟩) (fun k => k ≤ l.length) (fun k => l.length - k) 0 ?start (Nat.zero_le _) ?round
  case start =>
    refine le_mk ?sle ?mle ?swf ?mwf (fun i hi => pgM_live i (kept i hi)) (by rfl)
    case swf => repeat (first | exact swf_top _ | refine swf_upd ?_ (by intro i hi; simp [A.ids] at hi; first | (subst hi; exact pgM_live _ hjs) | done))
    case mwf => exact pgM_wf h hWF
    case mle =>
      have e : pgM M j q (layU u (l.take 0)) t (bs ++ txtB (l.take 0)) = M := by
        have : layU u (l.take 0) = u := by simp [layU]
        rw [this]; simp only [List.take_zero, txtB, List.flatMap_nil, List.append_nil]; exact pgM_same h
      exact mle_refl' e.symm
    case sle => repeat (first | exact sle_top _ | exact sle_refl _ | refine sle_upd ?_ (by first | rfl | (simp only [upd_app, killS_app, A.kill, entry_zero, entry_succ, Nat.reduceEqDiff, reduceIte, List.length_map]; done)))
  case round =>
    intro k hk
    repeat (first | refine W.seq ?_ | refine W.block ?_ | refine W.skip ?_ | refine W.exit ?_ | refine W.region tab_ok 0 (by decide) (exec_run (by simp only [exa, beq_self_eq_true, ByteArray.size, Nat.reduceAdd, Nat.reduceLeDiff, Nat.reduceEqDiff, Nat.reduceMul, Int.reduceToNat, reduceIte, Int.reduceLE, Int.reduceNeg]; rfl)) ?_)
    refine W.cond rfl ?_ ?_
    · intro hlt
      simp only [decide_eq_true_eq, Int.ofNat_lt] at hlt
      obtain ⟨s, hx⟩ : ∃ s, l[k]? = some s := ⟨_, List.getElem?_eq_getElem hlt⟩
      have htk : txtB (l.take (k + 1)) = txtB (l.take k) ++ s.data.toList := by rw [List.take_add_one, hx]; exact txtB_snoc _ _
      have hle := txtB_le l (k + 1)
      rw [htk, List.length_append] at hle
      have hsz : s.data.toList.length = s.size := by rw [Array.length_toList]; rfl
      have hw := writeS_ok (h.pgM (u' := layU u (l.take k)) (t' := t) (bs' := bs ++ txtB (l.take k))) s (by rw [List.length_append]; omega)
      rw [pgM_pgM h.ne, List.append_assoc, ← htk] at hw
      have hu := layU_take u hx
      repeat (first | refine W.seq ?_ | refine W.block ?_ | refine W.skip ?_ | refine W.exit ?_ | refine W.region tab_ok 0 (by decide) (exec_run (by simp only [exa, beq_self_eq_true, ByteArray.size, Nat.reduceAdd, Nat.reduceLeDiff, Nat.reduceEqDiff, Nat.reduceMul, Int.reduceToNat, reduceIte, Int.reduceLE, Int.reduceNeg, at_map hx, cStr]; rfl)) ?_)
      (repeat (first | refine W.seq ?_ | refine W.block ?_ | refine W.skip ?_))
      refine W.regionK tab_ok 0 (by decide) ?_
      refine runk_split 4 (by simp only [exa, beq_self_eq_true, ByteArray.size, Nat.reduceAdd, Nat.reduceLeDiff, Nat.reduceEqDiff, Nat.reduceMul, Int.reduceToNat, reduceIte, Int.reduceLE, Int.reduceNeg]; rfl) ?_
      refine runk_callE (D := [q]) rfl rfl rfl rfl rfl (fun i hi => by simp at hi; subst hi; exact nkq) (by simp) (cvs_cons cv_refl (cvs_cons cv_refl cvs_nil)) hw ?_
      simp only [killL, putS]
      refine runk_exec (by simp only [exa, beq_self_eq_true, ByteArray.size, Nat.reduceAdd, Nat.reduceLeDiff, Nat.reduceEqDiff, Nat.reduceMul, Int.reduceToNat, reduceIte, Int.reduceLE, Int.reduceNeg]; rfl) ?_
      repeat (first | refine W.seq ?_ | refine W.block ?_ | refine W.skip ?_ | refine W.exit ?_ | refine W.region tab_ok 0 (by decide) (exec_run (by simp only [exa, beq_self_eq_true, ByteArray.size, Nat.reduceAdd, Nat.reduceLeDiff, Nat.reduceEqDiff, Nat.reduceMul, Int.reduceToNat, reduceIte, Int.reduceLE, Int.reduceNeg]; rfl)) ?_)
      refine ⟨k + 1, hlt, by omega, ?_⟩
      rw [hu]
      refine le_mk ?sle ?mle ?swf ?mwf (fun i hi => pgM_live i (kept i hi)) (by rfl)
      case swf => repeat (first | exact swf_top _ | refine swf_upd ?_ (by intro i hi; simp [A.ids] at hi; first | (subst hi; exact pgM_live _ hjs) | done))
      case mwf => exact pgM_wf h hWF
      case mle => exact mle_refl _
      case sle => repeat (first | exact sle_top _ | exact sle_refl _ | refine sle_upd ?_ (by first | rfl | (simp only [upd_app, killS_app, A.kill, entry_zero, entry_succ, Nat.reduceEqDiff, reduceIte, h.ne, if_false, wrap_succ (show k + 1 < 9223372036854775808 by omega)]; done)))
    · intro hge
      simp only [decide_eq_false_iff_not, Int.ofNat_lt] at hge
      obtain rfl : k = l.length := by omega
      rw [List.take_length]
      repeat (first | refine W.seq ?_ | refine W.block ?_ | refine W.skip ?_ | refine W.exit ?_ | refine W.region tab_ok 0 (by decide) (exec_run (by simp only [exa, beq_self_eq_true, ByteArray.size, Nat.reduceAdd, Nat.reduceLeDiff, Nat.reduceEqDiff, Nat.reduceMul, Int.reduceToNat, reduceIte, Int.reduceLE, Int.reduceNeg]; rfl)) ?_)
      exact ⟨.inl rfl, by rfl, by rfl, mle_refl _⟩
theorem lay_ok {M : Mem} {j q : Nat} {u : Bool} {t : Int} {bs : List UInt8} (h : PgAt M j q u t bs) (l : List ByteArray) (hl : l.length ≤ 1000000000) (hs : bs.length + (txtB l).length ≤ 140737488355328) :
    CallE Tryd.prog 23 [.ptr j 0, .c (.sl (l.map cStr))] M [q] (.tup []) (pgM M j q (layU u l) t (bs ++ txtB l)) := by
  have hjs : (M j).isSome = true := by rw [h.box]; rfl
  refine (ok_eff tab_ok [q] Tryd.func23 (by kernel_rfl) rfl rfl (by rfl) (by rfl) ?ids ?res pgM_live (pgM_wf h) (fun hWF Rr hkeep => lay_W h l hl hs rfl hWF Rr hkeep))
  case ids => intro a ha i hi; simp at ha; rcases ha with rfl | rfl <;> simp [A.ids] at hi; subst hi; exact hjs
  case res => intro i hi; simp [A.ids] at hi
theorem lay_df {M : Mem} {j q : Nat} {u : Bool} {t : Int} {bs : List UInt8} (h : PgAt M j q u t bs) (l : List ByteArray) (hl : l.length ≤ 1000000000) (hs : bs.length + (txtB l).length ≤ 140737488355328) :
    CallDf Tryd.prog 23 [.ptr j 0, .c (.sl (l.map cStr))] M [q] (pgM M j q (layU u l) t (bs ++ txtB l)) := by
  have hjs : (M j).isSome = true := by rw [h.box]; rfl
  refine (ok_effDf tab_ok [q] Tryd.func23 (by kernel_rfl) rfl rfl (by rfl) (by rfl) ?ids pgM_live (pgM_wf h) (fun hWF Rr hkeep => lay_W h l hl hs rfl hWF Rr hkeep))
  case ids => intro a ha i hi; simp at ha; rcases ha with rfl | rfl <;> simp [A.ids] at hi; subst hi; exact hjs
end V
end Go.Proofs.YtbmbmcdaabhgnaaDoor
end
section
set_option linter.unusedVariables false
set_option linter.unusedSimpArgs false
namespace Go.Proofs.YtbmbmcdaabhgnaaDoor
namespace V
open Go.RowKit
def ExprAt (x : Expr) : Prop := ∀ (M : Mem) (j q : Nat) (u : Bool) (t : Int) (bs : List UInt8) (b : Nat) (want : Int), PgAt M j q u t bs → (∀ d, M (b + d) = none) → bs.length + (exprX x want).length ≤ 140737488355328 →
  CallE Tryd.prog 16 [.ptr j 0, .agg (cExpr x), .c (.int .i64 want)] M [q] (.tup []) (pgM M j q true t (bs ++ exprX x want))
theorem PgAt.new {M : Mem} {j q i : Nat} {u : Bool} {t : Int} {bs : List UInt8} {o : O} (h : PgAt M j q u t bs) (hi : M i = none) (ho : O.kill q o = o) : PgAt (upd M i (some o)) j q u t bs := by
  have hj : j ≠ i := fun e => by have := h.box; rw [e, hi] at this; cases this
  have hq : q ≠ i := fun e => by have := h.row; rw [e, hi] at this; cases this
  refine ⟨by rw [upd_ne _ _ hj]; exact h.box, by rw [upd_ne _ _ hq]; exact h.row, h.ne, fun k o' hk hkj => ?_⟩
  by_cases e : k = i
  · subst e; rw [upd_same] at hk; cases hk; exact ho
  · rw [upd_ne _ _ e] at hk; exact h.only k o' hk hkj
theorem pgM_upd {M : Mem} {j q i : Nat} {u : Bool} {t : Int} {bs : List UInt8} {o : Option O} (hj : j ≠ i) (hq : q ≠ i) : pgM (upd M i o) j q u t bs = upd (pgM M j q u t bs) i o := by
  funext k
  unfold pgM upd
  by_cases e1 : k = q
  · subst e1; simp [hq]
  · by_cases e2 : k = j
    · subst e2; simp [hj, e1]
    · simp [e1, e2]
theorem pgM_none {M : Mem} {j q i : Nat} {u u' : Bool} {t t' : Int} {bs bs' : List UInt8} (h : PgAt M j q u t bs) (hi : M i = none) : pgM M j q u' t' bs' i = none := by
  have hj : i ≠ j := fun e => by have := h.box; rw [← e, hi] at this; cases this
  have hq : i ≠ q := fun e => by have := h.row; rw [← e, hi] at this; cases this
  unfold pgM
  rw [upd_ne _ _ hq, upd_ne _ _ hj, hi]
theorem mle_off {m : Mem} {i : Nat} {o : O} (hi : m i = none) : MLe (upd m i (some o)) m := fun k => by
  by_cases e : k = i
  · subst e; exact .inl hi
  · exact .inr (upd_ne _ _ e).symm
theorem mle_eq {m a b : Mem} (e : b = a) (h : MLe m a) : MLe m b := e ▸ h
set_option maxHeartbeats 2000000 in
theorem list_ok {M : Mem} {j q b : Nat} {u : Bool} {t : Int} {bs : List UInt8} (h : PgAt M j q u t bs) (hM : ∀ d, M (b + d) = none) (l : List Expr) (hx : ∀ x ∈ l, ExprAt x) (e : ByteArray) (hl : l.length ≤ 1000000000) (hs : bs.length + (listE l).length + e.size ≤ 140737488355328) :
    CallE Tryd.prog 40 [.ptr j 0, .c (.sl (l.map cExpr)), .c (.str e)] M [q] (.tup []) (pgM M j q true t (bs ++ listE l ++ e.data.toList)) := by
  have hjs : (M j).isSome = true := by rw [h.box]; rfl
  have hqs : (M q).isSome = true := by rw [h.row]; rfl
  have bj : ∀ d, j ≠ b + d := fun d k => by have := hM d; rw [← k] at this; rw [this] at hjs; cases hjs
  have bq : ∀ d, q ≠ b + d := fun d k => by have := hM d; rw [← k] at this; rw [this] at hqs; cases hqs
  refine (ok_eff tab_ok [q] Tryd.func40 (by kernel_rfl) rfl rfl (by rfl) (by rfl) ?ids ?res ?sub ?wfm (fun hWF Rr hkeep => ?_))
  case ids => intro a ha i hi; simp at ha; rcases ha with rfl | rfl | rfl <;> simp [A.ids] at hi; subst hi; exact hjs
  case res => intro i hi; simp [A.ids] at hi
  case sub => exact pgM_live
  case wfm => exact pgM_wf h
  have nkq : ¬ Rr.keep q := by rw [hkeep]; intro hh; exact hh.2 (by simp)
  have kept : ∀ i, Rr.keep i → (M i).isSome = true := fun i hi => by rw [hkeep] at hi; exact hi.1
  have jq : (j = q) = False := eq_false h.ne
  repeat (first | refine W.seq ?_ | refine W.block ?_ | refine W.skip ?_ | refine W.exit ?_ | refine W.region tab_ok b (by decide) (exec_run (by simp only [exa, beq_self_eq_true, ByteArray.size, Nat.reduceAdd, Nat.reduceLeDiff, Nat.reduceEqDiff, Nat.reduceMul, Int.reduceToNat, reduceIte, Int.reduceLE, Int.reduceNeg]; rfl)) ?_)
  refine W.loop (ι := Nat) (fun k => ⟨upd (upd (upd (upd (upd (fun _ => .top) 0 (.ptr j 0)) 2 (.c (.str e))) 8 (.c (.sl (l.map cExpr)))) 9 (.c (.int .i64 l.length))) 10 (.c (.int .i64 k)), pgM M j q (u || decide (0 < k)) t (bs ++ commaX ((l.map (exprX · 1)).take k))⟩) (fun k => k ≤ l.length) (fun k => l.length - k) 0 ?start (Nat.zero_le _) ?round
  case start =>
    refine le_mk ?sle ?mle ?swf ?mwf (fun i hi => pgM_live i (kept i hi)) (by rfl)
    case swf => repeat (first | exact swf_top _ | refine swf_upd ?_ (by intro i hi; simp [A.ids] at hi; first | (subst hi; exact pgM_live _ hjs) | done))
    case mwf => exact pgM_wf h hWF
    case mle =>
      have e : pgM M j q (u || decide (0 < 0)) t (bs ++ commaX ((l.map (exprX · 1)).take 0)) = M := by
        simp only [Nat.lt_irrefl, decide_false, Bool.or_false, List.take_zero, commaX, List.append_nil]; exact pgM_same h
      exact mle_refl' e.symm
    case sle => repeat (first | exact sle_top _ | exact sle_refl _ | refine sle_upd ?_ (by first | rfl | (simp only [upd_app, killS_app, A.kill, entry_zero, entry_succ, Nat.reduceEqDiff, reduceIte, List.length_map]; done)))
  case round =>
    intro k hk
    repeat (first | refine W.seq ?_ | refine W.block ?_ | refine W.skip ?_ | refine W.exit ?_ | refine W.region tab_ok b (by decide) (exec_run (by simp only [exa, beq_self_eq_true, ByteArray.size, Nat.reduceAdd, Nat.reduceLeDiff, Nat.reduceEqDiff, Nat.reduceMul, Int.reduceToNat, reduceIte, Int.reduceLE, Int.reduceNeg]; rfl)) ?_)
    refine W.cond rfl ?_ ?_
    · intro hlt
      simp only [decide_eq_true_eq, Int.ofNat_lt] at hlt
      obtain ⟨x, hxk⟩ : ∃ x, l[k]? = some x := ⟨_, List.getElem?_eq_getElem hlt⟩
      have htk := commaX_take hxk
      have hle := commaX_le (l.map (exprX · 1)) (k + 1)
      have hlE : (listE l).length = (commaX (l.map (exprX · 1))).length := rfl
      have hlen := congrArg List.length htk
      simp only [List.length_append] at hlen
      have b7 := hM 7
      obtain ⟨u1, hu1⟩ : ∃ u1, u1 = (u || decide (0 < k)) := ⟨_, rfl⟩
      obtain ⟨b1, hb1⟩ : ∃ b1, b1 = bs ++ commaX ((l.map (exprX · 1)).take k) := ⟨_, rfl⟩
      have hlb : b1.length = bs.length + (commaX ((l.map (exprX · 1)).take k)).length := by rw [hb1, List.length_append]
      rw [← hu1, ← hb1]
      obtain ⟨xk, xn, xm, xs⟩ := x
      have hf7 : pgM M j q u1 t b1 (b + 7) = none := pgM_none h b7
      have hp1 : PgAt (pgM M j q u1 t b1) j q u1 t b1 := h.pgM
      have b7j : (b + 7 = j) = False := eq_false (Ne.symm (bj 7))
      have b7q : (b + 7 = q) = False := eq_false (Ne.symm (bq 7))
      have jb7 : (j = b + 7) = False := eq_false (bj 7)
      repeat (first | refine W.seq ?_ | refine W.block ?_ | refine W.skip ?_ | refine W.exit ?_ | refine W.region tab_ok b (by decide) (exec_run (by simp only [exa, beq_self_eq_true, ByteArray.size, Nat.reduceAdd, Nat.reduceLeDiff, Nat.reduceEqDiff, Nat.reduceMul, Int.reduceToNat, reduceIte, Int.reduceLE, Int.reduceNeg, at_map hxk, cExpr, hf7]; rfl)) ?_)
      simp only [upd_upd]
      refine W.cond rfl ?_ ?_
      · intro hk0
        simp only [decide_eq_true_eq] at hk0
        have hk0 : k ≠ 0 := by omega
        rw [if_neg hk0] at htk hlen
        simp only [List.length_cons, List.length_nil] at hlen
        have hl := lay_ok (hp1.new hf7 (o := .box 24 [.c (.int .i64 xk), .c (.int .i64 xn), .c (.str xm), .c (.sl (cExprs xs))]) rfl) [⟨#[44, 32]⟩] (by decide) (by simp [txtB]; omega)
        rw [pgM_upd (bj 7) (bq 7), pgM_pgM h.ne, show layU u1 [(⟨#[44, 32]⟩ : ByteArray)] = true by simp [layU]] at hl
        obtain ⟨b2, hb2⟩ : ∃ b2, b2 = b1 ++ txtB [(⟨#[44, 32]⟩ : ByteArray)] := ⟨_, rfl⟩
        rw [← hb2] at hl
        have hb2' : b2 = b1 ++ [44, 32] := by rw [hb2]; rfl
        (repeat (first | refine W.seq ?_ | refine W.block ?_ | refine W.skip ?_))
        refine W.regionK tab_ok b (by decide) ?_
        refine runk_split 2 (by simp only [exa, beq_self_eq_true, ByteArray.size, Nat.reduceAdd, Nat.reduceLeDiff, Nat.reduceEqDiff, Nat.reduceMul, Int.reduceToNat, reduceIte, Int.reduceLE, Int.reduceNeg]; rfl) ?_
        refine runk_callE (D := [q]) rfl rfl rfl rfl rfl (fun i hi => by simp at hi; subst hi; exact nkq) (by simp) (cvs_cons cv_refl (cvs_cons cv_refl cvs_nil)) hl ?_
        simp only [killL, putS]
        refine runk_exec (by simp only [exa, beq_self_eq_true, ByteArray.size, Nat.reduceAdd, Nat.reduceLeDiff, Nat.reduceEqDiff, Nat.reduceMul, Int.reduceToNat, reduceIte, Int.reduceLE, Int.reduceNeg]; rfl) ?_
        have hw := hx _ (List.mem_of_getElem? hxk) (upd (pgM M j q true t b2) (b + 7) (some (.box 24 [.c (.int .i64 xk), .c (.int .i64 xn), .c (.str xm), .c (.sl (cExprs xs))]))) j q true t b2 (b + 8) 1 (h.pgM.new (pgM_none h b7) rfl) (fun d => by rw [upd_ne _ _ (by omega), Nat.add_assoc]; exact pgM_none h (hM _)) (by rw [hb2', List.length_append]; simp only [List.length_cons, List.length_nil]; omega)
        rw [pgM_upd (bj 7) (bq 7), pgM_pgM h.ne] at hw
        (repeat (first | refine W.seq ?_ | refine W.block ?_ | refine W.skip ?_))
        refine W.regionK tab_ok b (by decide) ?_
        refine runk_split 2 (by simp only [exa, beq_self_eq_true, ByteArray.size, Nat.reduceAdd, Nat.reduceLeDiff, Nat.reduceEqDiff, Nat.reduceMul, Int.reduceToNat, reduceIte, Int.reduceLE, Int.reduceNeg, upd_same, killS_app, A.kill, jq, b7q, if_false, cExpr]; rfl) ?_
        refine runk_callE (D := [q]) rfl rfl rfl rfl rfl (fun i hi => by simp at hi; subst hi; exact nkq) (by simp) (cvs_cons cv_refl (cvs_cons cv_refl (cvs_cons cv_refl cvs_nil))) hw ?_
        simp only [killL, putS]
        refine runk_exec (by simp only [exa, beq_self_eq_true, ByteArray.size, Nat.reduceAdd, Nat.reduceLeDiff, Nat.reduceEqDiff, Nat.reduceMul, Int.reduceToNat, reduceIte, Int.reduceLE, Int.reduceNeg]; rfl) ?_
        repeat (first | refine W.seq ?_ | refine W.block ?_ | refine W.skip ?_ | refine W.exit ?_ | refine W.region tab_ok b (by decide) (exec_run (by simp only [exa, beq_self_eq_true, ByteArray.size, Nat.reduceAdd, Nat.reduceLeDiff, Nat.reduceEqDiff, Nat.reduceMul, Int.reduceToNat, reduceIte, Int.reduceLE, Int.reduceNeg, killS_app, A.kill, jq, b7q, if_false]; rfl)) ?_)
        refine ⟨k + 1, hlt, by omega, ?_⟩
        rw [show (u || decide (0 < k + 1)) = true by simp]
        refine le_mk ?sle ?mle ?swf ?mwf (fun i hi => pgM_live i (kept i hi)) (by rfl)
        case swf => repeat (first | exact swf_top _ | refine swf_upd ?_ (by intro i hi; simp [A.ids] at hi; first | (subst hi; exact pgM_live _ hjs) | done))
        case mwf => exact pgM_wf h hWF
        case mle => exact mle_eq (congrArg (pgM M j q true t) (by rw [htk, hb2', hb1]; simp [List.append_assoc])) (mle_off (pgM_none h b7))
        case sle => repeat (first | exact sle_top _ | exact sle_refl _ | refine sle_upd ?_ (by first | rfl | (simp only [upd_app, killS_app, A.kill, entry_zero, entry_succ, Nat.reduceEqDiff, reduceIte, h.ne, if_false, wrap_succ (show k + 1 < 9223372036854775808 by omega)]; done)))
      · intro hk0
        simp only [decide_eq_false_iff_not] at hk0
        have hk0 : k = 0 := by omega
        rw [if_pos hk0] at htk hlen
        simp only [List.length_nil] at hlen
        (repeat (first | refine W.seq ?_ | refine W.block ?_ | refine W.skip ?_))
        have hw := hx _ (List.mem_of_getElem? hxk) (upd (pgM M j q u1 t b1) (b + 7) (some (.box 24 [.c (.int .i64 xk), .c (.int .i64 xn), .c (.str xm), .c (.sl (cExprs xs))]))) j q u1 t b1 (b + 8) 1 (h.pgM.new (pgM_none h b7) rfl) (fun d => by rw [upd_ne _ _ (by omega), Nat.add_assoc]; exact pgM_none h (hM _)) (by omega)
        rw [pgM_upd (bj 7) (bq 7), pgM_pgM h.ne] at hw
        (repeat (first | refine W.seq ?_ | refine W.block ?_ | refine W.skip ?_))
        refine W.regionK tab_ok b (by decide) ?_
        refine runk_split 2 (by simp only [exa, beq_self_eq_true, ByteArray.size, Nat.reduceAdd, Nat.reduceLeDiff, Nat.reduceEqDiff, Nat.reduceMul, Int.reduceToNat, reduceIte, Int.reduceLE, Int.reduceNeg, upd_same, killS_app, A.kill, jq, b7q, if_false, cExpr]; rfl) ?_
        refine runk_callE (D := [q]) rfl rfl rfl rfl rfl (fun i hi => by simp at hi; subst hi; exact nkq) (by simp) (cvs_cons cv_refl (cvs_cons cv_refl (cvs_cons cv_refl cvs_nil))) hw ?_
        simp only [killL, putS]
        refine runk_exec (by simp only [exa, beq_self_eq_true, ByteArray.size, Nat.reduceAdd, Nat.reduceLeDiff, Nat.reduceEqDiff, Nat.reduceMul, Int.reduceToNat, reduceIte, Int.reduceLE, Int.reduceNeg]; rfl) ?_
        repeat (first | refine W.seq ?_ | refine W.block ?_ | refine W.skip ?_ | refine W.exit ?_ | refine W.region tab_ok b (by decide) (exec_run (by simp only [exa, beq_self_eq_true, ByteArray.size, Nat.reduceAdd, Nat.reduceLeDiff, Nat.reduceEqDiff, Nat.reduceMul, Int.reduceToNat, reduceIte, Int.reduceLE, Int.reduceNeg, killS_app, A.kill, jq, b7q, if_false]; rfl)) ?_)
        refine ⟨k + 1, hlt, by omega, ?_⟩
        rw [show (u || decide (0 < k + 1)) = true by simp]
        refine le_mk ?sle ?mle ?swf ?mwf (fun i hi => pgM_live i (kept i hi)) (by rfl)
        case swf => repeat (first | exact swf_top _ | refine swf_upd ?_ (by intro i hi; simp [A.ids] at hi; first | (subst hi; exact pgM_live _ hjs) | done))
        case mwf => exact pgM_wf h hWF
        case mle => exact mle_eq (congrArg (pgM M j q true t) (by rw [htk, hb1]; simp [List.append_assoc])) (mle_off (pgM_none h b7))
        case sle => repeat (first | exact sle_top _ | exact sle_refl _ | refine sle_upd ?_ (by first | rfl | (simp only [upd_app, killS_app, A.kill, entry_zero, entry_succ, Nat.reduceEqDiff, reduceIte, h.ne, if_false, wrap_succ (show k + 1 < 9223372036854775808 by omega)]; done)))
    · intro hge
      simp only [decide_eq_false_iff_not, Int.ofNat_lt] at hge
      obtain rfl : k = l.length := by omega
      rw [List.take_of_length_le (by simp)]
      repeat (first | refine W.seq ?_ | refine W.block ?_ | refine W.skip ?_ | refine W.exit ?_ | refine W.region tab_ok b (by decide) (exec_run (by simp only [exa, beq_self_eq_true, ByteArray.size, Nat.reduceAdd, Nat.reduceLeDiff, Nat.reduceEqDiff, Nat.reduceMul, Int.reduceToNat, reduceIte, Int.reduceLE, Int.reduceNeg]; rfl)) ?_)
      (repeat (first | refine W.seq ?_ | refine W.block ?_ | refine W.skip ?_))
      refine W.regionK tab_ok b (by decide) ?_
      have hw := lay_ok (h.pgM (u' := (u || decide (0 < l.length))) (t' := t) (bs' := bs ++ commaX (l.map (exprX · 1)))) [e] (by simp) (by simp [txtB]; simp [listE] at hs; omega)
      rw [show layU (u || decide (0 < l.length)) [e] = true by simp [layU], pgM_pgM h.ne] at hw
      refine runk_split 3 (by simp only [exa, beq_self_eq_true, ByteArray.size, Nat.reduceAdd, Nat.reduceLeDiff, Nat.reduceEqDiff, Nat.reduceMul, Int.reduceToNat, reduceIte, Int.reduceLE, Int.reduceNeg]; rfl) ?_
      refine runk_callE (D := [q]) rfl rfl rfl rfl rfl (fun i hi => by simp at hi; subst hi; exact nkq) (by simp) (cvs_cons cv_refl (cvs_cons cv_refl cvs_nil)) hw ?_
      simp only [killL, putS]
      refine runk_exec (by simp only [exa, beq_self_eq_true, ByteArray.size, Nat.reduceAdd, Nat.reduceLeDiff, Nat.reduceEqDiff, Nat.reduceMul, Int.reduceToNat, reduceIte, Int.reduceLE, Int.reduceNeg]; rfl) ?_
      refine ⟨by simp, by rfl, by rfl, mle_refl' ?_⟩
      simp [txtB, listE, List.append_assoc]
end V
end Go.Proofs.YtbmbmcdaabhgnaaDoor
end
section
namespace Go.Proofs.YtbmbmcdaabhgnaaDoor
namespace V
open Go.RowKit
section
variable {P : Go.Program} {T : Tab} {base : Nat} {ops : Array Oper} (hT : T.Ok P) {R : Ref} {w : World} {n : Nat} {ds : List Deferred} {l n' : Nat}
include hT
theorem plain_round (hd : ∀ o ∈ ops, ∀ d, o.dst = some d → d < n) (hnd : noDefer ops = true) {Q : Exit → Act → World → Prop} {st' : St} (hQ : ∀ a w, SR R n ds st' a w → Q .normal a w) :
    ∀ (L : List Nat) (st : St) (a : Act) (w : World), Chain P T R.keep base ops L st st' → SR R n ds st a w → wpOpsIn (Fence.wide.inRound l) n' P ops Q L a w
  | [], st, a, w, h, hr => by cases h; exact hQ a w hr
  | i :: L, st, a, w, h, hr => by
    cases h with
    | @cons _ o _ _ st1 _ hi h1 t =>
      unfold wpOpsIn
      simp only [hi]
      have hgo := h1.snd hT hr (hd o (Array.mem_of_getElem? hi)) (K := wpOpsIn (Fence.wide.inRound l) n' P ops Q L) (Q := Q) (fun a' w' hr' => plain_round hd hnd hQ L st1 a' w' t hr')
      split
      · rename_i hw; rw [if_pos hw] at hgo; exact oper_round (noDefer_spec hnd hi) hgo
      · rename_i hw; rw [if_neg hw] at hgo; exact ⟨fun _ _ => trivial, hgo⟩
end
def WI (l n' : Nat) (P : Go.Program) (R : Ref) (n : Nat) (ds : List Deferred) (st : St) (c : Code) (K : Exit → St → Prop) : Prop :=
  ∀ a w, SR R n ds st a w → c.wpIn (Fence.wide.inRound l) n' P (fun e a' w' => ∃ st', K e st' ∧ SR R n ds st' a' w') a w
section
variable {l n' : Nat} {P : Go.Program} {T : Tab} {R : Ref} {n : Nat} {ds : List Deferred} {st : St} {K : Exit → St → Prop}
theorem WI.mono {c : Code} {K' : Exit → St → Prop} (h : WI l n' P R n ds st c K) (hk : ∀ e st', K e st' → K' e st') : WI l n' P R n ds st c K' :=
  fun a w hr => wpIn_mono (h a w hr) fun e _ _ ⟨st', h1, h2⟩ => ⟨st', hk e st' h1, h2⟩
theorem WI.region (hT : T.Ok P) (base : Nat) {id : Nat} {ops : Array Oper} {st' : St} (hd : dstOk n ops = true) (hnd : noDefer ops = true) (h : RunL P T R.keep base ops ops.toList st st') (hk : K .normal st') : WI l n' P R n ds st (.region id ops false) K := fun a w hr =>
  wpIn_region (plain_round hT (dstOk_spec hd) hnd (fun a w hr' => ⟨st', hk, hr'⟩) _ st a w (by rw [range_range']; have := h.chain (k := 0) (by simp); simpa using this) hr)
theorem WI.regionD (hT : T.Ok P) (base : Nat) {id : Nat} {ops : Array Oper} {st' : St} (hm : P.follows .mixedOrders = true) (hok : okRegion T ops = true) (hd : dstOk n ops = true) (hnd : noDefer ops = true) (h : RunL P T R.keep base ops ops.toList st st') (hk : K .normal st') : WI l n' P R n ds st (.region id ops true) K := fun a w hr => by
  refine wpIn_mono (Q := fun e a w => e = .normal ∧ SR R n ds st' a w) (region_round (fun ⟨_, _, h, _⟩ => by cases h) hm hnd (any_snd hT hok (dstOk_spec hd) (fun a w hr' => ⟨rfl, hr'⟩) _ _ (List.range ops.size) st a _ (by simp) (by simp) (List.pairwise_lt_range) (fun i => ?_) (fun k o ho hl => ?_) ?_ (by rw [range_range']; have := h.chain (k := 0) (by simp); simpa using this))) fun e a w h => ⟨st', h.1 ▸ hk, h.2⟩
  · rw [List.mem_range]
    refine ⟨fun hi => ⟨hi, ?_⟩, fun hi => hi.1⟩
    simp [hi]
  · exfalso
    have hk := (Array.getElem?_eq_some_iff.1 ho).1
    simp [hk] at hl
  · obtain ⟨⟨B, I, hmr, hx0, hkp, hs⟩, h2, h3, hnn, h4, h5⟩ := hr
    have hE : Ext w w.drew I I := ⟨fun _ _ k => k, fun _ _ _ => rfl⟩
    exact ⟨⟨B, I, hmr.call (Below.refl _ _).drew, hx0.trans hE, hkp, fun t => (hs t).mono hE fun _ _ => rfl⟩, h2, h3, hnn, h4, h5⟩
theorem WI.seq {x y : Code} (h : WI l n' P R n ds st x (thenK (fun st' => WI l n' P R n ds st' y K) K)) : WI l n' P R n ds st (.seq x y) K := fun a w hr =>
  wpIn_seq (wpIn_mono (h a w hr) fun e a' w' ⟨st', h1, h2⟩ => by
    cases e with
    | normal => exact h1 a' w' h2
    | _ => exact ⟨st', h1, h2⟩)
theorem WI.cond {c : Operand} {x y : Code} {b : Bool} (hc : ev st.s c = .c (.bool b)) (ht : b = true → WI l n' P R n ds st x K) (hf : b = false → WI l n' P R n ds st y K) : WI l n' P R n ds st (.cond c x y) K := fun a w hr => by
  obtain ⟨B, I, hm, -, -, hs⟩ := hr.ex
  have := ev_rv hs c
  rw [hc] at this
  exact wpIn_cond_split (RC.toBool this) (fun e => ht e a w hr) (fun e => hf e a w hr)
theorem WI.block {id : Nat} {c : Code} (h : WI l n' P R n ds st c (blockK id K)) : WI l n' P R n ds st (.block id c) K := fun a w hr =>
  wpIn_block (wpIn_mono (h a w hr) fun e a' w' ⟨st', h1, h2⟩ => by
    cases e with
    | exit j =>
      simp only [blockK, Exit.inBlock] at h1 ⊢
      split
      · rename_i e; rw [if_pos e] at h1; exact ⟨st', h1, h2⟩
      · rename_i e; rw [if_neg e] at h1; exact ⟨st', h1, h2⟩
    | _ => exact ⟨st', h1, h2⟩)
theorem WI.exit {id : Nat} (h : K (.exit id) st) : WI l n' P R n ds st (.exit id) K := fun _ _ hr => wpIn_exit ⟨st, h, hr⟩
theorem WI.ret (h : K .ret st) : WI l n' P R n ds st .ret K := fun _ _ hr => wpIn_ret ⟨st, h, hr⟩
theorem WI.skip (h : K .normal st) : WI l n' P R n ds st .skip K := fun _ _ hr => wpIn_skip ⟨st, h, hr⟩
theorem WI.weaken {st' : St} {c : Code} (hl : Le R.keep st st') (h : WI l n' P R n ds st' c K) : WI l n' P R n ds st c K := fun a w hr => h a w (hr.le hl)
theorem WI.loop {ι : Type} {c : Code} (mk : ι → St) (Inv : ι → Prop) (μ : ι → Nat) (i0 : ι) (hl : Le R.keep st (mk i0)) (h0 : Inv i0)
    (hround : ∀ i, Inv i → WI l n' P R n ds (mk i) c (thenK (fun st' => ∃ i', Inv i' ∧ μ i' < μ i ∧ Le R.keep st' (mk i')) K)) : WI l n' P R n ds st (.loop c) K := by
  refine WI.weaken hl ?_
  intro a w hr
  refine wpIn_loop_ghost (fun k a w => ∃ i, Inv i ∧ μ i = k ∧ SR R n ds (mk i) a w) (μ i0) ⟨i0, h0, rfl, hr⟩ ?_
  rintro k a w ⟨i, hi, rfl, hr⟩
  refine wpIn_mono (hround i hi a w hr) ?_
  rintro e a' w' ⟨st', h1, h2⟩
  cases e with
  | normal =>
    obtain ⟨i', hi', hlt, hle⟩ := h1
    exact ⟨μ i', hlt, i', hi', rfl, h2.le hle⟩
  | _ => exact ⟨st', h1, h2⟩
theorem WI.regionK (hT : T.Ok P) (base : Nat) {id : Nat} {ops : Array Oper} (hd : dstOk n ops = true) (hnd : noDefer ops = true) (h : RunK P T R.keep base ops ops.toList st (K .normal)) : WI l n' P R n ds st (.region id ops false) K :=
  let ⟨_, h1, h2⟩ := h
  WI.region hT base hd hnd h1 h2
theorem WI.regionDK (hT : T.Ok P) (base : Nat) {id : Nat} {ops : Array Oper} (hm : P.follows .mixedOrders = true) (hok : okRegion T ops = true) (hd : dstOk n ops = true) (hnd : noDefer ops = true) (h : RunK P T R.keep base ops ops.toList st (K .normal)) : WI l n' P R n ds st (.region id ops true) K :=
  let ⟨_, h1, h2⟩ := h
  WI.regionD hT base hm hok hd hnd h1 h2
end
end V
end Go.Proofs.YtbmbmcdaabhgnaaDoor
end
section
set_option linter.unusedVariables false
set_option linter.unusedSimpArgs false
namespace Go.Proofs.YtbmbmcdaabhgnaaDoor
namespace V
open Go.RowKit
def Runs (P : Go.Program) (T : Tab) (kp : Nat → Prop) (base : Nat) (ops : Array Oper) (K : St → Prop) : Nat → Array Bool → St → Prop
  | 0, listed, st => Region.ready .any ops listed = [] ∧ K st
  | f + 1, listed, st => (Region.ready .any ops listed = [] → K st) ∧ ∀ i ∈ Region.ready .any ops listed, ∀ o, ops[i]? = some o → ∃ st1, HS P T kp base ops o st st1 ∧ Runs P T kp base ops K f (listed.setIfInBounds i true) st1
section
variable {P : Go.Program} {T : Tab} (hT : T.Ok P) {R : Ref} {w : World} {n base : Nat} {ds : List Deferred} {ops : Array Oper}
include hT in
theorem runs_snd (hd : ∀ o ∈ ops, ∀ d, o.dst = some d → d < n) {K : St → Prop} {Q : Exit → Act → World → Prop} (hQ : ∀ st a w, K st → SR R n ds st a w → Q .normal a w) :
    ∀ (fuel : Nat) (listed : Array Bool) (st : St) (a : Act) (w : World), Runs P T R.keep base ops K fuel listed st → SR R n ds st a w → wpAny P .any ops Q fuel listed a w := by
  intro fuel
  induction fuel with
  | zero =>
    intro listed st a w h hr
    exact ⟨h.1, hQ _ _ _ h.2 hr⟩
  | succ fuel ih =>
    intro listed st a w h hr
    obtain ⟨h0, h1⟩ := h
    constructor
    · intro hnil
      exact hQ _ _ _ (h0 hnil) hr
    · intro i hi
      obtain ⟨-, oi, h2, -⟩ := mem_ready.1 hi
      obtain ⟨st1, h4, h5⟩ := h1 i hi oi h2
      unfold wpOp
      rw [h2]
      have hgo := h4.snd hT hr (hd oi (Array.mem_of_getElem? h2)) (K := wpAny P .any ops Q fuel (listed.setIfInBounds i true)) (Q := Q) (fun a' w' hr' => ih _ _ _ _ h5 hr')
      dsimp only
      split
      · rename_i hw; rw [if_pos hw] at hgo; exact .inl hgo
      · rename_i hw; rw [if_neg hw] at hgo; exact hgo
end
section
variable {P : Go.Program} {T : Tab} {kp : Nat → Prop} {base f : Nat} {ops : Array Oper} {K : St → Prop} {listed : Array Bool} {st st1 st2 : St}
theorem runs_end (hr : Region.ready .any ops listed = []) (hk : K st) : Runs P T kp base ops K f listed st := by
  cases f with
  | zero => exact ⟨hr, hk⟩
  | succ f => exact ⟨fun _ => hk, fun i hi => by rw [hr] at hi; cases hi⟩
theorem run_one {o : Oper} (h : exec T base ops [o] st = some st1) : HS P T kp base ops o st st1 := by
  have := exec_run (P := P) (kp := kp) h
  cases this with
  | cons h t => cases t; exact h
end
section
variable {l n' : Nat} {P : Go.Program} {T : Tab} {R : Ref} {n : Nat} {ds : List Deferred} {st : St} {K : Exit → St → Prop}
end
end V
end Go.Proofs.YtbmbmcdaabhgnaaDoor
end
section
set_option linter.unusedVariables false
set_option linter.unusedSimpArgs false
namespace Go.Proofs.YtbmbmcdaabhgnaaDoor
namespace V
open Go.RowKit
def firstB (T : Tab) (ops : Array Oper) (listed : Array Bool) (i : Nat) : Bool :=
  (Region.ready .any ops listed).contains i && (List.range ops.size).all fun j => j == i || listed.getD j true || (match ops[i]?, ops[j]? with | some oi, some oj => indep T ops oi oj | _, _ => false) || ancB ops ops.size j i
section
variable {P : Go.Program} {T : Tab} {kp : Nat → Prop} {base : Nat} {ops : Array Oper} {K : St → Prop}
theorem getD_set {listed : Array Bool} {i k : Nat} {d : Bool} : (listed.setIfInBounds i true).getD k d = if i = k ∧ i < listed.size then true else listed.getD k d := by
  rw [Array.getD_eq_getD_getElem?, Array.getD_eq_getD_getElem?, Array.getElem?_setIfInBounds]
  by_cases e : i = k
  · subst e
    by_cases h : i < listed.size
    · simp [h]
    · simp [h]
  · simp [e]
theorem closed_set {listed : Array Bool} {i : Nat} (hsz : listed.size = ops.size) (hc : ClosedL ops listed) (hi : i ∈ Region.ready .any ops listed) : ClosedL ops (listed.setIfInBounds i true) := by
  obtain ⟨h1, oi, h2, h3⟩ := mem_ready.1 hi
  have hlt := (Array.getElem?_eq_some_iff.1 h2).1
  intro k o hk hl e he hb
  have up : listed.getD e.on false = true → (listed.setIfInBounds i true).getD e.on false = true := fun h => by
    rw [getD_set]; split
    · rfl
    · exact h
  rw [getD_set] at hl
  by_cases q : i = k
  · subst q
    rw [h2] at hk
    cases hk
    exact up (h3 e he hb)
  · rw [if_neg (fun z => q z.1)] at hl
    exact up (hc k o hk hl e he hb)
theorem ready_set {listed : Array Bool} {i k : Nat} (hne : k ≠ i) (hk : k ∈ Region.ready .any ops listed) : k ∈ Region.ready .any ops (listed.setIfInBounds i true) := by
  obtain ⟨h1, o, h2, h3⟩ := mem_ready.1 hk
  refine mem_ready.2 ⟨?_, o, h2, fun e he hb => ?_⟩
  · rw [getD_set, if_neg (fun z => hne z.1.symm)]; exact h1
  · rw [getD_set]; split
    · rfl
    · exact h3 e he hb
theorem set_comm {listed : Array Bool} {i k : Nat} (h : i ≠ k) : (listed.setIfInBounds i true).setIfInBounds k true = (listed.setIfInBounds k true).setIfInBounds i true := by
  apply Array.ext_getElem?
  intro j
  simp only [Array.getElem?_setIfInBounds, Array.size_setIfInBounds]
  by_cases h1 : i = j
  · have h2 : k ≠ j := fun e => h (h1.trans e.symm)
    simp [h1, h2]
  · simp [h1]
theorem por {i : Nat} {oi : Oper} (hoi : ops[i]? = some oi) : ∀ (f : Nat) (listed : Array Bool) (st st1 : St), listed.size = ops.size → ClosedL ops listed → firstB T ops listed i = true → WF st → HS P T kp base ops oi st st1 → Runs P T kp base ops K f (listed.setIfInBounds i true) st1 →
    Runs P T kp base ops K (f + 1) listed st := by
  intro f
  induction f with
  | zero =>
    intro listed st st1 hsz hc hf hw h hr
    simp only [firstB, Bool.and_eq_true] at hf
    have hi : i ∈ Region.ready .any ops listed := by simpa using hf.1
    refine ⟨(fun e => by rw [e] at hi; cases hi), fun k hk o ho => ?_⟩
    by_cases e : k = i
    · subst e
      rw [hoi] at ho; cases ho
      exact ⟨st1, h, hr⟩
    · have := ready_set e hk
      rw [hr.1] at this; cases this
  | succ f ih =>
    intro listed st st1 hsz hc hf hw h hr
    have hf0 := hf
    simp only [firstB, Bool.and_eq_true] at hf
    have hi : i ∈ Region.ready .any ops listed := by simpa using hf.1
    obtain ⟨i1, oi', i2, i3⟩ := mem_ready.1 hi
    refine ⟨(fun e => by rw [e] at hi; cases hi), fun k hk o ho => ?_⟩
    by_cases e : k = i
    · subst e
      rw [hoi] at ho; cases ho
      exact ⟨st1, h, hr⟩
    · obtain ⟨k1, ok, k2, k3⟩ := mem_ready.1 hk
      rw [k2] at ho; cases ho
      obtain ⟨st2, q1, q2⟩ := hr.2 k (ready_set e hk) o k2
      have hlt := (Array.getElem?_eq_some_iff.1 k2).1
      have hind : indep T ops oi o = true := by
        have := List.all_eq_true.1 hf.2 k (List.mem_range.2 hlt)
        simp only [Bool.or_eq_true, beq_iff_eq, hoi, k2] at this
        rcases this with ((z | z) | z) | z
        · exact absurd z e
        · rw [k1] at z; cases z
        · exact z
        · have hl := anc_listed hc _ k o k2 k3 z
          rw [getD_tf hl] at i1; cases i1
      obtain ⟨st3, c1, c2⟩ := HS.comm hind hw h q1
      refine ⟨st3, c1, ih _ st3 st2 (by simpa using hsz) (closed_set hsz hc hk) ?_ (HS.wf hw c1) c2 (by rw [← set_comm (Ne.symm e)]; exact q2)⟩
      simp only [firstB, Bool.and_eq_true]
      refine ⟨by simpa using ready_set (Ne.symm e) hi, List.all_eq_true.2 fun j hj => ?_⟩
      have := List.all_eq_true.1 hf.2 j hj
      simp only [Bool.or_eq_true] at this ⊢
      rcases this with ((z | z) | z) | z
      · exact .inl (.inl (.inl z))
      · refine .inl (.inl (.inr ?_))
        rw [getD_set]; split
        · rfl
        · exact z
      · exact .inl (.inr z)
      · exact .inr z
def RunsW (P : Go.Program) (T : Tab) (kp : Nat → Prop) (base : Nat) (ops : Array Oper) (K : St → Prop) (f : Nat) (listed : Array Bool) (st : St) : Prop := listed.size = ops.size → ClosedL ops listed → WF st → Runs P T kp base ops K f listed st
theorem runs_first {f : Nat} {listed : Array Bool} {st : St} (i : Nat) {o : Oper} (ho : ops[i]? = some o) (hf : firstB T ops listed i = true) (h : ∃ st1, HS P T kp base ops o st st1 ∧ RunsW P T kp base ops K f (listed.setIfInBounds i true) st1) : RunsW P T kp base ops K (f + 1) listed st := by
  intro hsz hc hw
  obtain ⟨st1, h1, h2⟩ := h
  have hi : i ∈ Region.ready .any ops listed := by
    simp only [firstB, Bool.and_eq_true] at hf
    simpa using hf.1
  exact por ho f listed st st1 hsz hc hf hw h1 (h2 (by simpa using hsz) (closed_set hsz hc hi) (HS.wf hw h1))
def Steps (P : Go.Program) (T : Tab) (kp : Nat → Prop) (base : Nat) (ops : Array Oper) (K : St → Prop) (f : Nat) (listed : Array Bool) (st : St) : List Nat → Prop
  | [] => True
  | i :: l => (∃ o st1, ops[i]? = some o ∧ HS P T kp base ops o st st1 ∧ RunsW P T kp base ops K f (listed.setIfInBounds i true) st1) ∧ Steps P T kp base ops K f listed st l
theorem steps_mem {f : Nat} {listed : Array Bool} {st : St} : ∀ {l : List Nat}, Steps P T kp base ops K f listed st l → ∀ i ∈ l, ∃ o st1, ops[i]? = some o ∧ HS P T kp base ops o st st1 ∧ RunsW P T kp base ops K f (listed.setIfInBounds i true) st1
  | [], _, i, hi => by cases hi
  | j :: l, h, i, hi => by
    rcases List.mem_cons.1 hi with rfl | hi
    · exact h.1
    · exact steps_mem h.2 i hi
theorem runs_node {f : Nat} {listed : Array Bool} {st : St} (l : List Nat) (hr : Region.ready .any ops listed = l) (hne : l ≠ []) (h : Steps P T kp base ops K f listed st l) : RunsW P T kp base ops K (f + 1) listed st := by
  intro hsz hc hw
  refine ⟨fun e => absurd (hr.symm.trans e) hne, fun i hi o ho => ?_⟩
  obtain ⟨o', st1, h1, h2, h3⟩ := steps_mem h i (hr ▸ hi)
  rw [ho] at h1; cases h1
  exact ⟨st1, h2, h3 (by simpa using hsz) (closed_set hsz hc hi) (HS.wf hw h2)⟩
theorem runsw_end {f : Nat} {listed : Array Bool} {st : St} (hr : Region.ready .any ops listed = []) (hk : K st) : RunsW P T kp base ops K f listed st := fun _ _ _ => runs_end hr hk
def exec1 (T : Tab) (base : Nat) (ops : Array Oper) (i : Nat) (st : St) : Option St := match ops[i]? with
  | some o => exec T base ops [o] st
  | none => none
theorem exec1_hs {i : Nat} {st st1 : St} (h : exec1 T base ops i st = some st1) : ∃ o, ops[i]? = some o ∧ HS P T kp base ops o st st1 := by
  unfold exec1 at h
  split at h
  · rename_i o ho
    exact ⟨o, ho, run_one h⟩
  · cases h
theorem step_exec {f i : Nat} {listed : Array Bool} {st : St} {l : List Nat} (h : ∃ st1, exec1 T base ops i st = some st1 ∧ RunsW P T kp base ops K f (listed.setIfInBounds i true) st1) (t : Steps P T kp base ops K f listed st l) : Steps P T kp base ops K f listed st (i :: l) :=
  ⟨let ⟨st1, h1, h2⟩ := h; let ⟨o, ho, hs⟩ := exec1_hs h1; ⟨o, st1, ho, hs, h2⟩, t⟩
theorem first_exec {f : Nat} {listed : Array Bool} {st : St} (i : Nat) (hf : firstB T ops listed i = true) (h : ∃ st1, exec1 T base ops i st = some st1 ∧ RunsW P T kp base ops K f (listed.setIfInBounds i true) st1) : RunsW P T kp base ops K (f + 1) listed st :=
  let ⟨st1, h1, h2⟩ := h; let ⟨_, ho, hs⟩ := exec1_hs h1; runs_first i ho hf ⟨st1, hs, h2⟩
theorem step_append (hT : T.Ok P) {f i : Nat} {listed : Array Bool} {st : St} {rl : List Nat} {o : Oper} (ho : ops[i]? = some o) {c : Call} {x y : Operand} {t d : Nat} (id : Nat) {e n b : Nat} (fz : Bool) {zs : List Value} {xs ys : List (List C)} (h : wantA ops o st.s = some true) (hop : o.op = .call c) (hc : c.callee = .builtin .append) (ha : c.args = #[x, y]) (ht : c.argTypes = #[t, t]) (hd : o.dst = some d)
    (hx : ev st.s x = .own id) (hm : st.m id = some (rowO fz e n xs)) (hy : asC st.m (ev st.s y) = some (.sl ys)) (h1 : T.elem t = some (e, n)) (h2 : T.bytes e = some b) (h3 : T.zero e = some zs) (h4 : zs.length = n) (hkp : ¬ kp id) (hl : ∀ z ∈ ys, z.length = n) (hb : (xs.length + ys.length) * b ≤ 140737488355328) (hb0 : 0 < b)
    (hr : RunsW P T kp base ops K f (listed.setIfInBounds i true) ⟨upd (killS id st.s) d (.own id), upd (killM id st.m) id (some (rowO fz e n (xs ++ ys)))⟩) (tl : Steps P T kp base ops K f listed st rl) : Steps P T kp base ops K f listed st (i :: rl) :=
  ⟨⟨o, _, ho, .eff (eff_append hT hkp ⟨h, hop, hc, ha, ht, hd, hx, hm, hy, h1, h2, h3, h4, hl, hb, app_small hb hb0⟩), hr⟩, tl⟩
theorem runs_mono {K' : St → Prop} (hk : ∀ st, K st → K' st) : ∀ {f : Nat} {listed : Array Bool} {st : St}, Runs P T kp base ops K f listed st → Runs P T kp base ops K' f listed st
  | 0, _, _, h => ⟨h.1, hk _ h.2⟩
  | _ + 1, _, _, h => ⟨fun e => hk _ (h.1 e), fun i hi o ho => let ⟨st1, h1, h2⟩ := h.2 i hi o ho; ⟨st1, h1, runs_mono hk h2⟩⟩
theorem RunsW.mono {K' : St → Prop} (hk : ∀ st, K st → K' st) {f : Nat} {listed : Array Bool} {st : St} (h : RunsW P T kp base ops K f listed st) : RunsW P T kp base ops K' f listed st := fun a b c => runs_mono hk (h a b c)
theorem closed_none {n : Nat} (hn : ops.size = n) : ClosedL ops (Array.replicate n false) := fun k o hk h => by
  have hlt := (Array.getElem?_eq_some_iff.1 hk).1
  rw [Array.getD_eq_getD_getElem?, Array.getElem?_replicate, if_pos (by omega)] at h
  cases h
end
section
variable {l n' : Nat} {P : Go.Program} {T : Tab} {R : Ref} {n : Nat} {ds : List Deferred} {st : St} {K : Exit → St → Prop}
end
end V
end Go.Proofs.YtbmbmcdaabhgnaaDoor
end
section
set_option linter.unusedVariables false
set_option linter.unusedSimpArgs false
namespace Go.Proofs.YtbmbmcdaabhgnaaDoor
namespace V
open Go.RowKit
structure XS (P : Go.Program) (T : Tab) (kp : Nat → Prop) (ops : Array Oper) (o : Oper) (st : St) (ch : List PanicEntry) (st' : St) : Prop where
  run : ∀ (R : Ref) (n : Nat) (ds : List Deferred) (a : Act) (w : World) (K : Act → World → Prop) (Q : Exit → Act → World → Prop), R.keep = kp → SR R n ds st a w → (∀ a' w', SR R n ds st' a' w' → Q (.panic ch) a' w') →
    Region.wanted o (yielded ops a.tmps) = true ∧ o.wp P a w K Q
section
variable {P : Go.Program} {T : Tab} {kp : Nat → Prop} {ops : Array Oper}
end
section
variable {P : Go.Program} {T : Tab} {kp : Nat → Prop} {base : Nat} {ops : Array Oper}
variable (hT : T.Ok P) {R : Ref} {n : Nat} {ds : List Deferred}
include hT
omit hT in
theorem runl_chain : ∀ {l : List Oper} {k : Nat} {st st' : St}, (∀ j x, l[j]? = some x → ops[k + j]? = some x) → RunL P T kp base ops l st st' → Chain P T kp base ops (List.range' k l.length) st st'
  | [], _, _, _, _, h => by cases h; exact .nil _
  | o :: l, k, _, _, hl, h => by
    cases h with
    | cons h t =>
      refine .cons (by simpa using hl 0 o rfl) h (runl_chain (fun j x hx => ?_) t)
      have := hl (j + 1) x (by simpa using hx)
      rwa [show k + 1 + j = k + (j + 1) by omega]
end
section
variable {P : Go.Program} {T : Tab} (hT : T.Ok P) {R : Ref} {n base : Nat} {ds : List Deferred} {ops : Array Oper} {ch : List PanicEntry}
include hT in
include hT in
end
section
variable {P : Go.Program} {T : Tab} {kp : Nat → Prop} {base f : Nat} {ops : Array Oper} {ch : List PanicEntry} {K Kp : St → Prop} {listed : Array Bool} {st : St}
end
end V
end Go.Proofs.YtbmbmcdaabhgnaaDoor
end
section
set_option linter.unusedVariables false
set_option linter.unusedSimpArgs false
namespace Go.Proofs.YtbmbmcdaabhgnaaDoor
namespace V
open Go.RowKit
section
variable {P : Go.Program} {T : Tab} {base : Nat} {ops : Array Oper} (hT : T.Ok P) {R : Ref} {n : Nat} {ds : List Deferred}
include hT
theorem chain_snd (hd : ∀ o ∈ ops, ∀ d, o.dst = some d → d < n) {Q : Exit → Act → World → Prop} {st1 : St} {l2 : List Nat} (hQ : ∀ a w, SR R n ds st1 a w → wpOps P ops Q l2 a w) :
    ∀ (l : List Nat) (st : St) (a : Act) (w : World), Chain P T R.keep base ops l st st1 → SR R n ds st a w → wpOps P ops Q (l ++ l2) a w
  | [], st, a, w, h, hr => by
    cases h
    exact hQ a w hr
  | j :: l, st, a, w, h, hr => by
    cases h with
    | @cons _ o' _ _ st1' _ hi h1 t =>
      rw [List.cons_append, wpOps_cons]
      unfold wpOp
      rw [hi]
      have hgo := h1.snd hT hr (hd o' (Array.mem_of_getElem? hi)) (K := wpOps P ops Q (l ++ l2)) (Q := Q) (fun a' w' hr' => chain_snd hd hQ l st1' a' w' t hr')
      dsimp only
      split
      · rename_i hw; rw [if_pos hw] at hgo; exact .inl hgo
      · rename_i hw; rw [if_neg hw] at hgo; exact hgo
def dfr (s : Nat → A) (g : FuncId) (v1 v2 : Value) (j : Nat) (z : C) : Nat → A :=
  upd (upd (upd s DID (.defs ({ target := .fn (.func g) #[], args := #[v1, v2] } :: dfs (s DID)))) (DID + 1) (.pinP v1 j 0)) (DID + 2) (.pinC v2 z)
omit hT in
theorem dfr_DID {s : Nat → A} {g : FuncId} {v1 v2 : Value} {j : Nat} {z : C} : dfr s g v1 v2 j z DID = .defs ({ target := .fn (.func g) #[], args := #[v1, v2] } :: dfs (s DID)) := by
  unfold dfr
  rw [upd_ne _ _ (by decide), upd_ne _ _ (by decide), upd_same]
theorem W.deferTwo {st st1 : St} {K : Exit → St → Prop} {id : Nat} {l1 : List Oper} {o : Oper} {c : Call} {g : FuncId} {x y : Operand} {j : Nat} {z : C} (base : Nat) (hd : dstOk n ops = true) (hops : ops.toList = l1 ++ [o]) (h1 : exec T base ops l1 st = some st1) (hw : wantA ops o st1.s = some true) (hop : o.op = .defer c) (hc : c.callee = .value (.func g)) (ha : c.args = #[x, y]) (hdst : o.dst = none)
    (hx : ev st1.s x = .ptr j 0) (hj : (st1.m j).isSome = true) (hy : ev st1.s y = .c z) (h : ∀ v1 v2, K .normal ⟨dfr st1.s g v1 v2 j z, st1.m⟩) : W P R n ds st (.region id ops false) K := fun a w hr => by
  refine wp_region ?_
  have hsz : ops.size = l1.length + 1 := by rw [← Array.length_toList, hops]; simp
  have hrg : List.range ops.size = List.range' 0 l1.length ++ [l1.length] := by rw [hsz, List.range_succ, List.range_eq_range']
  have hi : ops[l1.length]? = some o := by rw [← Array.getElem?_toList, hops]; simp
  rw [hrg]
  refine chain_snd hT (base := base) (dstOk_spec hd) ?_ _ st a w (runl_chain (k := 0) (fun k x hx => ?_) (exec_run h1)) hr
  · clear hr a w
    intro a w hr
    obtain ⟨B, I, hm, hx0, hkp, hs⟩ := hr.ex
    rw [wpOps_cons]
    unfold wpOp
    have hwt := want_snd hs hw
    rw [hi]
    dsimp only
    rw [if_pos hwt]
    refine .inl ?_
    unfold Oper.wp Oper.upon
    have hrun : (execOp a.eval o).run P w = .ok (.defer { target := .fn (.func g) #[], args := #[a.eval x, a.eval y] }) w := by
      simp only [execOp, hop, resolve, hc, ha, Act.eval, Deferred.ofValue, Sem.run_bind, Sem.run_pure, Result.andThen_ok]
      simp [Act.eval]
    rw [hrun]
    have hv := ev_rv hs x
    rw [hx] at hv
    obtain ⟨b, hB, hv⟩ := hv
    have hv2 := ev_rv hs y
    rw [hy] at hv2
    have hput : ({ a with defers := { target := .fn (.func g) #[], args := #[a.eval x, a.eval y] } :: a.defers } : Act).put o.dst undef = { a with defers := { target := .fn (.func g) #[], args := #[a.eval x, a.eval y] } :: a.defers } := by rw [hdst]; rfl
    show wpOps P ops _ [] _ _
    rw [hput]
    refine ⟨_, h (a.eval x) (a.eval y), ⟨B, I, hm, hx0, hkp, fun t => ?_⟩, fun t i hi => ?_, hr.size, hr.nn, ?_, hr.kept⟩
    · show RV B w I (dfr st1.s g (a.eval x) (a.eval y) j z t) (a.tmps.getD t undef)
      unfold dfr
      by_cases e3 : t = DID + 2
      · subst e3; rw [upd_same]; exact hv2
      rw [upd_ne _ _ e3]
      by_cases e : t = DID + 1
      · subst e; rw [upd_same]; exact ⟨b, hB, hv⟩
      · rw [upd_ne _ _ e]
        by_cases e2 : t = DID
        · subst e2; rw [upd_same]; trivial
        · rw [upd_ne _ _ e2]; exact hs t
    · have hi : i ∈ (dfr st1.s g (a.eval x) (a.eval y) j z t).ids := hi
      unfold dfr at hi
      by_cases e3 : t = DID + 2
      · subst e3; rw [upd_same] at hi; simp [A.ids] at hi
      rw [upd_ne _ _ e3] at hi
      by_cases e : t = DID + 1
      · subst e
        rw [upd_same] at hi
        simp [A.ids] at hi; subst hi
        exact hj
      · rw [upd_ne _ _ e] at hi
        by_cases e2 : t = DID
        · subst e2; rw [upd_same] at hi; simp [A.ids] at hi
        · rw [upd_ne _ _ e2] at hi; exact hr.ids t i hi
    · show _ :: a.defers = dfs (dfr st1.s g (a.eval x) (a.eval y) j z DID) ++ ds
      rw [dfr_DID, hr.defs]; rfl
  · rw [Nat.zero_add, ← Array.getElem?_toList, hops, List.getElem?_append_left (List.getElem?_eq_some_iff.1 hx).1]
    exact hx
theorem W.deferAt {st st1 : St} {K : Exit → St → Prop} {id : Nat} {o : Oper} {c : Call} {g : FuncId} {x y : Operand} {j : Nat} {z : C} (base i : Nat) (hd : dstOk n ops = true) (hsz : ops.size = i + 1) (ho : ops[i]? = some o) (h1 : exec T base ops (ops.toList.take i) st = some st1) (hw : wantA ops o st1.s = some true) (hop : o.op = .defer c) (hc : c.callee = .value (.func g)) (ha : c.args = #[x, y]) (hdst : o.dst = none)
    (hx : ev st1.s x = .ptr j 0) (hj : (st1.m j).isSome = true) (hy : ev st1.s y = .c z) (h : ∀ v1 v2, K .normal ⟨dfr st1.s g v1 v2 j z, st1.m⟩) : W P R n ds st (.region id ops false) K := by
  refine W.deferTwo hT base hd (l1 := ops.toList.take i) (o := o) ?_ h1 hw hop hc ha hdst hx hj hy h
  have hl : ops.toList.length = i + 1 := by rw [Array.length_toList]; exact hsz
  have h2 : ops.toList.drop i = [o] := by
    rw [← Array.getElem?_toList] at ho
    obtain ⟨hj, rfl⟩ := List.getElem?_eq_some_iff.1 ho
    rw [List.drop_eq_getElem_cons hj, List.drop_eq_nil_of_le (by omega)]
  rw [← h2, List.take_append_drop]
omit hT in
theorem dfr_lt {s : Nat → A} {g : FuncId} {v1 v2 : Value} {j : Nat} {z : C} {i : Nat} (h : i < DID) : dfr s g v1 v2 j z i = s i := by
  unfold dfr
  rw [upd_ne _ _ (Nat.ne_of_lt (Nat.lt_succ_of_lt (Nat.lt_succ_of_lt h))), upd_ne _ _ (Nat.ne_of_lt (Nat.lt_succ_of_lt h)), upd_ne _ _ (Nat.ne_of_lt h)]
omit hT in
theorem dfr_1 {s : Nat → A} {g : FuncId} {v1 v2 : Value} {j : Nat} {z : C} : dfr s g v1 v2 j z (DID + 1) = .pinP v1 j 0 := by
  unfold dfr
  rw [upd_ne _ _ (by decide), upd_same]
omit hT in
theorem dfr_2 {s : Nat → A} {g : FuncId} {v1 v2 : Value} {j : Nat} {z : C} : dfr s g v1 v2 j z (DID + 2) = .pinC v2 z := by
  unfold dfr
  rw [upd_same]
end
theorem ok_effT {P : Go.Program} {T : Tab} (hT : T.Ok P) {f : FuncId} {fn : Func} {c : Code} {args : List A} {M : Mem} (D : List Nat) {M' : Mem} {g : FuncId} {j : Nat} {z : C} (hinv : ∀ (v1 v2 : Value) (w : World), (invoke (.fn (.func g) #[]) #[v1, v2]).run P w = .ok (.enter g #[v1, v2]) w) (hf : P.funcs[f]? = some fn) (hn : (fn.name == "runtime.NumGoroutine") = false) (hb : fn.body = some c) (hl : fn.results.toList = [])
    (hle : decide (args.length ≤ fn.ntmps ∧ fn.ntmps ≤ DID) = true) (hdf : args.all (fun a => !(match a with | .defs _ => true | _ => false)) = true) (hids : ∀ a ∈ args, ∀ j ∈ a.ids, (M j).isSome = true) (hsub : ∀ j, (M j).isSome = true → (M' j).isSome = true) (hwm : WFm M → WFm M')
    (hW : WFm M → ∀ R : Ref, R.keep = (fun j => (M j).isSome = true ∧ j ∉ D) → W P R fn.ntmps [] ⟨entry args, M⟩ c (fun e st => (e = .normal ∨ e = .ret) ∧
      ((dfs (st.s DID) = [] ∧ MLe st.m M') ∨
       ∃ v1 v2 M1, dfs (st.s DID) = [{ target := .fn (.func g) #[], args := #[v1, v2] }] ∧ st.s (DID + 1) = .pinP v1 j 0 ∧ st.s (DID + 2) = .pinC v2 z ∧ MLe st.m M1 ∧ WFm M1 ∧ (∀ i, (M i).isSome = true → (M1 i).isSome = true) ∧ CallDf P g [.ptr j 0, .c z] M1 D M'))) : CallE P f args M D (.tup []) M' := by
  refine ⟨enters_of hf hn hb, fun j hj => by simp [A.ids] at hj, hsub, hwm, ?_⟩
  intro w0 I0 B I w vals hm hv
  have hWF : WFm M := hm.live
  have hd2 : ∀ a ∈ args, ∀ l, a ≠ .defs l := fun a ha l e => by have := List.all_eq_true.1 hdf a ha; subst e; simp at this
  obtain ⟨hl1, hl2⟩ := of_decide_eq_true hle
  have hlen := rvl_len hv
  refine calls_of_wp_defers hf hb ?_
  have h0 : SR ⟨w0, I0, w, I, B, fun j => (M j).isSome = true ∧ j ∉ D⟩ fn.ntmps [] ⟨entry args, M⟩ { tmps := vals.toArray ++ Array.replicate (fn.ntmps - vals.toArray.size) undef, defers := [] } w := by
    refine ⟨⟨B, I, hm, Ext.refl _ _, fun _ _ => rfl, rvl_entry hv⟩, fun t i hi => ?_, by simp [hlen]; omega, hl2, by rw [show dfs ((⟨entry args, M⟩ : St).s DID) = [] from entry_dfs (fun a ha l e => by subst e; exact hd2 _ ha l rfl)]; rfl, fun i hi => hi.1⟩
    simp only [entry, List.getD_eq_getElem?_getD] at hi
    cases hx : args[t]? with
    | none => rw [hx] at hi; simp [A.ids] at hi
    | some a => rw [hx] at hi; exact hids a (List.mem_of_getElem? hx) i hi
  refine wp_mono (hW hWF _ rfl _ w h0) ?_
  rintro e a' w' ⟨st', ⟨he, hres⟩, ⟨⟨B', I', hm', hx', hkp', hs'⟩, -, -, -, hds, -⟩⟩
  have hand : ∀ (w2 : World) (B2 : Nat → Value) (I2 : Nat → Nat → Prop), MR w0 I0 B2 I2 M' w2 → Ext w w2 I I2 → (∀ j, (M j).isSome = true → j ∉ D → B2 j = B j) →
      ∃ v, (results fn a'.tmps).run P w2 = .ok v w2 ∧ ∃ v' B' I', Ending.returned v = .returned v' ∧ MR w0 I0 B' I' M' w2 ∧ Ext w w2 I I' ∧ (∀ j, (M j).isSome = true → j ∉ D → B' j = B j) ∧ RV B' w2 I' (.tup []) v' := by
    intro w2 B2 I2 hm2 hx2 hk2
    obtain ⟨v, h1, h2⟩ := resE_snd (st := ⟨fun _ => .top, M'⟩) (r := .tup []) hT hm2 (fun t => by trivial) hl rfl
    exact ⟨v, h1, v, B2, I2, rfl, hm2, hx2, hk2, h2⟩
  rcases hres with ⟨hdn, hle2⟩ | ⟨v1, v2, M1, hdn, hp1, hp2, hle2, hw1, hsub1, -, hsm, hwm1, hcall⟩
  · rw [hdn] at hds
    have hds : a'.defers = [] := hds
    have key := hand w' B' I' (mle_mr hm' hle2 (hwm hWF)) hx' (fun j hj hd => hkp' j ⟨hj, hd⟩)
    rcases he with rfl | rfl <;> (show Leaves _ _ _ _ _ _ _; rw [hds]; exact key)
  · rw [hdn] at hds
    have hds : a'.defers = [{ target := .fn (.func g) #[], args := #[v1, v2] }] := hds
    have hm1 := mle_mr hm' hle2 hw1
    have q1 := hs' (DID + 1)
    rw [hp1] at q1
    obtain ⟨b0, k1, k2⟩ := q1
    have q2 := hs' (DID + 2)
    rw [hp2] at q2
    have key2 : Leaves P fn a'.tmps (fun e w' => ∃ v B' I', e = .returned v ∧ MR w0 I0 B' I' M' w' ∧ Ext w w' I I' ∧ (∀ j, (M j).isSome = true → j ∉ D → B' j = B j) ∧ RV B' w' I' (.tup []) v) a'.defers .returning w' := by
      rw [hds]
      refine leaves_cons (by simp) (hinv v1 v2 w') (CallsD.mono (hcall w0 I0 B' I' w' [v1, v2] .returning hm1 ⟨⟨b0, k1, k2⟩, q2, trivial⟩) ?_)
      rintro e u' w'' ⟨rfl, v, B2, I2, rfl, hm2, hx2, hk2⟩
      exact hand w'' B2 I2 hm2 (hx'.trans hx2) (fun j hj hd => (hk2 j (hsub1 j hj) hd).trans (hkp' j ⟨hj, hd⟩))
    rcases he with rfl | rfl <;> exact key2
end V
end Go.Proofs.YtbmbmcdaabhgnaaDoor
end
section
set_option linter.unusedVariables false
set_option linter.unusedSimpArgs false
namespace Go.Proofs.YtbmbmcdaabhgnaaDoor
namespace V
open Go.RowKit
def cShape (s : Shape) : List C := [.int .i64 s.least, .int .i64 s.most, .bool s.name, .int .i64 s.num, .int .i64 s.level, .str s.sign]
theorem shapeOf_any {p : Shape → Prop} (h0 : p noShape) (h : ∀ s ∈ shapes, p s) (k : Int) : p (shapeOf k).1 := by
  unfold shapeOf
  split
  · dsimp only
    rw [List.getD_eq_getElem?_getD]
    cases hx : shapes[(k - 1).toNat]? with
    | none => exact h0
    | some s => exact h s (List.mem_of_getElem? hx)
  · exact h0
theorem shape_wf (k : Int) : (Lit.int .i64 (shapeOf k).1.least).wf = true ∧ (Lit.int .i64 (shapeOf k).1.most).wf = true ∧ (Lit.int .i64 (shapeOf k).1.num).wf = true ∧ (Lit.int .i64 (shapeOf k).1.level).wf = true ∧ (shapeOf k).1.sign.size ≤ 4 := by
  refine shapeOf_any (p := fun s => (Lit.int .i64 s.least).wf = true ∧ (Lit.int .i64 s.most).wf = true ∧ (Lit.int .i64 s.num).wf = true ∧ (Lit.int .i64 s.level).wf = true ∧ s.sign.size ≤ 4) (by decide) (fun s hs => ?_) k
  revert s
  decide
theorem of_ok (k : Int) (m : Mem) : COk Tryd.prog 36 [.c (.int .i64 k)] m (.tup [(true, cShape (shapeOf k).1), (false, [.bool (shapeOf k).2])]) := by
  refine ⟨enters_of Tryd.func36 (by kernel_rfl) rfl, rfl, fun m' _ => ?_⟩
  intro w0 I0 B I w vals hm hv
  match vals, hv with
  | [v], ⟨h1, _⟩ =>
    cases h1
    refine (of_any k w).mono ?_
    rintro e w' ⟨rfl, hb⟩
    obtain ⟨s1, s2, s3, s4, s5⟩ := shape_wf k
    refine ⟨_, I, rfl, hb, fun _ _ k => k, fun _ _ k => .inl k, ?_⟩
    exact ⟨_, rfl, ⟨_, rfl, .int s1, .int s2, .bool, .int s3, .int s4, .str (Nat.le_trans s5 (by decide)), trivial⟩, ⟨_, rfl, .bool⟩, trivial⟩
theorem expr_ok (x : Expr) (m : Mem) : COk Tryd.prog 15 [.agg (cExpr x)] m (.c (.bool (exprB x))) := by
  refine ⟨enters_of Tryd.func15 (by kernel_rfl) rfl, rfl, fun m' _ => ?_⟩
  intro w0 I0 B I w vals hm hv
  match vals, hv with
  | [v], ⟨h1, _⟩ =>
    obtain ⟨us, rfl, h1⟩ := h1
    refine (expr_any (dExpr x) w us x hm.globNow.max (rcs_expr (fun b o k => hm.there b o k) _ (Nat.le_refl _) h1)).mono ?_
    rintro e w' ⟨rfl, hb⟩
    exact ⟨_, I, rfl, hb, fun _ _ k => k, fun _ _ k => .inl k, .bool⟩
theorem fmt_ok (n : Int) (m : Mem) : COk Tryd.prog 87 [.c (.int .i64 n), .c (.int .i64 10)] m (.c (.str ⟨(Lib.itoa n).toArray⟩)) := by
  refine ⟨enters_of Tryd.func87 (by kernel_rfl) rfl, rfl, fun m' _ => ?_⟩
  intro w0 I0 B I w vals hm hv
  match vals, hv with
  | [v, v2], ⟨h1, h2, _⟩ =>
    cases h1 with
    | int hn =>
    cases h2
    obtain ⟨q1, q2⟩ := lit_wf.1 hn
    have q1 : -9223372036854775808 ≤ n := q1
    have q2 : n ≤ 9223372036854775807 := q2
    have q3 := Lib.itoa_length_le n q1 q2
    refine (Tryd.internal_strconv_FormatInt_10 n q1 q2 w hm.globNow.tens).mono ?_
    rintro e w' ⟨rfl, k, os, rfl⟩
    exact ⟨_, I, rfl, Lib.below_grow _ _ (Nat.le_refl _) _ _, fun _ _ k => k, fun _ _ k => .inl k, .str (Nat.le_trans (show (Lib.itoa n).toArray.size ≤ 21 by simpa using q3) (by decide))⟩
theorem fint_ok (n : Int) (m : Mem) : COk Tryd.prog 67 [.c (.int .i64 n), .c (.int .i64 10)] m (.c (.str ⟨(Lib.itoa n).toArray⟩)) := by
  refine (ok_pure tab_ok Tryd.func67 (by kernel_rfl) rfl rfl (by rfl) (by rfl) (by rfl) (fun R hkeep => ?_) m)
  repeat (first | refine W.seq ?_ | refine W.block ?_ | refine W.skip ?_ | refine W.exit ?_ | refine W.region tab_ok 0 (by decide) (exec_run (by simp only [exa, beq_self_eq_true, ByteArray.size, Nat.reduceAdd, Nat.reduceLeDiff, Nat.reduceEqDiff, Nat.reduceMul, Int.reduceToNat, reduceIte, Int.reduceLE, Int.reduceNeg]; rfl)) ?_)
  refine W.regionK tab_ok 0 (by decide) ?_
  refine runk_split 2 (by simp only [exa, beq_self_eq_true, ByteArray.size, Nat.reduceAdd, Nat.reduceLeDiff, Nat.reduceEqDiff, Nat.reduceMul, Int.reduceToNat, reduceIte, Int.reduceLE, Int.reduceNeg]; rfl) ?_
  refine runk_call rfl rfl rfl rfl rfl (by simp) (cvs_cons cv_refl (cvs_cons cv_refl cvs_nil)) (fmt_ok n _) ?_
  refine runk_exec (by simp only [exa, beq_self_eq_true, ByteArray.size, Nat.reduceAdd, Nat.reduceLeDiff, Nat.reduceEqDiff, Nat.reduceMul, Int.reduceToNat, reduceIte, Int.reduceLE, Int.reduceNeg]; rfl) ?_
  repeat (first | refine W.seq ?_ | refine W.block ?_ | refine W.skip ?_ | refine W.exit ?_ | refine W.region tab_ok 0 (by decide) (exec_run (by simp only [exa, beq_self_eq_true, ByteArray.size, Nat.reduceAdd, Nat.reduceLeDiff, Nat.reduceEqDiff, Nat.reduceMul, Int.reduceToNat, reduceIte, Int.reduceLE, Int.reduceNeg]; rfl)) ?_)
  refine W.ret ⟨.inr rfl, by rfl, ?_⟩
  simp only [Tryd.f67, resA, resOne, toT, fin, exa, beq_self_eq_true, ByteArray.size, Nat.reduceAdd, Nat.reduceLeDiff, Nat.reduceEqDiff, Nat.reduceMul, Int.reduceToNat, reduceIte, Int.reduceLE, Int.reduceNeg]
theorem num_ok (n : Int) (m : Mem) : COk Tryd.prog 39 [.c (.int .i64 n)] m (.c (.str ⟨(Lib.itoa n).toArray⟩)) := by
  refine (ok_pure tab_ok Tryd.func39 (by kernel_rfl) rfl rfl (by rfl) (by rfl) (by rfl) (fun R hkeep => ?_) m)
  repeat (first | refine W.seq ?_ | refine W.block ?_ | refine W.skip ?_ | refine W.exit ?_ | refine W.region tab_ok 0 (by decide) (exec_run (by simp only [exa, beq_self_eq_true, ByteArray.size, Nat.reduceAdd, Nat.reduceLeDiff, Nat.reduceEqDiff, Nat.reduceMul, Int.reduceToNat, reduceIte, Int.reduceLE, Int.reduceNeg]; rfl)) ?_)
  refine W.regionK tab_ok 0 (by decide) ?_
  refine runk_split 1 (by simp only [exa, beq_self_eq_true, ByteArray.size, Nat.reduceAdd, Nat.reduceLeDiff, Nat.reduceEqDiff, Nat.reduceMul, Int.reduceToNat, reduceIte, Int.reduceLE, Int.reduceNeg]; rfl) ?_
  refine runk_call rfl rfl rfl rfl rfl (by simp) (cvs_cons cv_refl (cvs_cons cv_refl cvs_nil)) (fint_ok n _) ?_
  refine runk_exec (by simp only [exa, beq_self_eq_true, ByteArray.size, Nat.reduceAdd, Nat.reduceLeDiff, Nat.reduceEqDiff, Nat.reduceMul, Int.reduceToNat, reduceIte, Int.reduceLE, Int.reduceNeg]; rfl) ?_
  repeat (first | refine W.seq ?_ | refine W.block ?_ | refine W.skip ?_ | refine W.exit ?_ | refine W.region tab_ok 0 (by decide) (exec_run (by simp only [exa, beq_self_eq_true, ByteArray.size, Nat.reduceAdd, Nat.reduceLeDiff, Nat.reduceEqDiff, Nat.reduceMul, Int.reduceToNat, reduceIte, Int.reduceLE, Int.reduceNeg]; rfl)) ?_)
  refine W.ret ⟨.inr rfl, by rfl, ?_⟩
  simp only [Tryd.f39, resA, resOne, toT, fin, exa, beq_self_eq_true, ByteArray.size, Nat.reduceAdd, Nat.reduceLeDiff, Nat.reduceEqDiff, Nat.reduceMul, Int.reduceToNat, reduceIte, Int.reduceLE, Int.reduceNeg]
end V
end Go.Proofs.YtbmbmcdaabhgnaaDoor
end
section
namespace Go.Proofs.YtbmbmcdaabhgnaaDoor
namespace V
open Go.RowKit
theorem W.seqJoin {P : Go.Program} {R : Ref} {n : Nat} {ds : List Deferred} {st : St} {x y : Code} {K : Exit → St → Prop} {ι : Type} (mk : ι → St) (Q : ι → Prop)
    (h : W P R n ds st x (fun e st' => e = .normal ∧ ∀ c K', (∀ i, Q i → W P R n ds (mk i) c K') → W P R n ds st' c K')) (k : ∀ i, Q i → W P R n ds (mk i) y K) : W P R n ds st (.seq x y) K := by
  refine W.seq ?_
  refine W.mono h ?_
  rintro e st' ⟨rfl, h2⟩
  exact h2 y K k
theorem W.join {P : Go.Program} {R : Ref} {n : Nat} {ds : List Deferred} {st : St} {x y : Code} {K : Exit → St → Prop} {ι : Type} (mk : ι → St) (Q : ι → Prop)
    (h : W P R n ds st x (fun e st' => e = .normal ∧ ∀ c K', (∀ i, Q i → W P R n ds (mk i) c K') → W P R n ds st' c K')) (k : ∀ i, Q i → W P R n ds (mk i) y K) : W P R n ds st x (thenK (fun st' => W P R n ds st' y K) K) := by
  refine W.mono h ?_
  rintro e st' ⟨rfl, h2⟩
  exact h2 y K k
end V
end Go.Proofs.YtbmbmcdaabhgnaaDoor
end
