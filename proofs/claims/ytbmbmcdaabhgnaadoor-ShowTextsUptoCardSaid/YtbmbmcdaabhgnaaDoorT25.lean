/- Joined by my own program, in build order: Varr, Cut, Vnil, Vmap, Vnp, La5, LawWh3, LawTW3. -/
import Derived.Test.YtbmbmcdaabhgnaaDoorT22
import Derived.Test.YtbmbmcdaabhgnaaDoorT24
import Derived.Test.YtbmbmcdaabhgnaaDoorCards
import Derived.Test.YtbmbmcdaabhgnaaDoorTie
set_option linter.unusedVariables false
set_option linter.unusedSimpArgs false
section
set_option linter.unusedVariables false
set_option linter.unusedSimpArgs false
namespace Go.Proofs.YtbmbmcdaabhgnaaDoor
namespace V
open Go.RowKit
def GStep (P : Go.Program) (R : Ref) (n : Nat) (ds : List Deferred) (ops : Array Oper) (o : Oper) (st st' : St) : Prop :=
  ∀ (a : Act) (w : World) (K : Act → World → Prop) (Q : Exit → Act → World → Prop), SR R n ds st a w → (∀ d, o.dst = some d → d < n) → (∀ a' w', SR R n ds st' a' w' → K a' w') →
    if Region.wanted o (yielded ops a.tmps) = true then o.wp P a w K Q else K (a.put o.dst undef) w
inductive GRun (P : Go.Program) (R : Ref) (n : Nat) (ds : List Deferred) (ops : Array Oper) : List Oper → St → St → Prop where
  | nil (st : St) : GRun P R n ds ops [] st st
  | cons {o : Oper} {l : List Oper} {st st1 st2 : St} (h : GStep P R n ds ops o st st1) (t : GRun P R n ds ops l st1 st2) : GRun P R n ds ops (o :: l) st st2
def GRunK (P : Go.Program) (R : Ref) (n : Nat) (ds : List Deferred) (ops : Array Oper) (l : List Oper) (st : St) (k : St → Prop) : Prop := ∃ st', GRun P R n ds ops l st st' ∧ k st'
section
variable {P : Go.Program} {T : Tab} {R : Ref} {n base : Nat} {ds : List Deferred} {ops : Array Oper}
theorem g_nil {st : St} {k : St → Prop} (h : k st) : GRunK P R n ds ops [] st k := ⟨st, .nil _, h⟩
theorem g_step {o : Oper} {l : List Oper} {st st1 : St} {k : St → Prop} (h : GStep P R n ds ops o st st1) (ht : GRunK P R n ds ops l st1 k) : GRunK P R n ds ops (o :: l) st k :=
  let ⟨st', h1, h2⟩ := ht
  ⟨st', .cons h h1, h2⟩
theorem grun_app (hT : T.Ok P) : ∀ {l l2 : List Oper} {st st1 st2 : St}, RunL P T R.keep base ops l st st1 → GRun P R n ds ops l2 st1 st2 → GRun P R n ds ops (l ++ l2) st st2
  | [], _, _, _, _, h, t => by cases h; exact t
  | o :: l, _, _, _, _, h, t => by
    cases h with
    | cons h h2 => exact .cons (fun a w K Q hr hd hK => h.snd hT hr hd hK) (grun_app hT h2 t)
theorem g_split (hT : T.Ok P) (base : Nat) {l : List Oper} {st : St} {k : St → Prop} (i : Nat) (h : RunK P T R.keep base ops (l.take i) st (fun st1 => GRunK P R n ds ops (l.drop i) st1 k)) : GRunK P R n ds ops l st k := by
  obtain ⟨st1, h1, st2, h2, h3⟩ := h
  have := grun_app hT h1 h2
  rw [List.take_append_drop] at this
  exact ⟨st2, this, h3⟩
theorem g_snd (hd : ∀ o ∈ ops, ∀ d, o.dst = some d → d < n) {Q : Exit → Act → World → Prop} {st' : St} (hQ : ∀ a w, SR R n ds st' a w → Q .normal a w) :
    ∀ (l : List Oper) (k : Nat) (st : St) (a : Act) (w : World), (∀ j, l[j]? = ops[k + j]?) → GRun P R n ds ops l st st' → SR R n ds st a w → wpOps P ops Q (List.range' k l.length) a w
  | [], _, st, a, w, _, h, hr => by cases h; exact hQ a w hr
  | o :: l, k, st, a, w, hl, h, hr => by
    cases h with
    | @cons _ _ _ st1 _ h t =>
      have hi : ops[k]? = some o := by simpa using (hl 0).symm
      rw [List.length_cons, List.range'_succ, wpOps_cons]
      unfold wpOp
      rw [hi]
      have hgo := h a w (wpOps P ops Q (List.range' (k + 1) l.length)) Q hr (hd o (Array.mem_of_getElem? hi)) (fun a' w' hr' => g_snd hd hQ l (k + 1) st1 a' w' (fun j => by
        have := hl (j + 1)
        rw [Nat.add_right_comm, Nat.add_assoc]
        simpa [Nat.add_comm, Nat.add_left_comm] using this) t hr')
      dsimp only
      split
      · rename_i hw; rw [if_pos hw] at hgo; exact .inl hgo
      · rename_i hw; rw [if_neg hw] at hgo; exact hgo
theorem W.regionG {id : Nat} {st : St} {K : Exit → St → Prop} (hd : dstOk n ops = true) (h : GRunK P R n ds ops ops.toList st (K .normal)) : W P R n ds st (.region id ops false) K := fun a w hr => by
  obtain ⟨st', h1, h2⟩ := h
  refine wp_region ?_
  rw [range_range', ← Array.length_toList]
  exact g_snd (dstOk_spec hd) (fun a w hr' => ⟨st', h2, hr'⟩) ops.toList 0 st a w (fun j => by simp) h1 hr
theorem g_val {o : Oper} {st : St} {d : Nat} {r : A} (hw : wantA ops o st.s = some true) (hd0 : o.dst = some d) (hl : ∀ j ∈ r.ids, (st.m j).isSome = true)
    (hrun : ∀ (a : Act) (w : World) (B : Nat → Value) (I : Nat → Nat → Prop), MR R.w0 R.I0 B I st.m w → (∀ x, RV B w I (ev st.s x) (a.eval x)) → ∃ v, (execOp a.eval o).run P w = .ok (.value v) w ∧ RV B w I r v) : GStep P R n ds ops o st ⟨upd st.s d r, st.m⟩ := by
  intro a w K Q hr hd hK
  obtain ⟨B, I, hm, hx0, hkp, hs⟩ := hr.ex
  rw [want_snd hs hw, if_pos rfl]
  obtain ⟨v, h1, h2⟩ := hrun a w B I hm (ev_rv hs)
  unfold Oper.wp Oper.upon
  rw [h1]
  have hd' : ∀ d, o.dst = some d → d < a.tmps.size := fun d e => by rw [hr.size]; exact hd d e
  have hput := putS_rv (dst := o.dst) (r := r) (v := v) hs h2 hd'
  rw [hd0] at hput
  refine hK _ _ ⟨⟨B, I, hm, hx0, hkp, by rw [hd0]; exact hput⟩, ?_, by rw [(put_dst_size _ _ _).1]; exact hr.size, hr.nn, ?_, hr.kept⟩
  · intro t j hj
    show (st.m j).isSome = true
    have hj : j ∈ (upd st.s d r t).ids := hj
    unfold upd at hj
    split at hj
    · exact hl j hj
    · exact hr.ids t j hj
  · rw [(put_dst_size _ _ _).2]
    have hdd : DID ≠ d := fun q => absurd (hd d hd0) (Nat.not_lt.2 (q ▸ hr.nn))
    show a.defers = dfs (upd st.s d r DID) ++ ds
    rw [upd_ne _ _ hdd]; exact hr.defs
end
end V
end Go.Proofs.YtbmbmcdaabhgnaaDoor
end
section
set_option linter.unusedVariables false
set_option linter.unusedSimpArgs false
namespace Go.Proofs.YtbmbmcdaabhgnaaDoor
namespace V
open Go.RowKit
section
variable {P : Go.Program} {T : Tab} {R : Ref} {n base : Nat} {ds : List Deferred} {ops : Array Oper}
theorem g_cut (hT : T.Ok P) {o : Oper} {l : List Oper} {st : St} {kc : St → Prop} {t : TypeId} {x y : Operand} {d : Nat} {k : IntKind} {s : ByteArray} {i : Nat} (hw : wantA ops o st.s = some true) (hop : o.op = .slice t x (some y) none none) (hd : o.dst = some d)
    (hs : T.str t = true) (hx : ev st.s x = .c (.str s)) (hy : ev st.s y = .c (.int k i)) (hle : i ≤ s.size)
    (ht : GRunK P R n ds ops l ⟨upd st.s d (.c (.str (s.extract i s.size))), st.m⟩ kc) : GRunK P R n ds ops (o :: l) st kc := by
  refine g_step (g_val hw hd (fun i hi => by simp [A.ids] at hi) fun a w B I hm hev => ?_) ht
  have hxv := hev x
  rw [hx] at hxv
  obtain ⟨ex, hmax⟩ := RC.toStr hxv
  have hyv := hev y
  rw [hy] at hyv
  obtain ⟨ey, -⟩ := RC.toInt hyv
  have hu := hT.str _ hs
  refine ⟨.string (s.extract i s.size), ?_, .str (Nat.le_trans (by rw [ByteArray.size_extract]; omega) hmax)⟩
  simp only [execOp, hop, Option.map_some, Option.map_none, ex, ey, Sem.run_bind, run_sliceAt_string _ t _ _ _ _ hu, run_slice_string_l w t s hu k (i : Int) (by omega) (by omega), Int.toNat_natCast, Result.andThen_ok, Sem.run_pure]
end
end V
end Go.Proofs.YtbmbmcdaabhgnaaDoor
end
section
set_option linter.unusedVariables false
set_option linter.unusedSimpArgs false
namespace Go.Proofs.YtbmbmcdaabhgnaaDoor
namespace V
open Go.RowKit
structure HAppendNil (T : Tab) (ops : Array Oper) (o : Oper) (st : St) (c : Call) (x y : Operand) (t d id e n b : Nat) (zs : List Value) (ys : List (List C)) : Prop where
  want : wantA ops o st.s = some true
  op : o.op = .call c
  callee : c.callee = .builtin .append
  args : c.args = #[x, y]
  tys : c.argTypes = #[t, t]
  dst : o.dst = some d
  at_ : ev st.s x = .nil
  free : st.m id = none
  val : asC st.m (ev st.s y) = some (.sl ys)
  elem : T.elem t = some (e, n)
  bytes : T.bytes e = some b
  zero : T.zero e = some zs
  zlen : zs.length = n
  lens : ∀ z ∈ ys, z.length = n
  bound : ys.length * b ≤ 140737488355328
  small : ys.length ≤ maxLen
section
variable {P : Go.Program} {T : Tab} (hT : T.Ok P) {kp : Nat → Prop} {ops : Array Oper}
theorem killed_free {m : Mem} {id : Nat} (hw : ∀ i o, m i = some o → ∀ j ∈ o.ids, (m j).isSome = true) (hM : m id = none) (j : Nat) : (m j).map (O.kill id) = m j := congrFun (kill_free hw hM) j
theorem nilW {st : St} {id : Nat} {o' : O} (hw : WF st) (hl : ∀ i ∈ o'.ids, (st.m i).isSome = true) (d : Nat) : WF ⟨upd st.s d (.own id), upd st.m id (some o')⟩ := by
  have hlv : ∀ i, (st.m i).isSome = true → (upd st.m id (some o') i).isSome = true := fun i hi => live_upd i hi
  refine ⟨fun t i hi => ?_, fun k z hz i hi => hlv i ?_⟩
  · dsimp only at hi
    unfold upd at hi
    split at hi
    · simp [A.ids] at hi; subst hi; show (upd st.m i (some o') i).isSome = true; rw [upd_same]; rfl
    · exact hlv i (hw.ids t i hi)
  · dsimp only at hz
    unfold upd at hz
    split at hz
    · cases hz; exact hl i hi
    · exact hw.live k z hz i hi
include hT
theorem eff_appendNil {o : Oper} {st : St} {c : Call} {x y : Operand} {t d id e n b : Nat} (fz : Bool) {zs : List Value} {ys : List (List C)} (h : HAppendNil T ops o st c x y t d id e n b zs ys) :
    Eff P T kp ops o st ⟨upd st.s d (.own id), upd st.m id (some (rowO fz e n ys))⟩ := by
  refine ⟨by rw [h.op]; simp [kind, h.callee], fun hw => ?_, fun R n0 ds a w K Q hR hr hd hK => ?_⟩
  · exact nilW hw (fun i hi => by cases fz <;> simp [rowO, O.ids] at hi) d
  · obtain ⟨B0, I, hm0, hx0, hkp0, hs0⟩ := hr.ex
    rw [want_snd hs0 h.want, if_pos rfl]
    have hne : ∀ j, (st.m j).isSome = true → j ≠ id := fun j hj e' => by subst e'; rw [h.free] at hj; cases hj
    obtain ⟨hu, hn0, i, hi, hin⟩ := hT.elem _ _ _ h.elem
    obtain ⟨i2, hi2, hib⟩ := hT.bytes _ _ h.bytes
    obtain ⟨i3, z, hi3, hz, hzc, -⟩ := hT.zero _ _ h.zero
    have e1 : i2 = i := Option.some.inj (hi2.symm.trans hi)
    have e2 : i3 = i := Option.some.inj (hi3.symm.trans hi)
    subst e1 e2
    have hxn : a.eval x = .slice none 0 0 := by have := ev_rv hs0 x; rw [h.at_] at this; exact this
    obtain ⟨ad, my, cap, news, hyv, hn, hnl, hcellsN, hrcs, hone⟩ := news_of hn0 (asC_rc hm0 h.val (ev_rv hs0 y)) h.lens
    have hm1 := hm0.newNil (id := id) h.free fz e n
    generalize hB : upd B0 id (Value.slice none 0 0) = B at hm1
    have hx : a.eval x = B id := by rw [hxn, ← hB, upd_same]
    have harr : upd st.m id (some (rowO fz e n [])) id = some (rowO fz e n []) := upd_same ..
    have hm := hm1
    have fin : ∃ v' w' I', (Builtin.append_ #[t, t] o.type #[B id, .slice ad my cap]).run P w = .ok v' w' ∧ (∃ aa nn cc, v' = .slice aa nn cc) ∧ MR R.w0 R.I0 (upd B id v') I' (upd (killM id (upd st.m id (some (rowO fz e n [])))) id (some (rowO fz e n ([] ++ ys)))) w' ∧ Ext w w' I I' := by
      cases fz with
      | true =>
        obtain ⟨vs, hv, hvs, hlx, hiff⟩ := hm.objs id _ harr
        obtain ⟨v', w', r1, r2, r3, r4, r5, r6⟩ := run_append_two (P := P) w t o.type e i3 z n b hu hi3 hz hin hib (by rw [hzc]; simpa using h.zlen) hn0 (B id) 0 vs hv ad my cap news hnl hcellsN hone (by rw [← hn, Nat.zero_add]; exact h.small) (by rw [← hn, Nat.zero_add]; exact h.bound)
        rw [← hn] at r2
        obtain ⟨I', hm', hE⟩ := hm.append harr hv hvs hlx hiff r2 hrcs h.lens r3 r4 r5 r6
        refine ⟨v', w', I', r1, ?_, hm', hE⟩
        rcases r2.2 with ⟨q, -⟩ | ⟨g, cap, cur, q, -⟩
        · exact ⟨_, _, _, q⟩
        · exact ⟨_, _, _, q⟩
      | false =>
        obtain ⟨vs, hv, hvs, hlx, hI⟩ := hm.objs id _ harr
        obtain ⟨v', w', r1, r2, r3, r4, r5, r6⟩ := run_append_at (P := P) w t o.type e i3 z n b hu hi3 hz hin hib (by rw [hzc]; simpa using h.zlen) hn0 (B id) 0 vs hv ad my cap news hnl hcellsN hone (by rw [← hn, Nat.zero_add]; exact h.small) (by rw [← hn, Nat.zero_add]; exact h.bound)
        rw [← hn] at r2
        obtain ⟨hm', hE⟩ := hm.appendM harr hvs hlx hI r2 hrcs h.lens r3 r4 r5 r6
        obtain ⟨ad', cap', q, -⟩ := r2.shape
        exact ⟨v', w', I, r1, ⟨_, _, _, q⟩, hm', hE⟩
    obtain ⟨v', w', I', r1, hsh, hm', hE⟩ := fin
    have hrun : (execOp a.eval o).run P w = .ok (.value v') w' := by
      obtain ⟨cal, args, tys⟩ := c
      have h7 := h.callee
      have h8 := h.args
      have h9 := h.tys
      simp only at h7 h8 h9
      subst h7 h8 h9
      simp only [execOp, h.op, resolve, invoke, builtin, Sem.run_bind, Sem.run_pure, Result.andThen_ok, List.map_toArray, List.map_cons, List.map_nil, hx, hyv, r1]
    unfold Oper.wp Oper.upon
    rw [hrun]
    have hdlt : ∀ q, o.dst = some q → q < a.tmps.size := fun q hq => by rw [hr.size]; exact hd q hq
    have hmem : upd (killM id (upd st.m id (some (rowO fz e n [])))) id (some (rowO fz e n ([] ++ ys))) = upd st.m id (some (rowO fz e n ys)) := by
      funext j
      unfold upd
      split
      · rfl
      · rename_i e'
        show ((if j = id then _ else st.m j).map (O.kill id)) = st.m j
        rw [if_neg e']
        exact killed_free hr.wf.live h.free j
    rw [hmem] at hm'
    have hput := putS_rv (dst := o.dst) (r := A.own id) (v := v') (B := upd B id v') (w := w') (I := I') (s := st.s) (fun t' => (hs0 t').mono hE fun j hj => by
      rw [upd_ne _ _ (hne j (hr.ids t' j hj)), ← hB, upd_ne _ _ (hne j (hr.ids t' j hj))]) ⟨(upd_same B id v').symm, hsh⟩ hdlt
    rw [h.dst] at hput
    have hwf : WF ⟨upd st.s d (.own id), upd st.m id (some (rowO fz e n ys))⟩ := nilW hr.wf (fun i hi => by cases fz <;> simp [rowO, O.ids] at hi) d
    refine hK _ _ ⟨⟨_, I', hm', hx0.trans hE, fun j hj => ?_, by rw [h.dst]; exact hput⟩, hwf.ids, by rw [(put_dst_size _ _ _).1]; exact hr.size, hr.nn, by
      rw [(put_dst_size _ _ _).2]
      have hdd : DID ≠ d := fun q => absurd (hd d h.dst) (Nat.not_lt.2 (q ▸ hr.nn))
      show a.defers = dfs (upd st.s d (.own id) DID) ++ ds
      rw [upd_ne _ _ hdd]; exact hr.defs, fun j hj => ?_⟩
    · rw [upd_ne _ _ (hne j (hr.kept j hj)), ← hB, upd_ne _ _ (hne j (hr.kept j hj))]; exact hkp0 j hj
    · have := hr.kept j hj
      show (upd st.m id _ j).isSome = true
      unfold upd; split
      · rfl
      · exact this
end
def tabL : Tab := { tab with lit := true }
namespace L
theorem tab_ok : tabL.Ok Tryd.prog := ⟨V.tab_ok.ty, V.tab_ok.zero, V.tab_ok.elem, V.tab_ok.off, V.tab_ok.bool, V.tab_ok.fields, V.tab_ok.bytes, V.tab_ok.nilk, V.tab_ok.int, V.tab_ok.map, V.tab_ok.str, V.tab_ok.one, V.tab_ok.seq⟩
end L
end V
end Go.Proofs.YtbmbmcdaabhgnaaDoor
end
section
namespace Go.Proofs.YtbmbmcdaabhgnaaDoor
namespace V
open Go.RowKit
def valA : A → Option A1
  | .agg xs => some (.agg xs)
  | a => a.down
structure HPut (T : Tab) (ops : Array Oper) (o : Oper) (st : St) (t : Nat) (x k v : Operand) (j kt e : Nat) (key y : A1) (ents : List (A1 × A1)) (r : Option (Nat × A1)) : Prop where
  want : wantA ops o st.s = some true
  op : o.op = .mapUpdate t x k v ∨ o.op = .insert t x k v
  dst : o.dst = none
  at_ : ev st.s x = .map j
  obj : st.m j = some (.map ents)
  map : T.map t = some (kt, e)
  keyed : toKey (ev st.s k) = some key
  kty : keyTy T kt key = true
  val : valA (ev st.s v) = some y
  find : findE key ents = some r
section
variable {P : Go.Program} {T : Tab} {w0 w : World} {I0 I : Nat → Nat → Prop} {B : Nat → Value} {m : Mem}
end
variable {P : Go.Program} {T : Tab} (hT : T.Ok P) {kp : Nat → Prop} {ops : Array Oper}
include hT
end V
end Go.Proofs.YtbmbmcdaabhgnaaDoor
end
section
set_option linter.unusedVariables false
set_option linter.unusedSimpArgs false
namespace Go.Proofs.YtbmbmcdaabhgnaaDoor
namespace V
open Go.RowKit
section
variable {P : Go.Program} {T : Tab} {kp : Nat → Prop} {base : Nat} {ops : Array Oper} {K : St → Prop}
theorem step_appendNil (hT : T.Ok P) {f i : Nat} {listed : Array Bool} {st : St} {rl : List Nat} {o : Oper} (ho : ops[i]? = some o) {c : Call} {x y : Operand} {t d : Nat} (id : Nat) {e n b : Nat} (fz : Bool) {zs : List Value} {ys : List (List C)} (h : wantA ops o st.s = some true) (hop : o.op = .call c) (hc : c.callee = .builtin .append) (ha : c.args = #[x, y]) (ht : c.argTypes = #[t, t]) (hd : o.dst = some d)
    (hx : ev st.s x = .nil) (hm : st.m id = none) (hy : asC st.m (ev st.s y) = some (.sl ys)) (h1 : T.elem t = some (e, n)) (h2 : T.bytes e = some b) (h3 : T.zero e = some zs) (h4 : zs.length = n) (hl : ∀ z ∈ ys, z.length = n) (hb : ys.length * b ≤ 140737488355328) (hb0 : 0 < b)
    (hr : RunsW P T kp base ops K f (listed.setIfInBounds i true) ⟨upd st.s d (.own id), upd st.m id (some (rowO fz e n ys))⟩) (tl : Steps P T kp base ops K f listed st rl) : Steps P T kp base ops K f listed st (i :: rl) :=
  ⟨⟨o, _, ho, .eff (eff_appendNil hT fz ⟨h, hop, hc, ha, ht, hd, hx, hm, hy, h1, h2, h3, h4, hl, hb, app_small hb hb0⟩), hr⟩, tl⟩
end
def apartB (ops : Array Oper) (listed : Array Bool) (i : Nat) : Bool := match ops[i]? with
  | some oi => (List.range ops.size).all fun j => j == i || listed.getD j true || (match ops[j]? with | some oj => (oj.after.any fun e => Region.binds .any e && e.on == i) || oi.apart ops oj | none => true)
  | none => false
def noSelB (ops : Array Oper) : Bool := ops.all fun o => match o.op with | .select _ _ => false | _ => true
def RX (P : Go.Program) (R : Ref) (n : Nat) (ds : List Deferred) (ops : Array Oper) (K : St → Prop) (f : Nat) (listed : Array Bool) (st : St) : Prop :=
  listed.size = ops.size → ClosedL ops listed → ∀ a w, SR R n ds st a w → wpAny P .any ops (fun e a w => ∃ st', (e = Exit.normal ∧ K st') ∧ SR R n ds st' a w) f listed a w
section
variable {P : Go.Program} {T : Tab} {R : Ref} {n : Nat} {ds : List Deferred} {base : Nat} {ops : Array Oper} {K : St → Prop}
theorem rx_runs (hT : T.Ok P) (hd : dstOk n ops = true) {f : Nat} {listed : Array Bool} {st : St} (h : RunsW P T R.keep base ops K f listed st) : RX P R n ds ops K f listed st := fun h1 h2 a w hr =>
  runs_snd hT (dstOk_spec hd) (fun st' a w hk hr' => ⟨st', ⟨rfl, hk⟩, hr'⟩) _ _ st a _ (h h1 h2 hr.wf) hr
theorem rx_pure (hT : T.Ok P) (hd : dstOk n ops = true) (hns : noSelB ops = true) {f : Nat} {listed : Array Bool} {st : St} (i : Nat) {o : Oper} (ho : ops[i]? = some o) (hpu : ∀ a w, SR R n ds st a w → ∃ v, ∀ w', (execOp a.eval o).run P w' = .ok (.value v) w') (hg : o.guard = none) (hi : (Region.ready .any ops listed).contains i = true) (hap : apartB ops listed i = true)
    (h : ∃ st1, exec1 T base ops i st = some st1 ∧ RX P R n ds ops K f (listed.setIfInBounds i true) st1) : RX P R n ds ops K (f + 1) listed st := by
  intro hsz hc a w hr
  obtain ⟨st1, h1, h2⟩ := h
  have hi : i ∈ Region.ready .any ops listed := by simpa using hi
  obtain ⟨o', ho', hs⟩ := exec1_hs (P := P) (kp := R.keep) h1
  rw [ho] at ho'; cases ho'
  have hwant : ∀ a : Act, Region.wanted o (yielded ops a.tmps) = true := fun a => by simp [Region.wanted, hg]
  obtain ⟨v, hrun⟩ := hpu a w hr
  have hgo := hs.snd hT hr (hd := fun d e => dstOk_spec hd o (Array.mem_of_getElem? ho) d e) (K := fun a' w' => SR R n ds st1 a' w') (Q := fun _ _ _ => False) (fun a' w' hr' => hr')
  rw [if_pos (hwant a)] at hgo
  unfold Oper.wp at hgo
  rw [hrun] at hgo
  refine wpAny_first (oi := o) (v := v) ho (fun j oj cs b hj e => ?_) (fun c a w hq => by obtain ⟨_, ⟨hq, -⟩, -⟩ := hq; cases hq) f listed a w (fun j oj hj hji hl hne => ?_) hi (.inl ⟨hwant a, hrun⟩) (h2 (by simpa using hsz) (closed_set hsz hc hi) _ _ hgo)
  · have := Array.all_eq_true.1 hns j (Array.getElem?_eq_some_iff.1 hj).1
    rw [(Array.getElem?_eq_some_iff.1 hj).2, e] at this
    cases this
  · unfold apartB at hap
    rw [ho] at hap
    have hlt := (Array.getElem?_eq_some_iff.1 hj).1
    have := List.all_eq_true.1 hap j (List.mem_range.2 hlt)
    simp only [Bool.or_eq_true, beq_iff_eq, hj] at this
    rcases this with (z | z) | z | z
    · exact absurd z hji
    · rw [Array.getD_eq_getD_getElem?] at z hl
      rw [hl] at z; cases z
    · obtain ⟨q, hq, hz⟩ := Array.any_eq_true'.1 z
      simp only [Bool.and_eq_true, beq_iff_eq] at hz
      exact absurd hz.2 (hne q hq hz.1)
    · exact z
theorem rx_field (hT : T.Ok P) (hd : dstOk n ops = true) (hns : noSelB ops = true) {f : Nat} {listed : Array Bool} {st : St} (i : Nat) {o : Oper} {ty fl j off : Nat} {x : Operand} {q : Nat × Nat × Bool} (ho : ops[i]? = some o) (hop : o.op = .fieldAddr ty x fl) (hx : ev st.s x = .ptr j off) (hq : T.off ty fl = some q) (hg : o.guard = none) (hi : (Region.ready .any ops listed).contains i = true) (hap : apartB ops listed i = true)
    (h : ∃ st1, exec1 T base ops i st = some st1 ∧ RX P R n ds ops K f (listed.setIfInBounds i true) st1) : RX P R n ds ops K (f + 1) listed st :=
  rx_pure hT hd hns i ho (fun a w hr => by
    obtain ⟨B, I, hm, -, -, hs⟩ := hr.ex
    have := ev_rv hs x
    rw [hx] at this
    obtain ⟨b, -, hv⟩ := this
    obtain ⟨o1, n1, g1⟩ := q
    exact ⟨.pointer (some ⟨b, off + o1, none⟩), fun w' => by simp only [execOp, hop, hv, Sem.run_bind, run_fieldAddr hT hq, Result.andThen_ok]; rfl⟩) hg hi hap h
theorem W.regionX (hT : T.Ok P) {id : Nat} {st : St} {Kx : Exit → St → Prop} (hm : P.follows .mixedOrders = true) (can : St) (h : RX P R n ds ops (fun st' => Le R.keep st' can) ops.size (Array.replicate ops.size false) st) (hK : ∀ st', Le R.keep st' can → Kx .normal st') : W P R n ds st (.region id ops true) Kx := by
  intro a w hr
  have hx := h (by simp) (closed_none rfl) a { w with drawn := w.drawn + 1 } (by
    obtain ⟨⟨B, I, hmr, hx0, hkp, hs⟩, h2, h3, hnn, h4, h5⟩ := hr
    have hE : Ext w w.drew I I := ⟨fun _ _ k => k, fun _ _ _ => rfl⟩
    exact ⟨⟨B, I, hmr.call (Below.refl _ _).drew, hx0.trans hE, hkp, fun t => (hs t).mono hE fun _ _ => rfl⟩, h2, h3, hnn, h4, h5⟩)
  exact wp_mono (wp_region_any hm hx) fun e a w ⟨st', ⟨he, hk⟩, hs⟩ => ⟨st', he ▸ hK st' hk, hs⟩
end
end V
end Go.Proofs.YtbmbmcdaabhgnaaDoor
end
section
set_option linter.unusedVariables false
set_option linter.unusedSimpArgs false
namespace Go.Proofs.YtbmbmcdaabhgnaaDoor
namespace V
open Go.RowKit
def prX (x : Expr) : Stmt := ⟨5, 7, ⟨#[]⟩, ⟨#[]⟩, [x], [], []⟩
theorem prX_ok {x : Expr} (h : exprB x = true) : stmtB (prX x) = true := by
  rw [stmtB_eq]
  simp [prX, stmtTop, exprsOf, h]
  rfl
def endX (x : Expr) : List UInt8 := [9, 112, 114, 105, 110, 116, 40, 55, 44, 32] ++ exprX x 1 ++ [41, 59, 10, 125, 10]
theorem whole_text (cs : List Class) (mn : List Stmt) (x : Expr) : ∃ a, progX ⟨cs, mn ++ [prX x]⟩ = a ++ endX x := by
  refine ⟨cs.flatMap classX ++ [109, 97, 105, 110, 32, 123, 10] ++ stmtsX mn 1, ?_⟩
  have hi : Lib.itoa 7 = [55] := by
    unfold Lib.itoa
    rw [if_neg (by decide), Lib.decDigits, dif_pos (by decide)]
    rfl
  have h1 : stmtsX [prX x] 1 = [9, 112, 114, 105, 110, 116, 40, 55, 44, 32] ++ exprX x 1 ++ [41, 59, 10] := by
    simp [stmtsX, stmtX, prX, bodyS, hi, tabX, listE, commaX]
  simp only [progX, stmtsX_app, h1, brcX, tabX, endX]
  simp [List.append_assoc]
theorem cut_end (a b : List UInt8) : (strX (a ++ b)).extract ((a ++ b).length - b.length) (strX (a ++ b)).size = strX b := by
  apply ByteArray.ext
  rw [ByteArray.data_extract, strX_size]
  apply Array.ext'
  rw [Array.toList_extract]
  simp [strX]
theorem rows7 : ∀ (l : List Stmt), ∀ x ∈ cStmts l, x.length = 7
  | [], x, h => by simp [cStmts] at h
  | y :: l, x, h => by
    simp only [cStmts, List.mem_cons] at h
    rcases h with rfl | h
    · cases y; rfl
    · exact rows7 l x h
set_option maxHeartbeats 4000000 in
theorem lawWhole_ok (p : Program) (x : Expr) (hc : cntP p + 1 + cntE x ≤ 1048576) (hs : exprB x = true → (exprX x 1).length ≤ 140737488351232) (m : Mem) : COk Tryd.prog 6 [.agg (cProg p), .agg (cExpr x)] m (.c (.bool true)) := by
  have h1 := showX_ok x hs
  have hck := tree_ok p
  have hcq : cntP ⟨p.classes, p.main ++ [prX x]⟩ ≤ 1048576 := by
    have : cntSs (p.main ++ [prX x]) = cntSs p.main + (1 + cntE x) := by
      generalize p.main = l
      induction l with
      | nil => simp [cntSs, cntS, prX, cntEs]
      | cons s l ih => simp only [List.cons_append, cntSs, ih]; omega
    unfold cntP at hc ⊢
    simp only [this]
    omega
  have h2 := textP_ok ⟨p.classes, p.main ++ [prX x]⟩ hcq
  have hml := cntSs_len p.main
  have hpm : cntSs p.main ≤ 1048576 := by unfold cntP at hc; omega
  obtain ⟨cs, mn⟩ := p
  obtain ⟨xk, xn, xm, xs⟩ := x
  simp only [cProg, cExpr] at h1 hck h2 ⊢
  refine (ok_pure tab_ok Tryd.func6 (by kernel_rfl) rfl rfl (by rfl) (by rfl) (by rfl) (fun R hkeep => ?_) m)
  repeat (first | refine W.seq ?_ | refine W.block ?_ | refine W.skip ?_ | refine W.exit ?_ | refine W.region tab_ok 0 (by decide) (exec_run (by simp only [exa, beq_self_eq_true, ByteArray.size, Nat.reduceAdd, Nat.reduceLeDiff, Nat.reduceEqDiff, Nat.reduceMul, Int.reduceToNat, reduceIte, Int.reduceLE, Int.reduceNeg]; rfl)) ?_)
  (repeat (first | refine W.seq ?_ | refine W.block ?_ | refine W.skip ?_))
  refine W.regionK tab_ok 0 (by decide) ?_
  refine runk_split 0 (by simp only [exa, beq_self_eq_true, ByteArray.size, Nat.reduceAdd, Nat.reduceLeDiff, Nat.reduceEqDiff, Nat.reduceMul, Int.reduceToNat, reduceIte, Int.reduceLE, Int.reduceNeg]; rfl) ?_
  refine runk_call rfl rfl rfl rfl rfl (by simp) cvs_nil (live3_ok _) ?_
  refine runk_split 1 (by simp only [exa, beq_self_eq_true, ByteArray.size, Nat.reduceAdd, Nat.reduceLeDiff, Nat.reduceEqDiff, Nat.reduceMul, Int.reduceToNat, reduceIte, Int.reduceLE, Int.reduceNeg]; rfl) ?_
  refine runk_call rfl rfl rfl rfl rfl (by simp) cvs_nil (main3_ok _) ?_
  refine runk_exec (by simp only [exa, beq_self_eq_true, ByteArray.size, Nat.reduceAdd, Nat.reduceLeDiff, Nat.reduceEqDiff, Nat.reduceMul, Int.reduceToNat, reduceIte, Int.reduceLE, Int.reduceNeg]; rfl) ?_
  (repeat (first | refine W.seq ?_ | refine W.block ?_ | refine W.skip ?_))
  refine W.regionK tab_ok 0 (by decide) ?_
  refine runk_split 1 (by simp only [exa, beq_self_eq_true, ByteArray.size, Nat.reduceAdd, Nat.reduceLeDiff, Nat.reduceEqDiff, Nat.reduceMul, Int.reduceToNat, reduceIte, Int.reduceLE, Int.reduceNeg]; rfl) ?_
  refine runk_call rfl rfl rfl rfl rfl (by simp) (cvs_cons cv_refl cvs_nil) (h1 _) ?_
  refine runk_exec (by simp only [exa, beq_self_eq_true, ByteArray.size, Nat.reduceAdd, Nat.reduceLeDiff, Nat.reduceEqDiff, Nat.reduceMul, Int.reduceToNat, reduceIte, Int.reduceLE, Int.reduceNeg]; rfl) ?_
  by_cases hx0 : (showX ⟨xk, xn, xm, xs⟩).2 = 0
  · cases hb : checkB ⟨cs, mn⟩ with
    | false =>
      (repeat (first | refine W.seq ?_ | refine W.block ?_ | refine W.skip ?_))
      refine W.regionK tab_ok 0 (by decide) ?_
      refine runk_split 4 (by simp only [exa, beq_self_eq_true, ByteArray.size, Nat.reduceAdd, Nat.reduceLeDiff, Nat.reduceEqDiff, Nat.reduceMul, Int.reduceToNat, reduceIte, Int.reduceLE, Int.reduceNeg, hx0]; rfl) ?_
      refine runk_call rfl rfl rfl rfl rfl (by simp) (cvs_cons cv_refl cvs_nil) (hck _) ?_
      refine runk_exec (by simp only [exa, beq_self_eq_true, ByteArray.size, Nat.reduceAdd, Nat.reduceLeDiff, Nat.reduceEqDiff, Nat.reduceMul, Int.reduceToNat, reduceIte, Int.reduceLE, Int.reduceNeg, hb, treeErr]; rfl) ?_
      (repeat (first | refine W.seq ?_ | refine W.block ?_ | refine W.skip ?_))
      refine W.cond rfl (fun _ => ?_) (fun h => absurd h (by decide))
      repeat (first | refine W.seq ?_ | refine W.block ?_ | refine W.skip ?_ | refine W.exit ?_ | refine W.region tab_ok 0 (by decide) (exec_run (by simp only [exa, beq_self_eq_true, ByteArray.size, Nat.reduceAdd, Nat.reduceLeDiff, Nat.reduceEqDiff, Nat.reduceMul, Int.reduceToNat, reduceIte, Int.reduceLE, Int.reduceNeg]; rfl)) ?_)
      refine W.ret ⟨.inr rfl, by rfl, ?_⟩
      simp only [Tryd.f6, resA, resOne, toT, fin, exa, beq_self_eq_true, ByteArray.size, Nat.reduceAdd, Nat.reduceLeDiff, Nat.reduceEqDiff, Nat.reduceMul, Int.reduceToNat, reduceIte, Int.reduceLE, Int.reduceNeg]
    | true =>
      (repeat (first | refine W.seq ?_ | refine W.block ?_ | refine W.skip ?_))
      refine W.regionK tab_ok 0 (by decide) ?_
      refine runk_split 4 (by simp only [exa, beq_self_eq_true, ByteArray.size, Nat.reduceAdd, Nat.reduceLeDiff, Nat.reduceEqDiff, Nat.reduceMul, Int.reduceToNat, reduceIte, Int.reduceLE, Int.reduceNeg, hx0]; rfl) ?_
      refine runk_call rfl rfl rfl rfl rfl (by simp) (cvs_cons cv_refl cvs_nil) (hck _) ?_
      refine runk_exec (by simp only [exa, beq_self_eq_true, ByteArray.size, Nat.reduceAdd, Nat.reduceLeDiff, Nat.reduceEqDiff, Nat.reduceMul, Int.reduceToNat, reduceIte, Int.reduceLE, Int.reduceNeg, hb, treeErr]; rfl) ?_
      (repeat (first | refine W.seq ?_ | refine W.block ?_ | refine W.skip ?_))
      refine W.cond rfl (fun h => absurd h (by decide)) (fun _ => ?_)
      obtain ⟨sx, hsx⟩ : ∃ sx, (showX ⟨xk, xn, xm, xs⟩).1 = sx := ⟨_, rfl⟩
      rw [hsx]
      have hmn : (cStmts mn).length ≤ 1048576 := by rw [cStmts_len]; exact Nat.le_trans hml hpm
      repeat (first | refine W.seq ?_ | refine W.block ?_ | refine W.skip ?_ | refine W.exit ?_ | refine W.region tab_ok 0 (by decide) (exec_run (by simp only [exa, beq_self_eq_true, ByteArray.size, Nat.reduceAdd, Nat.reduceLeDiff, Nat.reduceEqDiff, Nat.reduceMul, Int.reduceToNat, reduceIte, Int.reduceLE, Int.reduceNeg]; rfl)) ?_)
      (repeat (first | refine W.seq ?_ | refine W.block ?_ | refine W.skip ?_))
      refine W.regionX tab_ok follows_mixed ⟨upd (upd (upd (upd (fun _ => .top) 5 (.c (.bool true))) 6 (.c (.str sx))) 7 (.c (.int .i64 0))) 8 (.ptr 8 0),
        upd (upd Mem.nil 8 (some (.box 33 [.c (.sl (cs.map cClass)), .own 32]))) 32 (some (.arr 39 7 (cStmts mn ++ [[.int .i64 5, .int .i64 7, .str ⟨#[]⟩, .str ⟨#[]⟩, .sl [[.int .i64 xk, .int .i64 xn, .str xm, .sl (cExprs xs)]], .sl [], .sl []]])))⟩ ?_ ?_
      · skip
        refine rx_field (base := 0) tab_ok (by decide) (by decide +kernel) 0 rfl rfl (by simp only [exa, beq_self_eq_true, ByteArray.size, Nat.reduceAdd, Nat.reduceLeDiff, Nat.reduceEqDiff, Nat.reduceMul, Int.reduceToNat, reduceIte, Int.reduceLE, Int.reduceNeg]; rfl) rfl rfl (by decide +kernel) (by decide +kernel) ⟨_, by simp only [exec1, exa, beq_self_eq_true, ByteArray.size, Nat.reduceAdd, Nat.reduceLeDiff, Nat.reduceEqDiff, Nat.reduceMul, Int.reduceToNat, reduceIte, Int.reduceLE, Int.reduceNeg]; rfl, ?_⟩
        refine rx_runs (base := 0) tab_ok (by decide) ?_
        refine first_exec 1 (by decide +kernel) ⟨_, by simp only [exec1, exa, beq_self_eq_true, ByteArray.size, Nat.reduceAdd, Nat.reduceLeDiff, Nat.reduceEqDiff, Nat.reduceMul, Int.reduceToNat, reduceIte, Int.reduceLE, Int.reduceNeg]; rfl, ?_⟩
        refine runs_node [2, 3] (by decide +kernel) (by decide) ?_
        refine step_appendNil tab_ok rfl 32 true rfl rfl rfl rfl rfl rfl (by simp only [exa, beq_self_eq_true, ByteArray.size, Nat.reduceAdd, Nat.reduceLeDiff, Nat.reduceEqDiff, Nat.reduceMul, Int.reduceToNat, reduceIte, Int.reduceLE, Int.reduceNeg]; done) (by simp only [exa, beq_self_eq_true, ByteArray.size, Nat.reduceAdd, Nat.reduceLeDiff, Nat.reduceEqDiff, Nat.reduceMul, Int.reduceToNat, reduceIte, Int.reduceLE, Int.reduceNeg]; done) (by first | (simp only [exa, beq_self_eq_true, ByteArray.size, Nat.reduceAdd, Nat.reduceLeDiff, Nat.reduceEqDiff, Nat.reduceMul, Int.reduceToNat, reduceIte, Int.reduceLE, Int.reduceNeg]; done) | (simp only [exa, beq_self_eq_true, ByteArray.size, Nat.reduceAdd, Nat.reduceLeDiff, Nat.reduceEqDiff, Nat.reduceMul, Int.reduceToNat, reduceIte, Int.reduceLE, Int.reduceNeg]; rfl)) rfl rfl rfl rfl (rows7 mn) (by omega) (by decide) ?_ ?_
        · skip
          refine first_exec 3 (by decide +kernel) ⟨_, by simp only [exec1, exa, beq_self_eq_true, ByteArray.size, Nat.reduceAdd, Nat.reduceLeDiff, Nat.reduceEqDiff, Nat.reduceMul, Int.reduceToNat, reduceIte, Int.reduceLE, Int.reduceNeg]; rfl, ?_⟩
          refine first_exec 4 (by decide +kernel) ⟨_, by simp only [exec1, exa, beq_self_eq_true, ByteArray.size, Nat.reduceAdd, Nat.reduceLeDiff, Nat.reduceEqDiff, Nat.reduceMul, Int.reduceToNat, reduceIte, Int.reduceLE, Int.reduceNeg]; rfl, ?_⟩
          refine first_exec 5 (by decide +kernel) ⟨_, by simp only [exec1, exa, beq_self_eq_true, ByteArray.size, Nat.reduceAdd, Nat.reduceLeDiff, Nat.reduceEqDiff, Nat.reduceMul, Int.reduceToNat, reduceIte, Int.reduceLE, Int.reduceNeg]; rfl, ?_⟩
          refine first_exec 6 (by decide +kernel) ⟨_, by simp only [exec1, exa, beq_self_eq_true, ByteArray.size, Nat.reduceAdd, Nat.reduceLeDiff, Nat.reduceEqDiff, Nat.reduceMul, Int.reduceToNat, reduceIte, Int.reduceLE, Int.reduceNeg]; rfl, ?_⟩
          refine runs_node [7] (by decide +kernel) (by decide) ?_
          refine step_append tab_ok rfl 32 true rfl rfl rfl rfl rfl rfl (by simp only [exa, beq_self_eq_true, ByteArray.size, Nat.reduceAdd, Nat.reduceLeDiff, Nat.reduceEqDiff, Nat.reduceMul, Int.reduceToNat, reduceIte, Int.reduceLE, Int.reduceNeg, rowO]; done) (by simp only [exa, beq_self_eq_true, ByteArray.size, Nat.reduceAdd, Nat.reduceLeDiff, Nat.reduceEqDiff, Nat.reduceMul, Int.reduceToNat, reduceIte, Int.reduceLE, Int.reduceNeg, rowO]; rfl) (by simp only [exa, beq_self_eq_true, ByteArray.size, Nat.reduceAdd, Nat.reduceLeDiff, Nat.reduceEqDiff, Nat.reduceMul, Int.reduceToNat, reduceIte, Int.reduceLE, Int.reduceNeg, rowO]; rfl) rfl rfl rfl rfl (nokeep hkeep) (by simp) (by simp only [List.length_cons, List.length_nil]; omega) (by decide) ?_ ?_
          · skip
            refine first_exec 8 (by decide +kernel) ⟨_, by simp only [exec1, exa, beq_self_eq_true, ByteArray.size, Nat.reduceAdd, Nat.reduceLeDiff, Nat.reduceEqDiff, Nat.reduceMul, Int.reduceToNat, reduceIte, Int.reduceLE, Int.reduceNeg]; rfl, ?_⟩
            refine first_exec 9 (by decide +kernel) ⟨_, by simp only [exec1, exa, beq_self_eq_true, ByteArray.size, Nat.reduceAdd, Nat.reduceLeDiff, Nat.reduceEqDiff, Nat.reduceMul, Int.reduceToNat, reduceIte, Int.reduceLE, Int.reduceNeg]; rfl, ?_⟩
            refine runsw_end (by decide +kernel) ?_
            refine le_mk ?sle ?mle ?swf ?mwf ?kept (by rfl)
            case kept => exact kept_not hkeep
            case swf => repeat (first | exact swf_top _ | refine swf_upd ?_ (by simp [A.ids, upd_app]))
            case mwf => repeat (first | exact mwf_nil _ | refine mwf_upd ?_ (by simp [A.ids, O.ids, upd_app]))
            case mle => repeat (first | exact mle_nil _ | exact mle_refl _ | refine mle_upd ?_ (by first | rfl | (simp only [upd_app, killM_app, Nat.reduceEqDiff, reduceIte, rowO]; done)))
            case sle => repeat (first | exact sle_top _ | exact sle_refl _ | refine sle_upd ?_ (by first | rfl | (simp only [upd_app, entry_zero, entry_succ, Nat.reduceEqDiff, reduceIte, rowO]; done)))
          · trivial
        · skip
          refine step_exec ⟨_, by simp only [exec1, exa, beq_self_eq_true, ByteArray.size, Nat.reduceAdd, Nat.reduceLeDiff, Nat.reduceEqDiff, Nat.reduceMul, Int.reduceToNat, reduceIte, Int.reduceLE, Int.reduceNeg]; rfl, ?_⟩ trivial
          refine runs_node [2, 4] (by decide +kernel) (by decide) ?_
          refine step_appendNil tab_ok rfl 32 true rfl rfl rfl rfl rfl rfl (by simp only [exa, beq_self_eq_true, ByteArray.size, Nat.reduceAdd, Nat.reduceLeDiff, Nat.reduceEqDiff, Nat.reduceMul, Int.reduceToNat, reduceIte, Int.reduceLE, Int.reduceNeg]; done) (by simp only [exa, beq_self_eq_true, ByteArray.size, Nat.reduceAdd, Nat.reduceLeDiff, Nat.reduceEqDiff, Nat.reduceMul, Int.reduceToNat, reduceIte, Int.reduceLE, Int.reduceNeg]; done) (by first | (simp only [exa, beq_self_eq_true, ByteArray.size, Nat.reduceAdd, Nat.reduceLeDiff, Nat.reduceEqDiff, Nat.reduceMul, Int.reduceToNat, reduceIte, Int.reduceLE, Int.reduceNeg]; done) | (simp only [exa, beq_self_eq_true, ByteArray.size, Nat.reduceAdd, Nat.reduceLeDiff, Nat.reduceEqDiff, Nat.reduceMul, Int.reduceToNat, reduceIte, Int.reduceLE, Int.reduceNeg]; rfl)) rfl rfl rfl rfl (rows7 mn) (by omega) (by decide) ?_ ?_
          · skip
            refine first_exec 4 (by decide +kernel) ⟨_, by simp only [exec1, exa, beq_self_eq_true, ByteArray.size, Nat.reduceAdd, Nat.reduceLeDiff, Nat.reduceEqDiff, Nat.reduceMul, Int.reduceToNat, reduceIte, Int.reduceLE, Int.reduceNeg]; rfl, ?_⟩
            refine first_exec 5 (by decide +kernel) ⟨_, by simp only [exec1, exa, beq_self_eq_true, ByteArray.size, Nat.reduceAdd, Nat.reduceLeDiff, Nat.reduceEqDiff, Nat.reduceMul, Int.reduceToNat, reduceIte, Int.reduceLE, Int.reduceNeg]; rfl, ?_⟩
            refine first_exec 6 (by decide +kernel) ⟨_, by simp only [exec1, exa, beq_self_eq_true, ByteArray.size, Nat.reduceAdd, Nat.reduceLeDiff, Nat.reduceEqDiff, Nat.reduceMul, Int.reduceToNat, reduceIte, Int.reduceLE, Int.reduceNeg]; rfl, ?_⟩
            refine runs_node [7] (by decide +kernel) (by decide) ?_
            refine step_append tab_ok rfl 32 true rfl rfl rfl rfl rfl rfl (by simp only [exa, beq_self_eq_true, ByteArray.size, Nat.reduceAdd, Nat.reduceLeDiff, Nat.reduceEqDiff, Nat.reduceMul, Int.reduceToNat, reduceIte, Int.reduceLE, Int.reduceNeg, rowO]; done) (by simp only [exa, beq_self_eq_true, ByteArray.size, Nat.reduceAdd, Nat.reduceLeDiff, Nat.reduceEqDiff, Nat.reduceMul, Int.reduceToNat, reduceIte, Int.reduceLE, Int.reduceNeg, rowO]; rfl) (by simp only [exa, beq_self_eq_true, ByteArray.size, Nat.reduceAdd, Nat.reduceLeDiff, Nat.reduceEqDiff, Nat.reduceMul, Int.reduceToNat, reduceIte, Int.reduceLE, Int.reduceNeg, rowO]; rfl) rfl rfl rfl rfl (nokeep hkeep) (by simp) (by simp only [List.length_cons, List.length_nil]; omega) (by decide) ?_ ?_
            · skip
              refine first_exec 8 (by decide +kernel) ⟨_, by simp only [exec1, exa, beq_self_eq_true, ByteArray.size, Nat.reduceAdd, Nat.reduceLeDiff, Nat.reduceEqDiff, Nat.reduceMul, Int.reduceToNat, reduceIte, Int.reduceLE, Int.reduceNeg]; rfl, ?_⟩
              refine first_exec 9 (by decide +kernel) ⟨_, by simp only [exec1, exa, beq_self_eq_true, ByteArray.size, Nat.reduceAdd, Nat.reduceLeDiff, Nat.reduceEqDiff, Nat.reduceMul, Int.reduceToNat, reduceIte, Int.reduceLE, Int.reduceNeg]; rfl, ?_⟩
              refine runsw_end (by decide +kernel) ?_
              refine le_mk ?sle ?mle ?swf ?mwf ?kept (by rfl)
              case kept => exact kept_not hkeep
              case swf => repeat (first | exact swf_top _ | refine swf_upd ?_ (by simp [A.ids, upd_app]))
              case mwf => repeat (first | exact mwf_nil _ | refine mwf_upd ?_ (by simp [A.ids, O.ids, upd_app]))
              case mle => repeat (first | exact mle_nil _ | exact mle_refl _ | refine mle_upd ?_ (by first | rfl | (simp only [upd_app, killM_app, Nat.reduceEqDiff, reduceIte, rowO]; done)))
              case sle => repeat (first | exact sle_top _ | exact sle_refl _ | refine sle_upd ?_ (by first | rfl | (simp only [upd_app, entry_zero, entry_succ, Nat.reduceEqDiff, reduceIte, rowO]; done)))
            · trivial
          · skip
            refine step_exec ⟨_, by simp only [exec1, exa, beq_self_eq_true, ByteArray.size, Nat.reduceAdd, Nat.reduceLeDiff, Nat.reduceEqDiff, Nat.reduceMul, Int.reduceToNat, reduceIte, Int.reduceLE, Int.reduceNeg]; rfl, ?_⟩ trivial
            refine runs_node [2, 5] (by decide +kernel) (by decide) ?_
            refine step_appendNil tab_ok rfl 32 true rfl rfl rfl rfl rfl rfl (by simp only [exa, beq_self_eq_true, ByteArray.size, Nat.reduceAdd, Nat.reduceLeDiff, Nat.reduceEqDiff, Nat.reduceMul, Int.reduceToNat, reduceIte, Int.reduceLE, Int.reduceNeg]; done) (by simp only [exa, beq_self_eq_true, ByteArray.size, Nat.reduceAdd, Nat.reduceLeDiff, Nat.reduceEqDiff, Nat.reduceMul, Int.reduceToNat, reduceIte, Int.reduceLE, Int.reduceNeg]; done) (by first | (simp only [exa, beq_self_eq_true, ByteArray.size, Nat.reduceAdd, Nat.reduceLeDiff, Nat.reduceEqDiff, Nat.reduceMul, Int.reduceToNat, reduceIte, Int.reduceLE, Int.reduceNeg]; done) | (simp only [exa, beq_self_eq_true, ByteArray.size, Nat.reduceAdd, Nat.reduceLeDiff, Nat.reduceEqDiff, Nat.reduceMul, Int.reduceToNat, reduceIte, Int.reduceLE, Int.reduceNeg]; rfl)) rfl rfl rfl rfl (rows7 mn) (by omega) (by decide) ?_ ?_
            · skip
              refine first_exec 5 (by decide +kernel) ⟨_, by simp only [exec1, exa, beq_self_eq_true, ByteArray.size, Nat.reduceAdd, Nat.reduceLeDiff, Nat.reduceEqDiff, Nat.reduceMul, Int.reduceToNat, reduceIte, Int.reduceLE, Int.reduceNeg]; rfl, ?_⟩
              refine first_exec 6 (by decide +kernel) ⟨_, by simp only [exec1, exa, beq_self_eq_true, ByteArray.size, Nat.reduceAdd, Nat.reduceLeDiff, Nat.reduceEqDiff, Nat.reduceMul, Int.reduceToNat, reduceIte, Int.reduceLE, Int.reduceNeg]; rfl, ?_⟩
              refine runs_node [7] (by decide +kernel) (by decide) ?_
              refine step_append tab_ok rfl 32 true rfl rfl rfl rfl rfl rfl (by simp only [exa, beq_self_eq_true, ByteArray.size, Nat.reduceAdd, Nat.reduceLeDiff, Nat.reduceEqDiff, Nat.reduceMul, Int.reduceToNat, reduceIte, Int.reduceLE, Int.reduceNeg, rowO]; done) (by simp only [exa, beq_self_eq_true, ByteArray.size, Nat.reduceAdd, Nat.reduceLeDiff, Nat.reduceEqDiff, Nat.reduceMul, Int.reduceToNat, reduceIte, Int.reduceLE, Int.reduceNeg, rowO]; rfl) (by simp only [exa, beq_self_eq_true, ByteArray.size, Nat.reduceAdd, Nat.reduceLeDiff, Nat.reduceEqDiff, Nat.reduceMul, Int.reduceToNat, reduceIte, Int.reduceLE, Int.reduceNeg, rowO]; rfl) rfl rfl rfl rfl (nokeep hkeep) (by simp) (by simp only [List.length_cons, List.length_nil]; omega) (by decide) ?_ ?_
              · skip
                refine first_exec 8 (by decide +kernel) ⟨_, by simp only [exec1, exa, beq_self_eq_true, ByteArray.size, Nat.reduceAdd, Nat.reduceLeDiff, Nat.reduceEqDiff, Nat.reduceMul, Int.reduceToNat, reduceIte, Int.reduceLE, Int.reduceNeg]; rfl, ?_⟩
                refine first_exec 9 (by decide +kernel) ⟨_, by simp only [exec1, exa, beq_self_eq_true, ByteArray.size, Nat.reduceAdd, Nat.reduceLeDiff, Nat.reduceEqDiff, Nat.reduceMul, Int.reduceToNat, reduceIte, Int.reduceLE, Int.reduceNeg]; rfl, ?_⟩
                refine runsw_end (by decide +kernel) ?_
                refine le_mk ?sle ?mle ?swf ?mwf ?kept (by rfl)
                case kept => exact kept_not hkeep
                case swf => repeat (first | exact swf_top _ | refine swf_upd ?_ (by simp [A.ids, upd_app]))
                case mwf => repeat (first | exact mwf_nil _ | refine mwf_upd ?_ (by simp [A.ids, O.ids, upd_app]))
                case mle => repeat (first | exact mle_nil _ | exact mle_refl _ | refine mle_upd ?_ (by first | rfl | (simp only [upd_app, killM_app, Nat.reduceEqDiff, reduceIte, rowO]; done)))
                case sle => repeat (first | exact sle_top _ | exact sle_refl _ | refine sle_upd ?_ (by first | rfl | (simp only [upd_app, entry_zero, entry_succ, Nat.reduceEqDiff, reduceIte, rowO]; done)))
              · trivial
            · skip
              refine step_exec ⟨_, by simp only [exec1, exa, beq_self_eq_true, ByteArray.size, Nat.reduceAdd, Nat.reduceLeDiff, Nat.reduceEqDiff, Nat.reduceMul, Int.reduceToNat, reduceIte, Int.reduceLE, Int.reduceNeg]; rfl, ?_⟩ trivial
              refine runs_node [2, 6] (by decide +kernel) (by decide) ?_
              refine step_appendNil tab_ok rfl 32 true rfl rfl rfl rfl rfl rfl (by simp only [exa, beq_self_eq_true, ByteArray.size, Nat.reduceAdd, Nat.reduceLeDiff, Nat.reduceEqDiff, Nat.reduceMul, Int.reduceToNat, reduceIte, Int.reduceLE, Int.reduceNeg]; done) (by simp only [exa, beq_self_eq_true, ByteArray.size, Nat.reduceAdd, Nat.reduceLeDiff, Nat.reduceEqDiff, Nat.reduceMul, Int.reduceToNat, reduceIte, Int.reduceLE, Int.reduceNeg]; done) (by first | (simp only [exa, beq_self_eq_true, ByteArray.size, Nat.reduceAdd, Nat.reduceLeDiff, Nat.reduceEqDiff, Nat.reduceMul, Int.reduceToNat, reduceIte, Int.reduceLE, Int.reduceNeg]; done) | (simp only [exa, beq_self_eq_true, ByteArray.size, Nat.reduceAdd, Nat.reduceLeDiff, Nat.reduceEqDiff, Nat.reduceMul, Int.reduceToNat, reduceIte, Int.reduceLE, Int.reduceNeg]; rfl)) rfl rfl rfl rfl (rows7 mn) (by omega) (by decide) ?_ ?_
              · skip
                refine first_exec 6 (by decide +kernel) ⟨_, by simp only [exec1, exa, beq_self_eq_true, ByteArray.size, Nat.reduceAdd, Nat.reduceLeDiff, Nat.reduceEqDiff, Nat.reduceMul, Int.reduceToNat, reduceIte, Int.reduceLE, Int.reduceNeg]; rfl, ?_⟩
                refine runs_node [7] (by decide +kernel) (by decide) ?_
                refine step_append tab_ok rfl 32 true rfl rfl rfl rfl rfl rfl (by simp only [exa, beq_self_eq_true, ByteArray.size, Nat.reduceAdd, Nat.reduceLeDiff, Nat.reduceEqDiff, Nat.reduceMul, Int.reduceToNat, reduceIte, Int.reduceLE, Int.reduceNeg, rowO]; done) (by simp only [exa, beq_self_eq_true, ByteArray.size, Nat.reduceAdd, Nat.reduceLeDiff, Nat.reduceEqDiff, Nat.reduceMul, Int.reduceToNat, reduceIte, Int.reduceLE, Int.reduceNeg, rowO]; rfl) (by simp only [exa, beq_self_eq_true, ByteArray.size, Nat.reduceAdd, Nat.reduceLeDiff, Nat.reduceEqDiff, Nat.reduceMul, Int.reduceToNat, reduceIte, Int.reduceLE, Int.reduceNeg, rowO]; rfl) rfl rfl rfl rfl (nokeep hkeep) (by simp) (by simp only [List.length_cons, List.length_nil]; omega) (by decide) ?_ ?_
                · skip
                  refine first_exec 8 (by decide +kernel) ⟨_, by simp only [exec1, exa, beq_self_eq_true, ByteArray.size, Nat.reduceAdd, Nat.reduceLeDiff, Nat.reduceEqDiff, Nat.reduceMul, Int.reduceToNat, reduceIte, Int.reduceLE, Int.reduceNeg]; rfl, ?_⟩
                  refine first_exec 9 (by decide +kernel) ⟨_, by simp only [exec1, exa, beq_self_eq_true, ByteArray.size, Nat.reduceAdd, Nat.reduceLeDiff, Nat.reduceEqDiff, Nat.reduceMul, Int.reduceToNat, reduceIte, Int.reduceLE, Int.reduceNeg]; rfl, ?_⟩
                  refine runsw_end (by decide +kernel) ?_
                  refine le_mk ?sle ?mle ?swf ?mwf ?kept (by rfl)
                  case kept => exact kept_not hkeep
                  case swf => repeat (first | exact swf_top _ | refine swf_upd ?_ (by simp [A.ids, upd_app]))
                  case mwf => repeat (first | exact mwf_nil _ | refine mwf_upd ?_ (by simp [A.ids, O.ids, upd_app]))
                  case mle => repeat (first | exact mle_nil _ | exact mle_refl _ | refine mle_upd ?_ (by first | rfl | (simp only [upd_app, killM_app, Nat.reduceEqDiff, reduceIte, rowO]; done)))
                  case sle => repeat (first | exact sle_top _ | exact sle_refl _ | refine sle_upd ?_ (by first | rfl | (simp only [upd_app, entry_zero, entry_succ, Nat.reduceEqDiff, reduceIte, rowO]; done)))
                · trivial
              · skip
                refine step_exec ⟨_, by simp only [exec1, exa, beq_self_eq_true, ByteArray.size, Nat.reduceAdd, Nat.reduceLeDiff, Nat.reduceEqDiff, Nat.reduceMul, Int.reduceToNat, reduceIte, Int.reduceLE, Int.reduceNeg]; rfl, ?_⟩ trivial
                refine runs_node [2] (by decide +kernel) (by decide) ?_
                refine step_appendNil tab_ok rfl 32 true rfl rfl rfl rfl rfl rfl (by simp only [exa, beq_self_eq_true, ByteArray.size, Nat.reduceAdd, Nat.reduceLeDiff, Nat.reduceEqDiff, Nat.reduceMul, Int.reduceToNat, reduceIte, Int.reduceLE, Int.reduceNeg]; done) (by simp only [exa, beq_self_eq_true, ByteArray.size, Nat.reduceAdd, Nat.reduceLeDiff, Nat.reduceEqDiff, Nat.reduceMul, Int.reduceToNat, reduceIte, Int.reduceLE, Int.reduceNeg]; done) (by first | (simp only [exa, beq_self_eq_true, ByteArray.size, Nat.reduceAdd, Nat.reduceLeDiff, Nat.reduceEqDiff, Nat.reduceMul, Int.reduceToNat, reduceIte, Int.reduceLE, Int.reduceNeg]; done) | (simp only [exa, beq_self_eq_true, ByteArray.size, Nat.reduceAdd, Nat.reduceLeDiff, Nat.reduceEqDiff, Nat.reduceMul, Int.reduceToNat, reduceIte, Int.reduceLE, Int.reduceNeg]; rfl)) rfl rfl rfl rfl (rows7 mn) (by omega) (by decide) ?_ ?_
                · skip
                  refine runs_node [7] (by decide +kernel) (by decide) ?_
                  refine step_append tab_ok rfl 32 true rfl rfl rfl rfl rfl rfl (by simp only [exa, beq_self_eq_true, ByteArray.size, Nat.reduceAdd, Nat.reduceLeDiff, Nat.reduceEqDiff, Nat.reduceMul, Int.reduceToNat, reduceIte, Int.reduceLE, Int.reduceNeg, rowO]; done) (by simp only [exa, beq_self_eq_true, ByteArray.size, Nat.reduceAdd, Nat.reduceLeDiff, Nat.reduceEqDiff, Nat.reduceMul, Int.reduceToNat, reduceIte, Int.reduceLE, Int.reduceNeg, rowO]; rfl) (by simp only [exa, beq_self_eq_true, ByteArray.size, Nat.reduceAdd, Nat.reduceLeDiff, Nat.reduceEqDiff, Nat.reduceMul, Int.reduceToNat, reduceIte, Int.reduceLE, Int.reduceNeg, rowO]; rfl) rfl rfl rfl rfl (nokeep hkeep) (by simp) (by simp only [List.length_cons, List.length_nil]; omega) (by decide) ?_ ?_
                  · skip
                    refine first_exec 8 (by decide +kernel) ⟨_, by simp only [exec1, exa, beq_self_eq_true, ByteArray.size, Nat.reduceAdd, Nat.reduceLeDiff, Nat.reduceEqDiff, Nat.reduceMul, Int.reduceToNat, reduceIte, Int.reduceLE, Int.reduceNeg]; rfl, ?_⟩
                    refine first_exec 9 (by decide +kernel) ⟨_, by simp only [exec1, exa, beq_self_eq_true, ByteArray.size, Nat.reduceAdd, Nat.reduceLeDiff, Nat.reduceEqDiff, Nat.reduceMul, Int.reduceToNat, reduceIte, Int.reduceLE, Int.reduceNeg]; rfl, ?_⟩
                    refine runsw_end (by decide +kernel) ?_
                    refine le_mk ?sle ?mle ?swf ?mwf ?kept (by rfl)
                    case kept => exact kept_not hkeep
                    case swf => repeat (first | exact swf_top _ | refine swf_upd ?_ (by simp [A.ids, upd_app]))
                    case mwf => repeat (first | exact mwf_nil _ | refine mwf_upd ?_ (by simp [A.ids, O.ids, upd_app]))
                    case mle => repeat (first | exact mle_nil _ | exact mle_refl _ | refine mle_upd ?_ (by first | rfl | (simp only [upd_app, killM_app, Nat.reduceEqDiff, reduceIte, rowO]; done)))
                    case sle => repeat (first | exact sle_top _ | exact sle_refl _ | refine sle_upd ?_ (by first | rfl | (simp only [upd_app, entry_zero, entry_succ, Nat.reduceEqDiff, reduceIte, rowO]; done)))
                  · trivial
                · trivial
      · intro st' hle
        refine W.weaken hle ?_
        clear hle st'
        have hqm : cStmts (mn ++ [prX ⟨xk, xn, xm, xs⟩]) = cStmts mn ++ [[.int .i64 5, .int .i64 7, .str ⟨#[]⟩, .str ⟨#[]⟩, .sl [[.int .i64 xk, .int .i64 xn, .str xm, .sl (cExprs xs)]], .sl [], .sl []]] := by
          rw [cStmts_map, cStmts_map, List.map_append]; simp [prX, cStmt, cExpr, cExprs, cStmts]
        rw [hqm] at h2
        (repeat (first | refine W.seq ?_ | refine W.block ?_ | refine W.skip ?_))
        refine W.regionK tab_ok 0 (by decide) ?_
        refine runk_split 1 (by simp only [exa, beq_self_eq_true, ByteArray.size, Nat.reduceAdd, Nat.reduceLeDiff, Nat.reduceEqDiff, Nat.reduceMul, Int.reduceToNat, reduceIte, Int.reduceLE, Int.reduceNeg]; rfl) ?_
        refine runk_call rfl rfl rfl rfl rfl (by simp) (cvs_cons cv_refl cvs_nil) (h2 _) ?_
        refine runk_exec (by simp only [exa, beq_self_eq_true, ByteArray.size, Nat.reduceAdd, Nat.reduceLeDiff, Nat.reduceEqDiff, Nat.reduceMul, Int.reduceToNat, reduceIte, Int.reduceLE, Int.reduceNeg]; rfl) ?_
        have hxb : exprB ⟨xk, xn, xm, xs⟩ = true ∧ sx = strX (exprX ⟨xk, xn, xm, xs⟩ 1) ∧ (exprX ⟨xk, xn, xm, xs⟩ 1).length ≤ 8192 := by
          unfold showX at hx0 hsx
          cases he : exprB ⟨xk, xn, xm, xs⟩ with
          | false => rw [he] at hx0; simp at hx0
          | true =>
            rw [he] at hx0 hsx
            by_cases hl : 8192 < (exprX ⟨xk, xn, xm, xs⟩ 1).length
            · simp [hl] at hx0
            · simp [hl] at hsx
              exact ⟨rfl, hsx.symm, by omega⟩
        obtain ⟨hxb, rfl, hxl⟩ := hxb
        have hqb : checkB ⟨cs, mn ++ [prX ⟨xk, xn, xm, xs⟩]⟩ = true := by
          unfold checkB at hb ⊢
          simp only [Bool.and_eq_true] at hb ⊢
          exact ⟨by rw [List.all_append, hb.1]; simp [prX_ok hxb], hb.2⟩
        obtain ⟨pa, hpa⟩ := whole_text cs mn ⟨xk, xn, xm, xs⟩
        by_cases hl : 8192 < (progX ⟨cs, mn ++ [prX ⟨xk, xn, xm, xs⟩]⟩).length
        · have ht : textP ⟨cs, mn ++ [prX ⟨xk, xn, xm, xs⟩]⟩ = (⟨#[]⟩, 2) := by simp [textP, hqb, hl]
          rw [ht]
          repeat (first | refine W.seq ?_ | refine W.block ?_ | refine W.skip ?_ | refine W.exit ?_ | refine W.region tab_ok 0 (by decide) (exec_run (by simp only [exa, beq_self_eq_true, ByteArray.size, Nat.reduceAdd, Nat.reduceLeDiff, Nat.reduceEqDiff, Nat.reduceMul, Int.reduceToNat, reduceIte, Int.reduceLE, Int.reduceNeg]; rfl)) ?_)
          refine W.cond rfl (fun _ => ?_) (fun h => absurd h (by decide))
          repeat (first | refine W.seq ?_ | refine W.block ?_ | refine W.skip ?_ | refine W.exit ?_ | refine W.region tab_ok 0 (by decide) (exec_run (by simp only [exa, beq_self_eq_true, ByteArray.size, Nat.reduceAdd, Nat.reduceLeDiff, Nat.reduceEqDiff, Nat.reduceMul, Int.reduceToNat, reduceIte, Int.reduceLE, Int.reduceNeg]; rfl)) ?_)
          refine W.ret ⟨.inr rfl, by rfl, ?_⟩
          simp only [Tryd.f6, resA, resOne, toT, fin, exa, beq_self_eq_true, ByteArray.size, Nat.reduceAdd, Nat.reduceLeDiff, Nat.reduceEqDiff, Nat.reduceMul, Int.reduceToNat, reduceIte, Int.reduceLE, Int.reduceNeg]
        · rw [hpa] at hl
          have ht : textP ⟨cs, mn ++ [prX ⟨xk, xn, xm, xs⟩]⟩ = (strX (pa ++ endX ⟨xk, xn, xm, xs⟩), 0) := by unfold textP; rw [if_pos hqb, hpa, if_neg hl]
          rw [ht]
          repeat (first | refine W.seq ?_ | refine W.block ?_ | refine W.skip ?_ | refine W.exit ?_ | refine W.region tab_ok 0 (by decide) (exec_run (by simp only [exa, beq_self_eq_true, ByteArray.size, Nat.reduceAdd, Nat.reduceLeDiff, Nat.reduceEqDiff, Nat.reduceMul, Int.reduceToNat, reduceIte, Int.reduceLE, Int.reduceNeg]; rfl)) ?_)
          refine W.cond rfl (fun h => absurd h (by decide)) (fun _ => ?_)
          obtain ⟨EX, hEX⟩ : ∃ EX, exprX ⟨xk, xn, xm, xs⟩ 1 = EX := ⟨_, rfl⟩
          have hend : 9 :: 112 :: 114 :: 105 :: 110 :: 116 :: 40 :: 55 :: 44 :: 32 :: (EX ++ [41, 59, 10, 125, 10]) = endX ⟨xk, xn, xm, xs⟩ := by rw [← hEX]; simp [endX]
          rw [hEX] at hxl ⊢
          (repeat (first | refine W.seq ?_ | refine W.block ?_ | refine W.skip ?_))
          refine W.regionK tab_ok 0 (by decide) ?_
          refine runk_exec (by simp (disch := omega) only [exa, beq_self_eq_true, ByteArray.size, Nat.reduceAdd, Nat.reduceLeDiff, Nat.reduceEqDiff, Nat.reduceMul, Int.reduceToNat, reduceIte, Int.reduceLE, Int.reduceNeg, app_bytes, if_le, List.length_append, List.length_cons, List.length_nil]; rfl) ?_
          rw [hend]
          obtain ⟨E, hE⟩ : ∃ E, endX ⟨xk, xn, xm, xs⟩ = E := ⟨_, rfl⟩
          rw [hE] at hl ⊢
          (repeat (first | refine W.seq ?_ | refine W.block ?_ | refine W.skip ?_))
          refine W.regionG (by decide) ?_
          refine g_split tab_ok 0 7 ?_
          refine runk_exec (by simp only [exa, beq_self_eq_true, ByteArray.size, Nat.reduceAdd, Nat.reduceLeDiff, Nat.reduceEqDiff, Nat.reduceMul, Int.reduceToNat, reduceIte, Int.reduceLE, Int.reduceNeg]; rfl) ?_
          have hge : decide (((({ data := E.toArray } : ByteArray).data.size : Nat) : Int) ≤ ((pa ++ E).length : Int)) = true := by simp; omega
          rw [hge]
          refine g_split tab_ok 0 8 ?_
          refine runk_exec (by simp only [exa, beq_self_eq_true, ByteArray.size, Nat.reduceAdd, Nat.reduceLeDiff, Nat.reduceEqDiff, Nat.reduceMul, Int.reduceToNat, reduceIte, Int.reduceLE, Int.reduceNeg]; rfl) ?_
          have hw : IntKind.i64.wrap (((pa ++ E).length : Int) - (E.length : Int)) = (((pa ++ E).length - E.length : Nat) : Int) := by
            have h3 : E.length ≤ (pa ++ E).length := by rw [List.length_append]; omega
            rw [← Int.ofNat_sub h3]; exact wrap_nat (by omega)
          refine g_cut tab_ok (s := strX (pa ++ E)) (i := (pa ++ E).length - E.length) (k := .i64) rfl rfl rfl rfl (by first | rfl | (simp only [exa, beq_self_eq_true, ByteArray.size, Nat.reduceAdd, Nat.reduceLeDiff, Nat.reduceEqDiff, Nat.reduceMul, Int.reduceToNat, reduceIte, Int.reduceLE, Int.reduceNeg]; done) | (simp only [exa, beq_self_eq_true, ByteArray.size, Nat.reduceAdd, Nat.reduceLeDiff, Nat.reduceEqDiff, Nat.reduceMul, Int.reduceToNat, reduceIte, Int.reduceLE, Int.reduceNeg]; rfl)) (by first | (simp only [exa, beq_self_eq_true, ByteArray.size, Nat.reduceAdd, Nat.reduceLeDiff, Nat.reduceEqDiff, Nat.reduceMul, Int.reduceToNat, reduceIte, Int.reduceLE, Int.reduceNeg, hw]; done) | (simp only [exa, beq_self_eq_true, ByteArray.size, Nat.reduceAdd, Nat.reduceLeDiff, Nat.reduceEqDiff, Nat.reduceMul, Int.reduceToNat, reduceIte, Int.reduceLE, Int.reduceNeg, hw]; rfl)) (by rw [strX_size]; omega) ?_
          rw [cut_end]
          refine g_split tab_ok 0 4 ?_
          refine runk_exec (by simp only [exa, beq_self_eq_true, ByteArray.size, Nat.reduceAdd, Nat.reduceLeDiff, Nat.reduceEqDiff, Nat.reduceMul, Int.reduceToNat, reduceIte, Int.reduceLE, Int.reduceNeg]; rfl) ?_
          refine g_nil ?_
          (repeat (first | refine W.seq ?_ | refine W.block ?_ | refine W.skip ?_))
          refine W.ret ⟨.inr rfl, by rfl, ?_⟩
          simp only [Tryd.f6, resA, resOne, toT, fin, exa, beq_self_eq_true, ByteArray.size, Nat.reduceAdd, Nat.reduceLeDiff, Nat.reduceEqDiff, Nat.reduceMul, Int.reduceToNat, reduceIte, Int.reduceLE, Int.reduceNeg]
  · have hx1 : decide ((showX ⟨xk, xn, xm, xs⟩).2 = 0) = false := by simpa using hx0
    (repeat (first | refine W.seq ?_ | refine W.block ?_ | refine W.skip ?_))
    repeat (first | refine W.seq ?_ | refine W.block ?_ | refine W.skip ?_ | refine W.exit ?_ | refine W.region tab_ok 0 (by decide) (exec_run (by simp only [exa, beq_self_eq_true, ByteArray.size, Nat.reduceAdd, Nat.reduceLeDiff, Nat.reduceEqDiff, Nat.reduceMul, Int.reduceToNat, reduceIte, Int.reduceLE, Int.reduceNeg, hx1, Bool.not_false]; rfl)) ?_)
    refine W.cond rfl (fun _ => ?_) (fun h => absurd h (by decide))
    repeat (first | refine W.seq ?_ | refine W.block ?_ | refine W.skip ?_ | refine W.exit ?_ | refine W.region tab_ok 0 (by decide) (exec_run (by simp only [exa, beq_self_eq_true, ByteArray.size, Nat.reduceAdd, Nat.reduceLeDiff, Nat.reduceEqDiff, Nat.reduceMul, Int.reduceToNat, reduceIte, Int.reduceLE, Int.reduceNeg]; rfl)) ?_)
    refine W.ret ⟨.inr rfl, by rfl, ?_⟩
    simp only [Tryd.f6, resA, resOne, toT, fin, exa, beq_self_eq_true, ByteArray.size, Nat.reduceAdd, Nat.reduceLeDiff, Nat.reduceEqDiff, Nat.reduceMul, Int.reduceToNat, reduceIte, Int.reduceLE, Int.reduceNeg]
end V
end Go.Proofs.YtbmbmcdaabhgnaaDoor
end
section
set_option linter.unusedVariables false
set_option linter.unusedSimpArgs false
namespace Go.Proofs.YtbmbmcdaabhgnaaDoor
open Go.ChangeShapes Go.WideShapes Go.ChangeAt Go.RowKit
open Go.ChangeMaps (open_string shut_string)
open V
theorem showWhole_met (os : Os) : laidMet Tryd.prog Rows.showWholeUptoRow.laid ((laidWorld os).forCall (fun _ _ => 0) ⟨#[], #[.agg #[.slice none 0 0, .slice none 0 0], .agg #[.int .i64 0, .int .i64 0, .string ⟨#[]⟩, .slice none 0 0]], []⟩).memory :=
  laidMet_of_run' 8 (by kernel_rfl) (by kernel_rfl)
theorem showWhole_reads (os : Os) {H : Type} (enc : TypeId × Value → H) : ∃ places, DataW.whole enc Tryd.prog ((laidWorld os).forCall (fun _ _ => 0) ⟨#[], #[.agg #[.slice none 0 0, .slice none 0 0], .agg #[.int .i64 0, .int .i64 0, .string ⟨#[]⟩, .slice none 0 0]], []⟩).memory Tryd.f6.params.toList Rows.showWholeSpec.vars false (#[.agg #[.slice none 0 0, .slice none 0 0], .agg #[.int .i64 0, .int .i64 0, .string ⟨#[]⟩, .slice none 0 0]] : Array Value).toList 8 = some ([.agg [.nil, .nil], .agg [.lit (.int .i64 0), .lit (.int .i64 0), .lit (.string []), .nil]], [], places) :=
  ⟨[], by kernel_rfl⟩
set_option maxRecDepth 100000 in
set_option maxHeartbeats 4000000 in
theorem showWhole_lifted (os : Os) (started : os.Started) (H : Type) (enc : TypeId × Value → H) (F : Stop.Interp) :
    ReturnsInHanded {} Tryd.checked os 6 .any ((Rows.OpenSpec.upto Rows.showWholeSpec).preRow enc Tryd.prog Tryd.f6 Rows.showWholeUptoRow.domain false Rows.showWholeUptoRow.laid) (((Rows.OpenSpec.upto Rows.showWholeSpec).at F).post enc Tryd.prog Tryd.f6 false true false false) := by
  obtain ⟨places, hx⟩ := showWhole_reads os enc
  refine returnsInHanded_of_row (C := Tryd.checked) (s := Rows.OpenSpec.upto Rows.showWholeSpec) own started (by kernel_rfl) Tryd.func6
    (witness_row_at (enc := enc) (C := Tryd.checked) false (laidWorld os) #[.agg #[.slice none 0 0, .slice none 0 0], .agg #[.int .i64 0, .int .i64 0, .string ⟨#[]⟩, .slice none 0 0]] rfl (by kernel_rfl) (by kernel_rfl) (by kernel_rfl)
      (OpenSpec.preRow_of_cond 8 hx (by kernel_rfl) (fun k hk => by cases hk; rfl) (by kernel_rfl) (showWhole_met os))) ?_
  intro W base args ds gs before hval0 hW _ hcond hsz0 hL hsh _
  have hbulk : Rows.uptoBulkAll (ds ++ gs) ≤ 1048576 := of_decide_eq_true (hcond _ rfl)
  clear hcond
  have hval : ∀ (j : Nat) t v, Tryd.f6.params[j]? = some t → args[j]? = some v → Value.okWide Tryd.prog W .any base t v := hval0
  have hW' := hW
  obtain ⟨p, q, hA0, hV, rfl, hfz, hnd⟩ := hW
  have hA : DataW.TrodAll enc Tryd.prog W 0 (fun _ => true) true Tryd.f6.params.toList args.toList ds p := hA0
  have hsz : ∀ n ∈ DataW.weightsEach Tryd.prog (Tryd.f6.params.toList ++ Rows.showWholeSpec.plain.varTypes Tryd.prog) (ds ++ gs), n ≤ reachBytes := fun n hn => of_decide_eq_true (List.all_eq_true.1 hsz0 n hn)
  rw [Tryd.params6] at hA hval hsz
  clear hsz0
  obtain ⟨v0, vs0, d0, ds0, p0, q0, hargs, rfl, rfl, h0, r0⟩ := trodAll_cons hA
  obtain ⟨v1, vs1, d1, ds1, p1, q1, rfl, rfl, rfl, h1, r1⟩ := trodAll_cons r0
  obtain ⟨rfl, rfl, rfl⟩ := trodAll_nil r1
  obtain rfl : args = #[v0, v1] := by cases args; simp_all
  obtain ⟨rfl, rfl⟩ := trodVars_none hV
  clear hA0 hval0
  simp only [List.append_nil] at hW'
  have k0 := h0
  have lt0 : ∀ x ∈ p0, x.block < W.heap.size := by obtain ⟨m, hm⟩ := k0; exact DataW.trod_lt m _ _ _ hm
  have k1 := h1
  have lt1 : ∀ x ∈ p1, x.block < W.heap.size := by obtain ⟨m, hm⟩ := k1; exact DataW.trod_lt m _ _ _ hm
  have hG : GlobOk W := ⟨cell_of_shapedOpen_int (zero := #[.int .i64 0]) (t := 3) hsh (of_decide_eq_true (by kernel_rfl)) (by kernel_rfl) rfl (by kernel_rfl) (by kernel_rfl) Tryd.underlying3, tens_of hL⟩
  have fit0 : Fits Tryd.prog 33 d0 := fun n hn => hsz n (DataW.weights_mem_each (j := 0) rfl rfl n hn)
  obtain ⟨cs0, rfl, -⟩ := okWide_struct Tryd.underlying33 (hval 0 33 v0 rfl rfl)
  obtain ⟨e0, g0, w0⟩ := read_program fit0 h0 ⟨cs0, rfl⟩
  obtain ⟨n0, hn0⟩ := h0
  have hc0 := prog_cntX (cs := cs0.toList) (x := (d0, p0)) (by simpa using w0) hn0
  have fit1 : Fits Tryd.prog 24 d1 := fun n hn => hsz n (DataW.weights_mem_each (j := 1) rfl rfl n hn)
  obtain ⟨cs1, rfl, -⟩ := okWide_struct Tryd.underlying24 (hval 1 24 v1 rfl rfl)
  obtain ⟨rn1, h1⟩ := h1
  obtain ⟨x1, R1⟩ := read_expr rn1 fit1 h1
  replace R1 : RExpr rn1 W (· < W.heap.size) cs1.toList x1 := by simpa [Value.cells] using R1
  have hc1 := expr_cnt _ _ _ _ _ R1 h1
  have hc2 := Nat.le_trans (dat_two (a := 0) (b := 1) (by decide) rfl rfl) hbulk
  have hc3 : cntP g0 + 1 + cntE x1 ≤ 1048576 := Nat.le_trans (Nat.add_le_add hc0 hc1) hc2
  refine (cok_true (vals := [_, _]) (lawWhole_ok g0 x1 hc3 (fun hb => expr_short (by omega) 1 hb) _) hG (fun B => ⟨rv_prog w0, rv_expr R1, trivial⟩)).mono fun e W' ⟨he, bel⟩ => ?_
  subst he
  exact ⟨_, rfl, _, _, _, [], _, [], hW', trodAll_mk1 (shut_bool Tryd.underlying4 _), trodAll_cons_mk (Below.trod laidOut (by kernel_rfl) (of_decide_eq_true (by kernel_rfl)) k0 bel lt0) (trodAll_cons_mk (Below.trod laidOut (by kernel_rfl) (of_decide_eq_true (by kernel_rfl)) k1 bel lt1) trodAll_mk0), rfl, bel.frame _, fun h => by cases h⟩
theorem showWhole_holds : Rows.ShowWholeUptoSaid :=
  OpenClaim.holds_of_cond 6 Tryd.f6 rfl rfl rfl rfl rfl rfl rfl ⟨rfl, rfl, rfl, rfl, rfl⟩ rfl rfl rfl rfl rfl (by kernel_rfl) Tryd.func6 (by kernel_rfl)
    (of_decide_eq_true (by kernel_rfl)) (by unfold Func.isWrapper; first | (rw [if_pos (by decide +kernel)]; kernel_rfl) | (rw [if_neg (by decide +kernel)]; exact ⟨rfl, rfl⟩))
    (fun os started H enc _ F => by rw [OpenClaim.pre_eq_preRow]; exact showWhole_lifted os started H enc F)
theorem showWhole_plain (f : FuncId) (fn : Func) (hf : Tryd.pinned.checked.prog.funcNamed "mordant/mordantlaw03.ShowWhole" = some f) (hfn : Tryd.pinned.checked.prog.funcs[f]? = some fn) :
    false = Tryd.pinned.checked.prog.looks [] ∧ ∀ (j : Nat) t, fn.params[j]? = some t → Tryd.pinned.checked.prog.wantsStandIn t = false := by
  obtain rfl : f = 6 := Option.some.inj ((show Tryd.prog.funcNamed "mordant/mordantlaw03.ShowWhole" = some 6 by kernel_rfl).symm.trans hf) |>.symm
  obtain rfl : fn = Tryd.f6 := (Option.some.inj (Tryd.func6.symm.trans hfn)).symm
  refine ⟨by kernel_rfl, fun j t ht => ?_⟩
  have hall : Tryd.f6.params.all (fun t => !Tryd.prog.wantsStandIn t) = true := by kernel_rfl
  have := Array.all_eq_true'.1 hall t (Array.mem_of_getElem? ht)
  have h2 : Tryd.prog.wantsStandIn t = false := by simpa using this
  exact h2
theorem showWhole_card : Rows.ShowWholeUptoCardSaid :=
  Claim7.holds_tied_plain_at .later [] _ _ _ _ showWhole_holds (fun _ h => by cases h) (by kernel_rfl) (fun _ h => by cases h) showWholeUpto_row_tie rfl ⟨rfl, rfl⟩ (by kernel_rfl) rfl showWhole_plain (by kernel_rfl)
end Go.Proofs.YtbmbmcdaabhgnaaDoor
end
section

end
