/- Joined by my own program, in build order: Vnil, Tn, Pa. -/
import Derived.Test.YtnmfbaahabcocaaDoorY40
import Derived.Test.YtnmfbaahabcocaaDoorY41
import Derived.Test.YtnmfbaahabcocaaDoorY20
set_option linter.unusedVariables false
set_option linter.unusedSimpArgs false
section
namespace Go.Proofs.YtnmfbaahabcocaaDoor
namespace V
open Go.RowKit
structure HAppendNil (T : Tab) (ops : Array Oper) (o : Oper) (st : St) (c : Call) (x y : Operand) (t d id e n b : Nat) (zs : List Value) (ys : List (List C)) : Prop where
 want : wantA ops o st.s = some true
 op : o.op = .call c
 callee : c.callee = .builtin .append
 args : c.args = #[x, y]
 tys : c.argTypes = #[t, t]
 dst : o.dst = some d
 at_ : ev st.s x = .nil
 free : st.m id = none
 val : asC st.m (ev st.s y) = some (.sl ys)
 elem : T.elem t = some (e, n)
 bytes : T.bytes e = some b
 zero : T.zero e = some zs
 zlen : zs.length = n
 lens : ∀ z ∈ ys, z.length = n
 bound : ys.length * b ≤ 140737488355328
 small : ys.length ≤ maxLen
section
variable {P : Go.Program} {T : Tab} (hT : T.Ok P) {kp : Nat → Prop} {ops : Array Oper}
theorem killed_free {m : Mem} {id : Nat} (hw : ∀ i o, m i = some o → ∀ j ∈ o.ids, (m j).isSome = true) (hM : m id = none) (j : Nat) : (m j).map (O.kill id) = m j := congrFun (kill_free hw hM) j
theorem nilW {st : St} {id : Nat} {o' : O} (hw : WF st) (hl : ∀ i ∈ o'.ids, (st.m i).isSome = true) (d : Nat) : WF ⟨upd st.s d (.own id), upd st.m id (some o')⟩ := by
 have hlv : ∀ i, (st.m i).isSome = true → (upd st.m id (some o') i).isSome = true := fun i hi => live_upd i hi
 refine ⟨fun t i hi => ?_, fun k z hz i hi => hlv i ?_⟩
 ·dsimp only at hi
  unfold upd at hi
  split at hi
  ·simp [A.ids] at hi; subst hi; show (upd st.m i (some o') i).isSome = true; rw [upd_same]; rfl
  ·exact hlv i (hw.ids t i hi)
 ·dsimp only at hz
  unfold upd at hz
  split at hz
  ·cases hz; exact hl i hi
  ·exact hw.live k z hz i hi
include hT
theorem eff_appendNil {o : Oper} {st : St} {c : Call} {x y : Operand} {t d id e n b : Nat} (fz : Bool) {zs : List Value} {ys : List (List C)} (h : HAppendNil T ops o st c x y t d id e n b zs ys) :
  Eff P T kp ops o st ⟨upd st.s d (.own id), upd st.m id (some (rowO fz e n ys))⟩ := by
 refine ⟨by rw [h.op]; simp [kind, h.callee], fun hw => ?_, fun R n0 ds a w K Q hR hr hd hK => ?_⟩
 ·exact nilW hw (fun i hi => by cases fz <;> simp [rowO, O.ids] at hi) d
 ·obtain ⟨B0, I, hm0, hx0, hkp0, hs0⟩ := hr.ex
  rw [want_snd hs0 h.want, if_pos rfl]
  have hne : ∀ j, (st.m j).isSome = true → j ≠ id := fun j hj e' => by subst e'; rw [h.free] at hj; cases hj
  obtain ⟨hu, hn0, i, hi, hin⟩ := hT.elem _ _ _ h.elem
  obtain ⟨i2, hi2, hib⟩ := hT.bytes _ _ h.bytes
  obtain ⟨i3, z, hi3, hz, hzc, -⟩ := hT.zero _ _ h.zero
  have e1 : i2 = i := Option.some.inj (hi2.symm.trans hi)
  have e2 : i3 = i := Option.some.inj (hi3.symm.trans hi)
  subst e1 e2
  have hxn : a.eval x = .slice none 0 0 := by have := ev_rv hs0 x; rw [h.at_] at this; exact this
  obtain ⟨ad, my, cap, news, hyv, hn, hnl, hcellsN, hrcs, hone⟩ := news_of hn0 (asC_rc hm0 h.val (ev_rv hs0 y)) h.lens
  have hm1 := hm0.newNil (id := id) h.free fz e n
  generalize hB : upd B0 id (Value.slice none 0 0) = B at hm1
  have hx : a.eval x = B id := by rw [hxn, ← hB, upd_same]
  have harr : upd st.m id (some (rowO fz e n [])) id = some (rowO fz e n []) := upd_same ..
  have hm := hm1
  have fin : ∃ v' w' I', (Builtin.append_ #[t, t] o.type #[B id, .slice ad my cap]).run P w = .ok v' w' ∧ (∃ aa nn cc, v' = .slice aa nn cc) ∧ MR R.w0 R.I0 (upd B id v') I' (upd (killM id (upd st.m id (some (rowO fz e n [])))) id (some (rowO fz e n ([] ++ ys)))) w' ∧ Ext w w' I I' := by
   cases fz with
   | true =>
    obtain ⟨vs, hv, hvs, hlx, hiff⟩ := hm.objs id _ harr
    obtain ⟨v', w', r1, r2, r3, r4, r5, r6⟩ := run_append_two (P := P) w t o.type e i3 z n b hu hi3 hz hin hib (by rw [hzc]; simpa using h.zlen) hn0 (B id) 0 vs hv ad my cap news hnl hcellsN hone (by rw [← hn, Nat.zero_add]; exact h.small) (by rw [← hn, Nat.zero_add]; exact h.bound)
    rw [← hn] at r2
    obtain ⟨I', hm', hE⟩ := hm.append harr hv hvs hlx hiff r2 hrcs h.lens r3 r4 r5 r6
    refine ⟨v', w', I', r1, ?_, hm', hE⟩
    rcases r2.2 with ⟨q, -⟩ | ⟨g, cap, cur, q, -⟩
    ·exact ⟨_, _, _, q⟩
    ·exact ⟨_, _, _, q⟩
   | false =>
    obtain ⟨vs, hv, hvs, hlx, hI⟩ := hm.objs id _ harr
    obtain ⟨v', w', r1, r2, r3, r4, r5, r6⟩ := run_append_at (P := P) w t o.type e i3 z n b hu hi3 hz hin hib (by rw [hzc]; simpa using h.zlen) hn0 (B id) 0 vs hv ad my cap news hnl hcellsN hone (by rw [← hn, Nat.zero_add]; exact h.small) (by rw [← hn, Nat.zero_add]; exact h.bound)
    rw [← hn] at r2
    obtain ⟨hm', hE⟩ := hm.appendM harr hvs hlx hI r2 hrcs h.lens r3 r4 r5 r6
    obtain ⟨ad', cap', q, -⟩ := r2.shape
    exact ⟨v', w', I, r1, ⟨_, _, _, q⟩, hm', hE⟩
  obtain ⟨v', w', I', r1, hsh, hm', hE⟩ := fin
  have hrun : (execOp a.eval o).run P w = .ok (.value v') w' := by
   obtain ⟨cal, args, tys⟩ := c
   have h7 := h.callee
   have h8 := h.args
   have h9 := h.tys
   simp only at h7 h8 h9
   subst h7 h8 h9
   simp only [execOp, h.op, resolve, invoke, builtin, Sem.run_bind, Sem.run_pure, Result.andThen_ok, List.map_toArray, List.map_cons, List.map_nil, hx, hyv, r1]
  unfold Oper.wp Oper.upon
  rw [hrun]
  have hdlt : ∀ q, o.dst = some q → q < a.tmps.size := fun q hq => by rw [hr.size]; exact hd q hq
  have hmem : upd (killM id (upd st.m id (some (rowO fz e n [])))) id (some (rowO fz e n ([] ++ ys))) = upd st.m id (some (rowO fz e n ys)) := by
   funext j
   unfold upd
   split
   ·rfl
   ·rename_i e'
    show ((if j = id then _ else st.m j).map (O.kill id)) = st.m j
    rw [if_neg e']
    exact killed_free hr.wf.live h.free j
  rw [hmem] at hm'
  have hput := putS_rv (dst := o.dst) (r := A.own id) (v := v') (B := upd B id v') (w := w') (I := I') (s := st.s) (fun t' => (hs0 t').mono hE fun j hj => by
   rw [upd_ne _ _ (hne j (hr.ids t' j hj)), ← hB, upd_ne _ _ (hne j (hr.ids t' j hj))]) ⟨(upd_same B id v').symm, hsh⟩ hdlt
  rw [h.dst] at hput
  have hwf : WF ⟨upd st.s d (.own id), upd st.m id (some (rowO fz e n ys))⟩ := nilW hr.wf (fun i hi => by cases fz <;> simp [rowO, O.ids] at hi) d
  refine hK _ _ ⟨⟨_, I', hm', hx0.trans hE, fun j hj => ?_, by rw [h.dst]; exact hput⟩, hwf.ids, by rw [(put_dst_size _ _ _).1]; exact hr.size, hr.nn, by
   rw [(put_dst_size _ _ _).2]
   have hdd : DID ≠ d := fun q => absurd (hd d h.dst) (Nat.not_lt.2 (q ▸ hr.nn))
   show a.defers = dfs (upd st.s d (.own id) DID) ++ ds
   rw [upd_ne _ _ hdd]; exact hr.defs, fun j hj => ?_⟩
  ·rw [upd_ne _ _ (hne j (hr.kept j hj)), ← hB, upd_ne _ _ (hne j (hr.kept j hj))]; exact hkp0 j hj
  ·have := hr.kept j hj
   show (upd st.m id _ j).isSome = true
   unfold upd; split
   ·rfl
   ·exact this
theorem runk_appendNil {base : Nat} {o : Oper} {l : List Oper} {st : St} {k : St → Prop} {c : Call} {x y : Operand} {t d : Nat} (id : Nat) {e n b : Nat} (fz : Bool) {zs : List Value} {ys : List (List C)} (h : wantA ops o st.s = some true) (hop : o.op = .call c) (hc : c.callee = .builtin .append) (ha : c.args = #[x, y]) (ht : c.argTypes = #[t, t]) (hd : o.dst = some d)
  (hx : ev st.s x = .nil) (hm : st.m id = none) (hy : asC st.m (ev st.s y) = some (.sl ys)) (h1 : T.elem t = some (e, n)) (h2 : T.bytes e = some b) (h3 : T.zero e = some zs) (h4 : zs.length = n) (hl : ∀ z ∈ ys, z.length = n) (hb : ys.length * b ≤ 140737488355328) (hb0 : 0 < b)
  (ht2 : RunK P T kp base ops l ⟨upd st.s d (.own id), upd st.m id (some (rowO fz e n ys))⟩ k) : RunK P T kp base ops (o :: l) st k :=
 runk_step (.eff (eff_appendNil hT fz ⟨h, hop, hc, ha, ht, hd, hx, hm, hy, h1, h2, h3, h4, hl, hb, app_small hb hb0⟩)) ht2
end
def tabL : Tab := { tab with lit := true }
namespace L
theorem tab_ok : tabL.Ok Tryd.prog := ⟨V.tab_ok.ty, V.tab_ok.zero, V.tab_ok.elem, V.tab_ok.off, V.tab_ok.bool, V.tab_ok.fields, V.tab_ok.bytes, V.tab_ok.nilk, V.tab_ok.int, V.tab_ok.map, V.tab_ok.str, V.tab_ok.one, V.tab_ok.seq⟩
end L
end V
end Go.Proofs.YtnmfbaahabcocaaDoor
end
section
namespace Go.Proofs.YtnmfbaahabcocaaDoor
namespace V
open Go.RowKit G
theorem done_set {α β : Type} (f : α → β) (z : β) {l : List α} {k : Nat} {x : α} (hx : l[k]? = some x) : ((l.take k).map f ++ List.replicate (l.length - k) z).set k (f x) = (l.take (k + 1)).map f ++ List.replicate (l.length - (k + 1)) z := by
 have hk := (List.getElem?_eq_some_iff.1 hx).1
 rw [List.take_add_one, hx, Option.toList_some, List.map_append, List.map_cons, List.map_nil, List.append_assoc, List.set_append, if_neg (by simp; omega)]
 congr 1
 obtain ⟨d, hd⟩ : ∃ d, l.length - k = d + 1 := ⟨l.length - k - 1, by omega⟩
 rw [hd, show l.length - (k + 1) = d by omega, show k - ((l.take k).map f).length = 0 by simp; omega]
 rfl
theorem done_len {α β : Type} (f : α → β) (z : β) {l : List α} {k : Nat} (hk : k ≤ l.length) : ((l.take k).map f ++ List.replicate (l.length - k) z).length = l.length := by simp; omega
theorem turn_ok (l : List (Int × Int)) (hlen : l.length ≤ 100000000) (m : Mem) : COk Tryd.prog 33 [.c (.sl (l.map cE))] m (.c (.sl ((l.map turnE).map cE))) := by
 refine (ok_pure tab_ok Tryd.func33 (by kernel_rfl) rfl rfl (by rfl) (by rfl) (by rfl) (fun R hkeep => ?_) m)
 have h1 : l.length * 16 ≤ 140737488355328 := by omega
 have h2 : ((l.length : Nat) : Int) ≤ 9223372036854775807 := by omega
 repeat (first | refine W.seq ?_ | refine W.block ?_ | refine W.skip ?_ | refine W.exit ?_ | refine W.region tab_ok 0 (by decide) (exec_run (by simp only [exa, beq_self_eq_true, ByteArray.size, Nat.reduceAdd, Nat.reduceLeDiff, Nat.reduceEqDiff, Nat.reduceMul, Int.reduceToNat, reduceIte, Int.reduceLE, Int.reduceNeg, Int.toNat_natCast, h1, h2, and_self, Bool.false_eq_true]; rfl)) ?_)
 refine W.loop (ι := Nat) (fun k => ⟨upd (upd (upd (upd (fun _ => .top) 3 (.own 8)) 9 (.c (.sl (l.map cE)))) 10 (.c (.int .i64 l.length))) 11 (.c (.int .i64 k)), upd Mem.nil 8 (some (.mrow 42 2 ((l.take k).map (fun x => cE (turnE x)) ++ List.replicate (l.length - k) [.int .i64 0, .int .i64 0])))⟩) (fun k => k ≤ l.length) (fun k => l.length - k) 0 ?start (Nat.zero_le _) ?round
 case start =>
  refine le_mk ?sle ?mle ?swf ?mwf ?kept (by rfl)
  case kept => exact kept_not hkeep
  case swf => repeat (first | exact swf_top _ | refine swf_upd ?_ (by simp [A.ids, upd_app]))
  case mwf => repeat (first | exact mwf_nil _ | refine mwf_upd ?_ (by simp [A.ids, O.ids, upd_app]))
  case mle => repeat (first | exact mle_nil _ | exact mle_refl _ | refine mle_upd ?_ (by first | rfl | (simp only [upd_app, killM_app, Nat.reduceEqDiff, reduceIte]; done)))
  case sle => repeat (first | exact sle_top _ | exact sle_refl _ | refine sle_upd ?_ (by first | rfl | (simp only [upd_app, entry_zero, entry_succ, Nat.reduceEqDiff, reduceIte]; done)))
 case round =>
  intro k hkl
  repeat (first | refine W.seq ?_ | refine W.block ?_ | refine W.skip ?_ | refine W.exit ?_ | refine W.region tab_ok 0 (by decide) (exec_run (by simp only [exa, beq_self_eq_true, ByteArray.size, Nat.reduceAdd, Nat.reduceLeDiff, Nat.reduceEqDiff, Nat.reduceMul, Int.reduceToNat, reduceIte, Int.reduceLE, Int.reduceNeg]; rfl)) ?_)
  refine W.cond rfl ?_ ?_
  ·intro hlt
   simp only [decide_eq_true_eq, Int.ofNat_lt] at hlt
   obtain ⟨⟨x, y⟩, hx⟩ : ∃ x, l[k]? = some x := ⟨_, List.getElem?_eq_getElem hlt⟩
   have hat : ∃ z, ((l.take k).map (fun x => cE (turnE x)) ++ List.replicate (l.length - k) [C.int .i64 0, C.int .i64 0])[k]? = some z ∧ z = [C.int .i64 0, C.int .i64 0] := by
    refine ⟨_, ?_, rfl⟩
    rw [List.getElem?_append_right (by simp; omega), List.getElem?_replicate, if_pos (by simp; omega)]
   obtain ⟨z, hz, rfl⟩ := hat
   have hset := done_set (fun x => cE (turnE x)) [C.int .i64 0, C.int .i64 0] hx
   have hcx : cE (x, y) = [.int .i64 x, .int .i64 y] := rfl
   have hset : List.set _ k [C.int .i64 y, C.int .i64 x] = _ := hset
   repeat (first | refine W.seq ?_ | refine W.block ?_ | refine W.skip ?_ | refine W.exit ?_ | refine W.region tab_ok 0 (by decide) (exec_run (by simp only [exa, beq_self_eq_true, ByteArray.size, Nat.reduceAdd, Nat.reduceLeDiff, Nat.reduceEqDiff, Nat.reduceMul, Int.reduceToNat, reduceIte, Int.reduceLE, Int.reduceNeg, at_map hx, hcx, done_len (fun x => cE (turnE x)) [C.int .i64 0, C.int .i64 0] hkl, hlt, Int.toNat_natCast, and_self, hz]; rfl)) ?_)
   refine ⟨k + 1, hlt, by omega, ?_⟩
   refine le_mk ?sle ?mle ?swf ?mwf ?kept (by rfl)
   case kept => exact kept_not hkeep
   case swf => repeat (first | exact swf_top _ | refine swf_upd ?_ (by simp [A.ids, upd_app]))
   case mwf => repeat (first | exact mwf_nil _ | refine mwf_upd ?_ (by simp [A.ids, O.ids, upd_app]))
   case mle => repeat (first | exact mle_nil _ | exact mle_refl _ | refine mle_upd ?_ (by first | rfl | (simp only [upd_app, killM_app, Nat.reduceEqDiff, reduceIte, wrap_succ (show k + 1 < 9223372036854775808 by omega), replC, List.take, List.drop, hset]; done)))
   case sle => repeat (first | exact sle_top _ | exact sle_refl _ | refine sle_upd ?_ (by first | rfl | (simp only [upd_app, entry_zero, entry_succ, Nat.reduceEqDiff, reduceIte, wrap_succ (show k + 1 < 9223372036854775808 by omega), replC, List.take, List.drop, hset]; done)))
  ·intro hge
   simp only [decide_eq_false_iff_not, Int.ofNat_lt] at hge
   obtain rfl : k = l.length := by omega
   repeat (first | refine W.seq ?_ | refine W.block ?_ | refine W.skip ?_ | refine W.exit ?_ | refine W.region tab_ok 0 (by decide) (exec_run (by simp only [exa, beq_self_eq_true, ByteArray.size, Nat.reduceAdd, Nat.reduceLeDiff, Nat.reduceEqDiff, Nat.reduceMul, Int.reduceToNat, reduceIte, Int.reduceLE, Int.reduceNeg]; rfl)) ?_)
   refine W.freeze 2 8 rfl rfl (nokeep hkeep) ?_
   refine W.ret ⟨.inr rfl, by rfl, ?_⟩
   simp only [Tryd.f33, resA, resOne, toT, fin, exa, beq_self_eq_true, ByteArray.size, Nat.reduceAdd, Nat.reduceLeDiff, Nat.reduceEqDiff, Nat.reduceMul, Int.reduceToNat, reduceIte, Int.reduceLE, Int.reduceNeg, List.take_length, Nat.sub_self]
   simp [Function.comp_def]
end V
end Go.Proofs.YtnmfbaahabcocaaDoor
end
section
namespace Go.Proofs.YtnmfbaahabcocaaDoor
namespace V
open Go.RowKit G
def swapE (E : List (Nat × Nat)) : List (Nat × Nat) := E.map fun e => (e.2, e.1)
theorem mem_swap {E : List (Nat × Nat)} {i j : Nat} : (i, j) ∈ swapE E ↔ (j, i) ∈ E := by
 simp only [swapE, List.mem_map, Prod.mk.injEq]
 constructor
 ·rintro ⟨⟨a, b⟩, h, rfl, rfl⟩; exact h
 ·intro h; exact ⟨_, h, rfl, rfl⟩
theorem turnN_ok (E : List (Nat × Nat)) (hlen : E.length ≤ 1000000) (m : Mem) : COk Tryd.prog 33 [.c (.sl (E.map cEd))] m (.c (.sl ((swapE E).map cEd))) := by
 have := turn_ok (E.map castE) (by simp; omega) m
 have e : ((E.map castE).map turnE).map cE = (swapE E).map cEd := by simp [swapE, castE, turnE, cE, cEd, Function.comp_def]
 rwa [cE_cast, e] at this
end V
end Go.Proofs.YtnmfbaahabcocaaDoor
end
