/- Joined by my own program, in build order: Me, FitP7, Have, RP, R1, R2, R3, R4, R5, Ch, La, Bulk2, Bulk7, LawProg. -/
import Derived.Test.YthhpcjoaogmhbaaGreatY30
import Derived.Test.YthhpcjoaogmhbaaGreatY29
import Derived.Test.YthhpcjoaogmhbaaGreatY28
set_option linter.unusedVariables false
set_option linter.unusedSimpArgs false
namespace Go.Proofs.YthhpcjoaogmhbaaGreat
theorem zy31q1 {p : Prop} (h : p := by (first | rfl | (simp only [upd_app, entry_zero, entry_succ, Nat.reduceEqDiff, reduceIte, List.map_append, List.append_assoc, List.map_cons, List.map_nil, cSlot, List.nil_append, List.cons_append, wrap_succ (show k + 1 < 9223372036854775808 by omega)]; done))) : p := h
theorem zy31q2 {p : Prop} (h : p := by (first | rfl | (simp only [upd_app, entry_zero, entry_succ, Nat.reduceEqDiff, reduceIte, List.length_append, List.length_singleton, wrap_succ (show ts.length + 1 < 9223372036854775808 by omega), List.map_append, List.map_cons, List.map_nil, cStr]; done))) : p := h
theorem zy31q3 {p : Prop} (h : p := by (first | rfl | (simp only [upd_app, killM_app, Nat.reduceEqDiff, reduceIte, List.map_append, List.append_assoc, List.map_cons, List.map_nil, cSlot, List.nil_append, List.cons_append, wrap_succ (show k + 1 < 9223372036854775808 by omega)]; done))) : p := h
theorem zy31q4 {p : Prop} (h : p := by (first | rfl | (simp only [upd_app, killM_app, Nat.reduceEqDiff, reduceIte, List.length_append, List.length_singleton, wrap_succ (show ts.length + 1 < 9223372036854775808 by omega), List.map_append, List.map_cons, List.map_nil, cStr]; done))) : p := h
theorem zy31q5 {p : Prop} (h : p := by (first | (simp only [upd_app, sD, DID, entry_zero, entry_succ, Nat.reduceEqDiff, Nat.reduceAdd, reduceIte]; done) | (simp only [upd_app, sD, DID, entry_zero, entry_succ, Nat.reduceEqDiff, Nat.reduceAdd, reduceIte]; rfl))) : p := h
theorem zy31q6 {p : Prop} (h : p := by (intro j hj; simp only [O.ids] at hj; first | (rw [entsS_flat] at hj; cases hj) | (rw [← entsS_push, entsS_flat] at hj; cases hj) | (simp [A.ids] at hj; done) | (simp [A.ids, upd_app] at hj ⊢; simp [hj]))) : p := h
theorem zy31q7 {p : Prop} (h : p := by (simp only [Tryz.f106, resA, resOne, toT, fin, exb, Nat.reduceAdd, Nat.reduceLeDiff, Nat.reduceEqDiff, Nat.reduceMul, Int.reduceToNat, reduceIte, Int.reduceLE, Int.reduceNeg]; rfl)) : p := h
theorem zy31q8 {p : Prop} (h : p := by (simp only [Tryz.f107, resA, resOne, toT, fin, exb, Nat.reduceAdd, Nat.reduceLeDiff, Nat.reduceEqDiff, Nat.reduceMul, Int.reduceToNat, reduceIte, Int.reduceLE, Int.reduceNeg]; rfl)) : p := h
theorem zy31q9 {p : Prop} (h : p := by (simp only [Tryz.f82, resA, resOne, toT, fin, exb, Nat.reduceAdd, Nat.reduceLeDiff, Nat.reduceEqDiff, Nat.reduceMul, Int.reduceToNat, reduceIte, Int.reduceLE, Int.reduceNeg]; rfl)) : p := h
theorem zy31q10 {p : Prop} (h : p := by (simp only [Tryz.f54, resA, resOne, toT, fin, exb, Nat.reduceAdd, Nat.reduceLeDiff, Nat.reduceEqDiff, Nat.reduceMul, Int.reduceToNat, reduceIte, Int.reduceLE, Int.reduceNeg]; rfl)) : p := h
theorem zy31q11 {p : Prop} (h : p := by (simp only [exb, Nat.reduceAdd, Nat.reduceLeDiff, Nat.reduceEqDiff, Nat.reduceMul, Int.reduceToNat, reduceIte, Int.reduceLE, Int.reduceNeg, methodC, cMethod, zeroMethod]; rfl)) : p := h
theorem zy31q12 {p : Prop} (h : p := by (simp only [Tryz.f82, resA, resOne, toT, fin, exb, Nat.reduceAdd, Nat.reduceLeDiff, Nat.reduceEqDiff, Nat.reduceMul, Int.reduceToNat, reduceIte, Int.reduceLE, Int.reduceNeg])) : p := h
theorem zy31q13 {p : Prop} (h : p := by (simp only [Tryz.f30, resA, resOne, toT, fin, exb, Nat.reduceAdd, Nat.reduceLeDiff, Nat.reduceEqDiff, Nat.reduceMul, Int.reduceToNat, reduceIte, Int.reduceLE, Int.reduceNeg])) : p := h
theorem zy31q14 {p : Prop} (h : p := by (simp only [exec1, exb, Nat.reduceAdd, Nat.reduceLeDiff, Nat.reduceEqDiff, Nat.reduceMul, Int.reduceToNat, reduceIte, Int.reduceLE, Int.reduceNeg, C7.tabs, V.tabs]; rfl)) : p := h
theorem zy31q15 {p : Prop} (h : p := by (simp only [exb, Nat.reduceAdd, Nat.reduceLeDiff, Nat.reduceEqDiff, Nat.reduceMul, Int.reduceToNat, reduceIte, Int.reduceLE, Int.reduceNeg, at_map hx, cSlot]; rfl)) : p := h
theorem zy31q16 {p : Prop} (h : p := by (simp only [exb, Nat.reduceAdd, Nat.reduceLeDiff, Nat.reduceEqDiff, Nat.reduceMul, Int.reduceToNat, reduceIte, Int.reduceLE, Int.reduceNeg, methodC, cMethod]; rfl)) : p := h
theorem zy31q17 {p : Prop} (h : p := by (simp only [exb, Nat.reduceAdd, Nat.reduceLeDiff, Nat.reduceEqDiff, Nat.reduceMul, Int.reduceToNat, reduceIte, Int.reduceLE, Int.reduceNeg, OO.tabs, V.tabs]; rfl)) : p := h
theorem zy31q18 {p : Prop} (h : p := by (simp only [exb, Nat.reduceAdd, Nat.reduceLeDiff, Nat.reduceEqDiff, Nat.reduceMul, Int.reduceToNat, reduceIte, Int.reduceLE, Int.reduceNeg, BB.tabs, V.tabs]; rfl)) : p := h
theorem zy31q19 {p : Prop} (h : p := by (simp only [exb, Nat.reduceAdd, Nat.reduceLeDiff, Nat.reduceEqDiff, Nat.reduceMul, Int.reduceToNat, reduceIte, Int.reduceLE, Int.reduceNeg, h1, h2, h3, h4]; rfl)) : p := h
theorem zy31q20 {p : Prop} (h : p := by (first | rfl | (simp only [exb, Nat.reduceAdd, Nat.reduceLeDiff, Nat.reduceEqDiff, Nat.reduceMul, Int.reduceToNat, reduceIte, Int.reduceLE, Int.reduceNeg]; rfl))) : p := h
theorem zy31q21 {p : Prop} (h : p := by (simp only [exb, Nat.reduceAdd, Nat.reduceLeDiff, Nat.reduceEqDiff, Nat.reduceMul, Int.reduceToNat, reduceIte, Int.reduceLE, Int.reduceNeg, hsat, sD, DID]; rfl)) : p := h
theorem zy31q22 {p : Prop} (h : p := by (simp only [exb, Nat.reduceAdd, Nat.reduceLeDiff, Nat.reduceEqDiff, Nat.reduceMul, Int.reduceToNat, reduceIte, Int.reduceLE, Int.reduceNeg, hmat, sD, DID]; rfl)) : p := h
theorem zy31q23 {p : Prop} (h : p := by (simp only [exb, Nat.reduceAdd, Nat.reduceLeDiff, Nat.reduceEqDiff, Nat.reduceMul, Int.reduceToNat, reduceIte, Int.reduceLE, Int.reduceNeg, cStr, ha, hb]; rfl)) : p := h
theorem zy31q24 {p : Prop} (h : p := by (simp only [exb, Nat.reduceAdd, Nat.reduceLeDiff, Nat.reduceEqDiff, Nat.reduceMul, Int.reduceToNat, reduceIte, Int.reduceLE, Int.reduceNeg, hcp, h1, h2]; rfl)) : p := h
theorem zy31q25 {p : Prop} (h : p := by (simp only [exb, Nat.reduceAdd, Nat.reduceLeDiff, Nat.reduceEqDiff, Nat.reduceMul, Int.reduceToNat, reduceIte, Int.reduceLE, Int.reduceNeg, hcp, cStr]; rfl)) : p := h
theorem zy31q26 {p : Prop} (h : p := by (simp only [exb, Nat.reduceAdd, Nat.reduceLeDiff, Nat.reduceEqDiff, Nat.reduceMul, Int.reduceToNat, reduceIte, Int.reduceLE, Int.reduceNeg, sD, DID]; rfl)) : p := h
theorem zy31q27 {p : Prop} (h : p := by (simp only [exb, Nat.reduceAdd, Nat.reduceLeDiff, Nat.reduceEqDiff, Nat.reduceMul, Int.reduceToNat, reduceIte, Int.reduceLE, Int.reduceNeg, h1, h2]; rfl)) : p := h
theorem zy31q28 {p : Prop} (h : p := by (simp only [exb, Nat.reduceAdd, Nat.reduceLeDiff, Nat.reduceEqDiff, Nat.reduceMul, Int.reduceToNat, reduceIte, Int.reduceLE, Int.reduceNeg, rowO]; done)) : p := h
theorem zy31q29 {p : Prop} (h : p := by (simp only [exb, Nat.reduceAdd, Nat.reduceLeDiff, Nat.reduceEqDiff, Nat.reduceMul, Int.reduceToNat, reduceIte, Int.reduceLE, Int.reduceNeg, cStr]; rfl)) : p := h
theorem zy31q30 {p : Prop} (h : p := by (simp only [exb, Nat.reduceAdd, Nat.reduceLeDiff, Nat.reduceEqDiff, Nat.reduceMul, Int.reduceToNat, reduceIte, Int.reduceLE, Int.reduceNeg, rowO]; rfl)) : p := h
theorem zy31q31 {p : Prop} (h : p := by (simp only [exb, Nat.reduceAdd, Nat.reduceLeDiff, Nat.reduceEqDiff, Nat.reduceMul, Int.reduceToNat, reduceIte, Int.reduceLE, Int.reduceNeg, hsat]; rfl)) : p := h
theorem zy31q32 {p : Prop} (h : p := by (simp only [exb, Nat.reduceAdd, Nat.reduceLeDiff, Nat.reduceEqDiff, Nat.reduceMul, Int.reduceToNat, reduceIte, Int.reduceLE, Int.reduceNeg, hcp]; rfl)) : p := h
theorem zy31q33 {p : Prop} (h : p := by (simp only [exb, Nat.reduceAdd, Nat.reduceLeDiff, Nat.reduceEqDiff, Nat.reduceMul, Int.reduceToNat, reduceIte, Int.reduceLE, Int.reduceNeg, hat]; rfl)) : p := h
theorem zy31q34 {p : Prop} (h : p := by (simp only [exb, Nat.reduceAdd, Nat.reduceLeDiff, Nat.reduceEqDiff, Nat.reduceMul, Int.reduceToNat, reduceIte, Int.reduceLE, Int.reduceNeg, DID]; rfl)) : p := h
theorem zy31q35 {p : Prop} (h : p := by (simp only [exec1, exb, Nat.reduceAdd, Nat.reduceLeDiff, Nat.reduceEqDiff, Nat.reduceMul, Int.reduceToNat, reduceIte, Int.reduceLE, Int.reduceNeg]; rfl)) : p := h
theorem zy31q36 {p : Prop} (h : p := by (simp only [exb, Nat.reduceAdd, Nat.reduceLeDiff, Nat.reduceEqDiff, Nat.reduceMul, Int.reduceToNat, reduceIte, Int.reduceLE, Int.reduceNeg]; done)) : p := h
theorem zy31q37 {p : Prop} (h : p := by (simp only [exb, Nat.reduceAdd, Nat.reduceLeDiff, Nat.reduceEqDiff, Nat.reduceMul, Int.reduceToNat, reduceIte, Int.reduceLE, Int.reduceNeg]; rfl)) : p := h
theorem zy31q38 {p : Prop} (h : p := by (first | rfl | (simp only [upd_app, entry_zero, entry_succ, Nat.reduceEqDiff, reduceIte, rowO, List.map_append]; done))) : p := h
theorem zy31q39 {p : Prop} (h : p := by (first | rfl | (simp only [upd_app, killM_app, Nat.reduceEqDiff, reduceIte, rowO, List.map_append]; done))) : p := h
theorem zy31q40 {p : Prop} (h : p := by (first | (simp only [upd_app, sD, DID, dfs, Nat.reduceEqDiff, Nat.reduceAdd, reduceIte]; done) | rfl)) : p := h
theorem zy31q41 {p : Prop} (h : p := by (simp only [List.length_append, List.length_map, List.length_cons, List.length_nil]; omega)) : p := h
theorem zy31q42 {p : Prop} (h : p := by (first | rfl | (simp only [upd_app, killM_app, Nat.reduceEqDiff, reduceIte]; done))) : p := h
theorem zy31q43 {p : Prop} (h : p := by (first | rfl | simp only [upd_app, sD, DID, Nat.reduceEqDiff, reduceIte])) : p := h
theorem zy31q44 {p : Prop} (h : p := by (simp only [List.length_map, List.length_cons, List.length_nil]; omega)) : p := h
theorem zy31q45 {p : Prop} (h : p := by (simp only [List.length_map]; omega)) : p := h
theorem zy31q46 {p : Prop} (h : p := by (simp [A.ids, O.ids, upd_app])) : p := h
end Go.Proofs.YthhpcjoaogmhbaaGreat
section
namespace Go.Proofs.YthhpcjoaogmhbaaGreat
namespace V
open Go.RowKit
def tabC7 : Tab := { tab with eff := fun f => f == 19 }
theorem C7.tab_ok : tabC7.Ok Tryz.prog := ⟨V.tab_ok.ty, V.tab_ok.zero, V.tab_ok.elem, V.tab_ok.off, V.tab_ok.bool, V.tab_ok.fields, V.tab_ok.bytes, V.tab_ok.nilk, V.tab_ok.int, V.tab_ok.map, V.tab_ok.str, V.tab_ok.one, V.tab_ok.seq⟩
theorem C7.tabs : tabC7.ty = tab.ty ∧ tabC7.zero = tab.zero ∧ tabC7.elem = tab.elem ∧ tabC7.off = tab.off ∧ tabC7.bool = tab.bool ∧ tabC7.fields = tab.fields ∧ tabC7.bytes = tab.bytes ∧ tabC7.nilk = tab.nilk ∧ tabC7.int = tab.int ∧ tabC7.map = tab.map ∧ tabC7.str = tab.str ∧ tabC7.one = tab.one ∧ tabC7.seq = tab.seq := ⟨rfl, rfl, rfl, rfl, rfl, rfl, rfl, rfl, rfl, rfl, rfl, rfl, rfl⟩
theorem step_callE {P : Go.Program} {T : Tab} {kp : Nat → Prop} {base : Nat} {ops : Array Oper} {K : St → Prop} {f i : Nat} {listed : Array Bool} {st : St} {rl : List Nat} {o : Oper} {r : A} {c : Call} {x : Operand} {g : FuncId} {ids : List Nat} {args : List A} {D : List Nat} {M' : Mem} {d : Nat} (ho : ops[i]? = some o) (hd : o.dst = some d) (h : wantA ops o st.s = some true) (hop : o.op = .call c) (hc : c.callee = .value x) (hbar : kind T o.op = .barrier) (hx : ev st.s x = .fn g ids) (hkp : ∀ j ∈ D, ¬ kp j) (hb : ∀ j ∈ ids, ∃ ty cells, st.m j = some (.box ty cells))
 (ha : Cvs st.m (c.args.toList.map (ev st.s) ++ ids.map (A.ptr · 0)) args) (hk : CallE P g args st.m D r M') (hr : RunsW P T kp base ops K f (listed.setIfInBounds i true) ⟨upd (killL D st.s) d r, M'⟩) (tl : Steps P T kp base ops K f listed st rl) : Steps P T kp base ops K f listed st (i :: rl) :=
 ⟨⟨o, _, ho, .eff (eff_call hkp hbar h hop hc hx hb ha hk), by rw [hd]; exact hr⟩, tl⟩
def methO (ok : Bool) : Option A := if ok = true then some (.tup []) else none
theorem seen_not {l : List ByteArray} {k : Nat} {n : ByteArray} (hn : l.Nodup) (hk : l[k]? = some n) : seenB (l.take k) n = false := by
 unfold seenB
 rw [List.any_eq_false]
 intro y hy he
 obtain rfl := beq_bytes.1 he
 obtain ⟨i, hi, h2⟩ := List.mem_take_iff_getElem.1 hy
 have hlt := (List.getElem?_eq_some_iff.1 hk).1
 have h3 := (List.getElem?_eq_some_iff.1 hk).2
 have := List.pairwise_iff_getElem.1 hn i k (by omega) hlt (by omega)
 exact this (h2.trans h3.symm)
section
variable (p : Program) (inn ret : ByteArray) (hS : SmallC p.classes) (hB : SmallB p.classes) (hlen : p.classes.length ≤ 16) (hchk : ∀ m, COk Tryz.prog 6 [.agg (cProg p)] m (.c (.int .i64 0)))
include hS hB hlen hchk
set_option maxHeartbeats 4000000 in
theorem method_both (params : List Slot) (body : List Stmt) (hnd : (params.map (·.name)).Nodup) (hbl : body.length ≤ 1048576) (hbs : SmallSs 1048576 body) (hK : KidsSs body) (hcnt : params.length + cntSs body ≤ 100000000) (m : Mem) :
 TOk Tryz.prog 8 [.agg (cProg p), .c (.str inn), .c (.str ret), .c (.sl (params.map cSlot)), .c (.sl (body.map cStmt))] m mism (methO (methTB p.classes inn ret params body)) := by
 have hcp : cProg p = [.sl (p.classes.map cClass), .sl (cStmts p.main)] := rfl
 have hw01 : IntKind.i64.wrap (0 + 1) = 1 := rfl
 obtain ⟨r, hr⟩ : ∃ r, methO (methTB p.classes inn ret params body) = r := ⟨_, rfl⟩
 rw [hr]
 refine (ok_both tab_ok (ch := mism) r Tryz.func8 (by kernel_rfl) rfl rfl (by rfl) ?rid (by rfl) (fun R hkeep => ?_) m)
 case rid => intro x hx; rw [← hr] at hx; unfold methO at hx; split at hx <;> cases hx; rfl
 repeat (first | refine W.seq ?_ | refine W.block ?_ | refine W.skip ?_ | refine W.exit ?_ | refine W.g ?_ zy31q32)
 (repeat (first | refine W.seq ?_ | refine W.block ?_))
 refine W.regionX C7.tab_ok follows_mixed ⟨upd (upd (upd (fun _ => .top) 3 (.c (.sl (params.map cSlot)))) 4 (.c (.sl (body.map cStmt)))) 10 (.ptr 20 0), upd (upd Mem.nil 20 (some (.box 43 [.c (.sl (p.classes.map cClass)), .c (.sl (cStmts p.main)), .c (.str inn), .c (.str ret), .own 18]))) 18 (some (.mrow 45 2 (params.map cSlot)))⟩ ?_ ?_
 ·skip
  refine rx_move (base := 0) C7.tab_ok (by decide) (by decide +kernel) 1 rfl rfl rfl (by decide +kernel) (by decide +kernel) ⟨_, zy31q14, ?_⟩
  refine rx_move (base := 0) C7.tab_ok (by decide) (by decide +kernel) 2 rfl rfl rfl (by decide +kernel) (by decide +kernel) ⟨_, zy31q14, ?_⟩
  refine rx_move (base := 0) C7.tab_ok (by decide) (by decide +kernel) 3 rfl rfl rfl (by decide +kernel) (by decide +kernel) ⟨_, zy31q14, ?_⟩
  refine rx_runs (base := 0) C7.tab_ok (by decide) ?_
  refine runs_node [0, 4] (by decide +kernel) (by decide) ?_
  refine step_exec ⟨_, zy31q14, ?_⟩ ?_
  ·skip
   refine runs_node [4] (by decide +kernel) (by decide) ?_
   refine step_callE (D := []) rfl rfl rfl rfl rfl rfl rfl (fun u hu => by simp at hu) (by simp) cw1 (cloneP_mut params (by omega) _ 18 rfl) ?_ ?_
   ·skip
    refine first_exec 5 (by decide +kernel) ⟨_, zy31q14, ?_⟩
    refine first_exec 6 (by decide +kernel) ⟨_, zy31q14, ?_⟩
    refine first_exec 7 (by decide +kernel) ⟨_, zy31q14, ?_⟩
    refine runsw_end (by decide +kernel) ?_
    exact le_D (kept_not hkeep)
   ·trivial
  ·skip
   refine step_callE (D := []) rfl rfl rfl rfl rfl rfl rfl (fun u hu => by simp at hu) (by simp) cw1 (cloneP_mut params (by omega) _ 18 rfl) ?_ ?_
   ·skip
    simp only [killL]
    refine first_exec 0 (by decide +kernel) ⟨_, zy31q14, ?_⟩
    refine first_exec 5 (by decide +kernel) ⟨_, zy31q14, ?_⟩
    refine first_exec 6 (by decide +kernel) ⟨_, zy31q14, ?_⟩
    refine first_exec 7 (by decide +kernel) ⟨_, zy31q14, ?_⟩
    refine runsw_end (by decide +kernel) ?_
    exact le_D (kept_not hkeep)
   ·trivial
 intro st' hle
 refine W.weaken hle ?_
 clear hle st'
 refine W.go ?_
 refine W.loop (ι := Nat) (fun k => ⟨upd (upd (upd (upd (upd (upd (fun _ => .top) 4 (.c (.sl (body.map cStmt)))) 10 (.ptr 20 0)) 11 (.map 21)) 22 (.c (.sl (params.map cSlot)))) 23 (.c (.int .i64 params.length))) 24 (.c (.int .i64 k)),
  upd (upd (upd Mem.nil 20 (some (.box 43 [.c (.sl (p.classes.map cClass)), .c (.sl (cStmts p.main)), .c (.str inn), .c (.str ret), .own 18]))) 18 (some (.mrow 45 2 (params.map cSlot)))) 21 (some (.map (entsS ((params.take k).map (·.name)))))⟩)
  (fun k => k ≤ params.length ∧ (params.take k).all (fun s => knownR p.classes s.type) = true) (fun k => params.length - k) 0 ?start ⟨Nat.zero_le _, rfl⟩ ?round
 case start =>
  refine le_mk ?sle ?mle ?swf ?mwf ?kept (by rfl)
  case kept => exact kept_not hkeep
  case swf => repeat (first | exact swf_top _ | refine swf_upd ?_ (by simp [A.ids, upd_app]))
  case mwf => repeat (first | exact mwf_nil _ | refine mwf_upd ?_ zy31q6)
  case mle => repeat (first | exact mle_nil _ | exact mle_refl _ | refine mle_upd ?_ zy31q42)
  case sle => repeat (first | exact sle_top _ | exact sle_refl _ | refine sle_upd ?_ (by first | rfl | (simp only [upd_app, entry_zero, entry_succ, Nat.reduceEqDiff, reduceIte]; done)))
 case round =>
  rintro k ⟨hk, hall⟩
  refine W.go ?_
  refine W.cond rfl ?_ ?_
  ·intro hlt
   simp only [decide_eq_true_eq, Int.ofNat_lt] at hlt
   obtain ⟨x, hx⟩ : ∃ x, params[k]? = some x := ⟨_, List.getElem?_eq_getElem hlt⟩
   have hat := at_map (f := cSlot) hx
   have hkn := known_ok p.classes [.sl (cStmts p.main), .str inn, .str ret, .sl (params.map cSlot)] x.type (by omega)
   have hs : (params.take (k + 1)).all (fun s => knownR p.classes s.type) = knownR p.classes x.type := by
    rw [List.take_add_one, hx, List.all_append, hall]; simp
   have hnm : (params.take (k + 1)).map (·.name) = (params.take k).map (·.name) ++ [x.name] := by rw [List.take_add_one, hx]; simp
   have hsn : seenB ((params.take k).map (·.name)) x.name = false := by
    have := seen_not (k := k) (n := x.name) hnd (by rw [List.getElem?_map, hx]; rfl)
    rwa [List.map_take] 
   have hfd := findS_none hsn
   obtain ⟨sty, snm⟩ := x
   simp only [cSlot] at hat
   dsimp only at hkn hs hnm hfd
   repeat (first | refine W.seq ?_ | refine W.block ?_ | refine W.skip ?_ | refine W.exit ?_ | refine W.g ?_ zy31q33)
   cases hkx : knownR p.classes sty with
   | false =>
     have hno : methTB p.classes inn ret params body = false := by
      have : params.all (fun s => knownR p.classes s.type) = false := by
       rw [List.all_eq_false]
       exact ⟨⟨sty, snm⟩, List.mem_of_getElem? hx, by simp [hkx]⟩
      unfold methTB; rw [this]; rfl
     rw [hkx] at hkn
     obtain rfl : r = none := hr.symm.trans (by rw [hno]; rfl)
     refine W.bl ?_
     refine W.panR (base := 0) (ch := mism) tab_ok 4 (by decide) rfl ?_
     refine xs0 3 ?_
     refine runk_callR rfl rfl rfl rfl rfl (by simp) (cvrs_cons (cvr_ptr rfl rfl) (cvrs_cons cvr_refl cvrs_nil)) (by rfl) (by rfl) hkn ?_
     refine xe0 ?_
     exact ⟨_, xs_call rfl rfl rfl rfl (by simp) cw1 (must_no _), by rfl, rfl⟩
   | true =>
     rw [hkx] at hkn
     refine W.bl ?_
     refine W.regionK tab_ok 0 (by decide) ?_
     refine xs0 3 ?_
     refine runk_callR rfl rfl rfl rfl rfl (by simp) (cvrs_cons (cvr_ptr rfl rfl) (cvrs_cons cvr_refl cvrs_nil)) (by rfl) (by rfl) hkn ?_
     refine xs0 0 ?_
     refine runk_call rfl rfl rfl rfl rfl (by simp) cw1 (must_yes _) ?_
     refine xe0 ?_
     refine W.bl ?_
     refine W.regionK tab_ok 0 (by decide) ?_
     refine runk_split 5 (by simp only [exb, Nat.reduceAdd, Nat.reduceLeDiff, Nat.reduceEqDiff, Nat.reduceMul, Int.reduceToNat, reduceIte, Int.reduceLE, Int.reduceNeg, hfd]; rfl) ?_
     refine runk_put tab_ok (ents := entsS ((params.take k).map (·.name))) rfl (.inl rfl) rfl rfl (by first | rfl | simp only [exb, Nat.reduceAdd, Nat.reduceLeDiff, Nat.reduceEqDiff, Nat.reduceMul, Int.reduceToNat, reduceIte, Int.reduceLE, Int.reduceNeg]) rfl rfl (by rfl) rfl hfd ?_
     refine xe0 ?_
     refine W.go ?_
     refine ⟨k + 1, ⟨hlt, by rw [hs, hkx]⟩, by omega, ?_⟩
     rw [hnm, entsS_push]
     refine le_mk ?sle ?mle ?swf ?mwf ?kept (by rfl)
     case kept => exact kept_not hkeep
     case swf => repeat (first | exact swf_top _ | refine swf_upd ?_ (by simp [A.ids, upd_app]))
     case mwf => repeat (first | exact mwf_nil _ | refine mwf_upd ?_ zy31q6)
     case mle => repeat (first | exact mle_nil _ | exact mle_refl _ | refine mle_upd ?_ (by first | rfl | (simp only [upd_app, killM_app, Nat.reduceEqDiff, reduceIte, putE, hw01, wrap_succ (show k + 1 < 9223372036854775808 by omega)]; done)))
     case sle => repeat (first | exact sle_top _ | exact sle_refl _ | refine sle_upd ?_ (by first | rfl | (simp only [upd_app, entry_zero, entry_succ, Nat.reduceEqDiff, reduceIte, putE, hw01, wrap_succ (show k + 1 < 9223372036854775808 by omega)]; done)))
  ·intro hge
   simp only [decide_eq_false_iff_not, Int.ofNat_lt] at hge
   obtain rfl : k = params.length := by omega
   rw [List.take_length] at hall ⊢
   have hon := once_both _ body (Nat.le_refl _) hbl hbs (upd (upd (upd Mem.nil 20 (some (.box 43 [.c (.sl (p.classes.map cClass)), .c (.sl (cStmts p.main)), .c (.str inn), .c (.str ret), .own 18]))) 18 (some (.mrow 45 2 (params.map cSlot)))) 21 (some (.map (entsS (params.map (·.name)))))) 100 21 (params.map (·.name)) (fun d => by rw [upd_ne _ _ (by omega), upd_ne _ _ (by omega), upd_ne _ _ (by omega)]; rfl) rfl
   have hfr := dupAt_fresh (params.map (·.name)) (declSs body)
   unfold onceR onceX at hon
   refine W.exit ?_
   cases hd : dupAt (params.map (·.name)) (declSs body) with
   | some res =>
     obtain ⟨L', n'⟩ := res
     rw [hd] at hfr hon
     have hno : methTB p.classes inn ret params body = false := by
      unfold methTB; rw [hfr]; simp
     obtain rfl : r = none := hr.symm.trans (by rw [hno]; rfl)
     refine W.bl ?_
     refine W.panR (base := 0) (ch := mism) OO.tab_ok 2 (by decide) rfl ?_
     refine runk_exec zy31q17 ?_
     exact ⟨_, xs_callE (D := []) (fun u hu => by simp at hu) rfl rfl rfl rfl (by simp) cw2 hon, by rfl, rfl⟩
   | none =>
     rw [hd] at hfr hon
     refine W.bl ?_
     refine W.regionK OO.tab_ok 0 (by decide) ?_
     refine runk_split 2 zy31q17 ?_
     refine runk_callE (D := []) rfl rfl rfl rfl rfl (fun j hj => by simp at hj) (by simp) cw2 hon ?_
     simp only [killL, putS, upd_upd]
     refine xe0 ?_
     have hbk := block_both p inn ret hS hB hlen hchk _ body (Nat.le_refl _) hK params hcnt (upd (upd (upd Mem.nil 20 (some (.box 43 [.c (.sl (p.classes.map cClass)), .c (.sl (cStmts p.main)), .c (.str inn), .c (.str ret), .own 18]))) 18 (some (.mrow 45 2 (params.map cSlot)))) 21 (some (.map (entsS (params.map (·.name) ++ declSs body))))) 200 20 18 (fun d => by rw [upd_ne _ _ (by omega), upd_ne _ _ (by omega), upd_ne _ _ (by omega)]; rfl) rfl rfl ?hno
     case hno =>
      intro i o ho hi
      by_cases e1 : i = 21
      ·subst e1
       rw [upd_same] at ho
       cases ho
       refine ⟨?_, ?_, ?_⟩
       ·simp only [O.ids]; rw [entsS_flat]; simp
       ·simp only [O.ids]; rw [entsS_flat]; simp
       ·show O.map _ = _
        congr 1
        unfold entsS
        rw [List.map_map]; rfl
      rw [upd_ne _ _ e1] at ho
      by_cases e2 : i = 18
      ·subst e2
       rw [upd_same] at ho
       cases ho
       exact ⟨by simp [O.ids], by simp [O.ids], rfl⟩
      rw [upd_ne _ _ e2, upd_ne _ _ hi] at ho
      cases ho
     cases hb : blockTB p.classes inn ret params body with
     | true =>
       have hyes : methTB p.classes inn ret params body = true := by
        unfold methTB; rw [hall, hfr, hb]; rfl
       obtain rfl : r = some (.tup []) := hr.symm.trans (by rw [hyes]; rfl)
       rw [hb] at hbk
       unfold blkR at hbk
       rw [if_pos rfl] at hbk
       refine W.bl ?_
       refine W.regionK BB.tab_ok 0 (by decide) ?_
       refine runk_split 2 zy31q18 ?_
       refine runk_callE (D := [18]) rfl rfl rfl rfl rfl (fun j hj => nokeep hkeep) (by simp) cw2 hbk ?_
       simp only [killL, putS]
       refine xe0 ?_
       refine ⟨by rfl, by simp, ?_⟩
       simp only [Tryz.f8, resA, resOne, toT, fin, exb, Nat.reduceAdd, Nat.reduceLeDiff, Nat.reduceEqDiff, Nat.reduceMul, Int.reduceToNat, reduceIte, Int.reduceLE, Int.reduceNeg]
     | false =>
       have hno : methTB p.classes inn ret params body = false := by
        unfold methTB; rw [hb]; simp
       obtain rfl : r = none := hr.symm.trans (by rw [hno]; rfl)
       rw [hb] at hbk
       unfold blkR at hbk
       rw [if_neg (by decide)] at hbk
       refine W.bl ?_
       refine W.panR (base := 0) (ch := mism) BB.tab_ok 2 (by decide) rfl ?_
       refine runk_exec zy31q18 ?_
       exact ⟨_, xs_callE (D := [20, 18]) (fun u hu => nokeep hkeep) rfl rfl rfl rfl (by simp) cw2 hbk, by rfl, rfl⟩
end
end V
end Go.Proofs.YthhpcjoaogmhbaaGreat
end
section
namespace Go.Proofs.YthhpcjoaogmhbaaGreat
namespace V
def Named (cs : List Class) : Prop := ∀ c ∈ cs, isNameB c.name = true
theorem named_of {p : Program} (h : chkErr (errP p) p.classes = 0) : Named p.classes := by
 intro c hc
 have hb : checkB p = true := by
  cases hk : checkB p with
  | true => rfl
  | false =>
    unfold chkErr errP at h
    rw [hk] at h
    simp [treeErr] at h
 unfold checkB at hb
 rw [Bool.and_eq_true] at hb
 have := List.all_eq_true.1 hb.2 c hc
 simp only [classB, classTop, Bool.and_eq_true] at this
 first | exact this.1.1.1 | exact this.1.1
theorem isNm_iff {cs : List Class} {t : ByteArray} : cs.any (isNm t) = true ↔ ∃ c ∈ cs, c.name = t := by
 rw [List.any_eq_true]
 exact ⟨fun ⟨c, hc, h⟩ => ⟨c, hc, beq_bytes.1 h⟩, fun ⟨c, hc, h⟩ => ⟨c, hc, beq_bytes.2 h⟩⟩
theorem noNull : isNameB tNull = false := by decide +kernel
theorem null_not {cs : List Class} (h : Named cs) : cs.any (isNm tNull) = false := by
 cases hk : cs.any (isNm tNull) with
 | false => rfl
 | true =>
   obtain ⟨c, hc, e⟩ := isNm_iff.1 hk
   have := h c hc
   rw [e, noNull] at this; cases this
theorem below_class {cs : List Class} {a b : ByteArray} (h : belowR 0 cs a b = true) : cs.any (isNm b) = true := by
 obtain ⟨i, d, hd, e⟩ := belowR_iff.1 h
 exact isNm_iff.2 ⟨d, (chainC_mem cs _ a d (List.mem_of_getElem? hd)).1, e⟩
theorem fit_eq {cs : List Class} {a b : ByteArray} (h : Named cs) : fitR 0 cs a b = fitD 0 cs a b := by
 have e : belowR 0 cs a b = (refChainF 0 cs a).any (fun x => x.toList == b.toList) := by
  unfold belowR
  rw [chain_eq]
  congr 1; funext x; exact BEq.comm
 unfold fitR fitD
 rw [← e]
 have hb := below_class (cs := cs) (a := a) (b := b)
 by_cases hn : (a.toList == tNull.toList) = true
 ·obtain rfl := beq_bytes.1 hn
  rw [null_not h, if_pos hn, hn]
  simp
 ·rw [if_neg hn]
  have hn : (a.toList == tNull.toList) = false := by simpa using hn
  rw [hn]
  cases hB : belowR 0 cs a b with
  | false => simp
  | true => rw [hb hB]; simp
end V
end Go.Proofs.YthhpcjoaogmhbaaGreat
end
section
namespace Go.Proofs.YthhpcjoaogmhbaaGreat
namespace V
theorem upX_map {β : Type} (cs : List Class) (g : Class → β) (h : Nat × Nat → β) (hg : ∀ x k, cs[x.2]? = some k → h x = g k) (k m : Nat) (name : ByteArray) : (upX cs k m name).map h = (chainC cs k name).map g := by
 obtain ⟨f, h1, h2⟩ := upX_chain cs k m name
 rw [h1, List.map_map]
 refine List.ext_getElem? fun i => ?_
 by_cases hi : i < (chainC cs k name).length
 ·simp only [List.getElem?_map, List.getElem?_range hi, Option.map_some, Function.comp]
  rw [List.getElem?_eq_getElem hi, Option.map_some]
  rw [hg (m + i, f i) _ ((h2 i hi).trans (List.getElem?_eq_getElem hi))]
 ·rw [List.getElem?_eq_none (by simpa using Nat.not_lt.1 hi), List.getElem?_eq_none (by simpa using Nat.not_lt.1 hi)]
theorem slotsUp_chain (cs : List Class) (k m : Nat) (name : ByteArray) : slotsUp cs (upX cs k m name) = (chainC cs k name).reverse.flatMap (·.fields) := by
 have e := upX_map cs (·.fields) (slotsAt cs) (fun x k h => by simp [slotsAt, h]) k m name
 unfold slotsUp
 rw [List.flatMap_def, List.flatMap_def, List.map_reverse, List.map_reverse, e]
def methC (n : ByteArray) (c : Class) : Option (Method × ByteArray) := (c.methods.find? (methIs n)).map (·, c.name)
theorem findSome_map {α β : Type} (f : α → Option β) : ∀ l : List α, l.findSome? f = (l.map f).findSome? id
 | [] => rfl
 | x :: l => by
   simp only [List.findSome?_cons, List.map_cons, id]
   cases f x with
   | none => exact findSome_map f l
   | some y => rfl
theorem methodR_chain (cs : List Class) (cn n : ByteArray) : methodR 0 cs cn n = (chainC cs (cs.length + 1) cn).findSome? (methC n) := by
 unfold methodR methUp
 rw [if_pos rfl, findSome_map, findSome_map (methC n), upX_map cs (methC n) (methAt cs n) (fun x k h => by simp [methAt, methC, h])]
theorem findSome_first {α β : Type} {f : α → Option β} : ∀ {l : List α} {r : β}, l.findSome? f = some r → ∃ (i : Nat) (x : α), l[i]? = some x ∧ f x = some r ∧ ∀ j y, j < i → l[j]? = some y → f y = none
 | [], r, h => by cases h
 | x :: l, r, h => by
   rw [List.findSome?_cons] at h
   cases hx : f x with
   | some y => rw [hx] at h; cases h; exact ⟨0, x, rfl, hx, fun j y hj => absurd hj (Nat.not_lt_zero _)⟩
   | none =>
     rw [hx] at h
     obtain ⟨i, y, h1, h2, h3⟩ := findSome_first h
     refine ⟨i + 1, y, by simpa using h1, h2, fun j z hj hz => ?_⟩
     cases j with
     | zero => simp at hz; subst hz; exact hx
     | succ j => exact h3 j z (by omega) (by simpa using hz)
end V
end Go.Proofs.YthhpcjoaogmhbaaGreat
end
section
namespace Go.Proofs.YthhpcjoaogmhbaaGreat
namespace V
open Go.RowKit
def varD (env : List Slot) (n : ByteArray) : ByteArray := (pickB env n).getD tNo
abbrev eqFitD (cs : List Class) (a : List ByteArray) (b : List Slot) : Bool := zipAll (fun t s => fitD 0 cs t s.type) a b
def callD (cs : List Class) (nm : ByteArray) (ls : List ByteArray) : ByteArray := match methodF cs nm (refChainF 0 cs (hdT ls)) with
 | some (m, _) => if eqFitD cs ls.tail m.params = true then m.type else tNo
 | none => tNo
def sameD (cs : List Class) (a b : ByteArray) : ByteArray :=
 if (isT a tInt && isT b tInt) = true then tInt
 else if (!(isT a tInt) && (!(isT b tInt) && (fitD 0 cs a b || (fitD 0 cs b a || (isT a tNull && isT b tNull))))) = true then tInt else tNo
def allD (ls : List ByteArray) (t : ByteArray) : ByteArray := if ls.all (fun s => isT s t) = true then tInt else tNo
def leafD (cs : List Class) (inn : ByteArray) (env : List Slot) (k : Int) (nm : ByteArray) : ByteArray :=
 if k = 1 ∨ k = 11 then tInt
 else if k = 2 then tNull
 else if k = 3 then inn
 else if k = 4 then varD env nm
 else if cs.any (isNm nm) = true then nm else tNo
def typKD (cs : List Class) (inn : ByteArray) (env : List Slot) (k : Int) (nm : ByteArray) (ls : List ByteArray) : ByteArray :=
 if k = 6 then (if isT (hdT ls) tInt = true then tInts else tNo)
 else if k = 7 then varD (fieldsF cs (refChainF 0 cs (hdT ls))) nm
 else if k = 8 then (if (isT (hdT ls) tInts && isT (hdT ls.tail) tInt) = true then tInt else tNo)
 else if k = 9 then allD ls tInts
 else if k = 10 then callD cs nm ls
 else if k = 12 ∨ k = 13 ∨ k = 14 ∨ k = 15 ∨ k = 16 ∨ k = 17 then allD ls tInt
 else if k = 18 then sameD cs (hdT ls) (hdT ls.tail)
 else leafD cs inn env k nm
mutual
def typD (cs : List Class) (inn : ByteArray) (env : List Slot) : Expr → ByteArray
 | ⟨k, _, nm, kids⟩ => match typsD cs inn env kids with
   | some ls => typKD cs inn env k nm ls
   | none => tNo
def typsD (cs : List Class) (inn : ByteArray) (env : List Slot) : List Expr → Option (List ByteArray)
 | [] => some []
 | x :: l => if isT (typD cs inn env x) tNo = true then none else (typsD cs inn env l).map (typD cs inn env x :: ·)
end
def rightK (cs : List Class) (main : Bool) (ret : ByteArray) (k : Int) (ty : ByteArray) (ts : List ByteArray) : Bool :=
 if k = 1 then knownR cs ty && (ts.isEmpty || fitD 0 cs (hdT ts) ty)
 else if k = 2 then fitD 0 cs (hdT ts.tail) (hdT ts)
 else if k = 3 ∨ k = 4 ∨ k = 5 then isT (hdT ts) tInt
 else if k = 6 then !main && fitD 0 cs (hdT ts) ret
 else true
def rightD (cs : List Class) (inn : ByteArray) (main : Bool) (ret : ByteArray) (env : List Slot) (k : Int) (ty : ByteArray) (es : List Expr) : Bool := match typsD cs inn env es with
 | some ts => rightK cs main ret k ty ts
 | none => false
mutual
def stmtTD (cs : List Class) (inn : ByteArray) (main : Bool) (ret : ByteArray) (env : List Slot) : Stmt → Bool
 | ⟨k, _, ty, _, es, th, el⟩ => rightD cs inn main ret env k ty es && blockTD cs inn main ret env th && blockTD cs inn main ret env el
def blockTD (cs : List Class) (inn : ByteArray) (main : Bool) (ret : ByteArray) (env : List Slot) : List Stmt → Bool
 | [] => true
 | x :: l => stmtTD cs inn main ret env x && blockTD cs inn main ret (if x.kind = 1 then env ++ [⟨x.type, x.name⟩] else env) l
end
mutual
def decS : Stmt → List Slot
 | ⟨k, _, ty, nm, _, th, el⟩ => (if k = 1 then [⟨ty, nm⟩] else []) ++ decSs th ++ decSs el
def decSs : List Stmt → List Slot
 | [] => []
 | x :: l => decS x ++ decSs l
end
def methTD (cs : List Class) (inn : ByteArray) (main : Bool) (ret : ByteArray) (params : List Slot) (body : List Stmt) : Bool :=
 !(twiceB (params ++ decSs body)) && blockTD cs inn main ret params body
def classTD (cs : List Class) (c : Class) : Bool :=
 c.fields.all (fun s => knownR cs s.type) && c.methods.all fun m => m.params.all (fun s => knownR cs s.type) && (knownR cs m.type && methTD cs c.name false m.type m.params m.body)
def progTD (p : Program) : Bool := methTD p.classes tNo true tNo [] p.main && p.classes.all (classTD p.classes)
def checkD (p : Program) : Int := if chkErr (errP p) p.classes = 0 then (if progTD p = true then 0 else 70) else chkErr (errP p) p.classes
structure Good (cs : List Class) : Prop where
 nm : Named cs
 s0 : Same0 cs
 fld : ∀ c ∈ cs, ∀ s ∈ c.fields, s.type ≠ tNo
 mth : ∀ c ∈ cs, ∀ m ∈ c.methods, m.type ≠ tNo
theorem isT_iff {a b : ByteArray} : isT a b = true ↔ a = b := by unfold isT; exact beq_bytes
theorem isT_dec (a b : ByteArray) : isT a b = decide (a = b) := by rw [Bool.eq_iff_iff, isT_iff]; simp
theorem noName : isNameB tNo = false := by decide +kernel
theorem noType : isTypeB tNo = false := by decide +kernel
theorem int_ne : tInt ≠ tNo := by decide +kernel
theorem ints_ne : tInts ≠ tNo := by decide +kernel
theorem null_ne : tNull ≠ tNo := by decide +kernel
theorem fitsRD {cs : List Class} (h : Named cs) : (fun (t : ByteArray) (s : Slot) => fitR 0 cs t s.type) = fun t s => fitD 0 cs t s.type := by
 funext t s; exact fit_eq h
theorem pickB_mem {l : List Slot} {n t : ByteArray} (h : pickB l n = some t) : ∃ s ∈ l, s.type = t := by
 unfold pickB at h
 cases hf : l.find? (slotIs n) with
 | none => rw [hf] at h; cases h
 | some s => rw [hf] at h; cases h; exact ⟨s, List.mem_of_find?_eq_some hf, rfl⟩
theorem fieldsRF {cs : List Class} (n : ByteArray) : fieldsR 0 cs n = fieldsF cs (refChainF 0 cs n) := by
 unfold fieldsR refChainF
 rw [if_pos rfl, if_pos rfl, slotsUp_chain, chainF_chain]
 unfold fieldsF
 rw [← List.map_reverse, List.flatMap_map, List.flatMap_def, List.flatMap_def]
 congr 1
 refine List.map_congr_left fun d hd => ?_
 rw [classD_of (chainC_mem cs _ _ d (List.mem_reverse.1 hd)).2]
theorem fieldsR_ne {cs : List Class} (h : Good cs) {n : ByteArray} {s : Slot} (hs : s ∈ fieldsR 0 cs n) : s.type ≠ tNo := by
 unfold fieldsR at hs
 rw [if_pos rfl, slotsUp_chain, List.mem_flatMap] at hs
 obtain ⟨c, hc, hs⟩ := hs
 exact h.fld c (chainC_mem cs _ _ c (List.mem_reverse.1 hc)).1 s hs
theorem methodRF {cs : List Class} (cn n : ByteArray) : (methodR 0 cs cn n).map (·.1) = (methodF cs n (refChainF 0 cs cn)).map (·.1) := by
 rw [methodR_chain]
 unfold refChainF
 rw [if_pos rfl, chainF_chain, methodF_next n _ (fun d hd => (chainC_mem cs _ _ d hd).2)]
 generalize chainC cs (cs.length + 1) cn = l
 induction l with
 | nil => rfl
 | cons c l ih =>
   rw [List.findSome?_cons]
   unfold nextM methC
   cases hf : c.methods.find? (methIs n) with
   | some m => rfl
   | none => exact ih
theorem methodR_mem {cs : List Class} {cn n : ByteArray} {m : Method} {d : ByteArray} (h : methodR 0 cs cn n = some (m, d)) : ∃ c ∈ cs, m ∈ c.methods := by
 rw [methodR_chain] at h
 obtain ⟨i, c, hc, hf, -⟩ := findSome_first h
 unfold methC at hf
 cases hg : c.methods.find? (methIs n) with
 | none => rw [hg] at hf; cases hf
 | some m' =>
   rw [hg] at hf
   cases hf
   exact ⟨c, (chainC_mem cs _ _ c (List.mem_of_getElem? hc)).1, List.mem_of_find?_eq_some hg⟩
mutual
def MayE : Expr → Prop
 | ⟨k, _, _, kids⟩ => (1 ≤ k ∧ k ≤ 18) ∧ (k = 6 ∨ k = 7 ∨ k = 9 ∨ k = 12 → kids.length = 1) ∧ (k = 10 → 1 ≤ kids.length) ∧ (k = 8 ∨ k = 13 ∨ k = 14 ∨ k = 15 ∨ k = 16 ∨ k = 17 ∨ k = 18 → kids.length = 2) ∧ MayEs kids
def MayEs : List Expr → Prop
 | [] => True
 | x :: l => MayE x ∧ MayEs l
end
theorem MayEs.mem : ∀ {l : List Expr} {x : Expr}, MayEs l → x ∈ l → MayE x
 | y :: l, x, h, hx => by
   simp only [MayEs] at h
   rcases List.mem_cons.1 hx with rfl | hx
   ·exact h.1
   ·exact MayEs.mem h.2 hx
theorem one_of {ls : List ByteArray} (h : ls.length = 1) : ∃ a, ls = [a] := by
 match ls, h with
 | [a], _ => exact ⟨a, rfl⟩
theorem two_of {ls : List ByteArray} (h : ls.length = 2) : ∃ a b, ls = [a, b] := by
 match ls, h with
 | [a, b], _ => exact ⟨a, b, rfl⟩
theorem isEq_one {a t : ByteArray} : eqTL [a] [t] = isT a t := by simp [zipAll]
theorem isEq_two {a b t u : ByteArray} : eqTL [a, b] [t, u] = (isT a t && isT b u) := by simp [zipAll]
set_option maxHeartbeats 2000000 in
theorem typK_eq {cs : List Class} (hg : Good cs) (inn : ByteArray) (env : List Slot) {k : Int} (nm : ByteArray) {ls : List ByteArray} (hk : 1 ≤ k ∧ k ≤ 18) (h1 : k = 6 ∨ k = 7 ∨ k = 9 ∨ k = 12 → ls.length = 1) (h10 : k = 10 → 1 ≤ ls.length) (h2 : k = 8 ∨ k = 13 ∨ k = 14 ∨ k = 15 ∨ k = 16 ∨ k = 17 ∨ k = 18 → ls.length = 2) :
 typKD cs inn env k nm ls = (typK cs inn env k nm ls).getD tNo ∧ ∀ t, typK cs inn env k nm ls = some t → t ≠ tNo := by
 have hks : k = 1 ∨ k = 2 ∨ k = 3 ∨ k = 4 ∨ k = 5 ∨ k = 6 ∨ k = 7 ∨ k = 8 ∨ k = 9 ∨ k = 10 ∨ k = 11 ∨ k = 12 ∨ k = 13 ∨ k = 14 ∨ k = 15 ∨ k = 16 ∨ k = 17 ∨ k = 18 := by omega
 have two : ∀ k', k' = k → k' = 13 ∨ k' = 14 ∨ k' = 15 ∨ k' = 16 ∨ k' = 17 → typKD cs inn env k nm ls = (typK cs inn env k nm ls).getD tNo ∧ ∀ t, typK cs inn env k nm ls = some t → t ≠ tNo := by
  rintro k' rfl h
  obtain ⟨a, b, rfl⟩ := two_of (h2 (by omega))
  have e1 : typKD cs inn env k' nm [a, b] = allD [a, b] tInt := by rcases h with rfl | rfl | rfl | rfl | rfl <;> rfl
  have e2 : typK cs inn env k' nm [a, b] = if eqTL [a, b] [tInt, tInt] = true then some tInt else none := by rcases h with rfl | rfl | rfl | rfl | rfl <;> rfl
  rw [e1, e2, isEq_two]
  unfold allD
  simp only [List.all_cons, List.all_nil, Bool.and_true]
  split
  ·exact ⟨rfl, fun t h => by cases h; exact int_ne⟩
  ·exact ⟨rfl, fun t h => by cases h⟩
 rcases hks with rfl | rfl | rfl | rfl | rfl | rfl | rfl | rfl | rfl | rfl | rfl | rfl | rfl | rfl | rfl | rfl | rfl | rfl
 ·exact ⟨rfl, fun t h => by cases h; exact int_ne⟩
 ·exact ⟨rfl, fun t h => by cases h; exact null_ne⟩
 ·have e1 : typKD cs inn env 3 nm ls = inn := rfl
  have e2 : typK cs inn env 3 nm ls = if isT inn tNo = true then none else some inn := rfl
  rw [e1, e2]
  split
  ·rename_i h; exact ⟨isT_iff.1 h, fun t h => by cases h⟩
  ·rename_i h; exact ⟨rfl, fun t h2 => by cases h2; exact fun e => h (isT_iff.2 e)⟩
 ·have e1 : typKD cs inn env 4 nm ls = varD env nm := rfl
  have e2 : typK cs inn env 4 nm ls = match pickB env nm with | some t => if isT t tNo = true then none else some t | none => none := rfl
  rw [e1, e2]
  unfold varD
  cases pickB env nm with
  | none => exact ⟨rfl, fun t h => by cases h⟩
  | some u =>
    simp only
    split
    ·rename_i h; exact ⟨isT_iff.1 h, fun t h => by cases h⟩
    ·rename_i h; exact ⟨rfl, fun t h2 => by cases h2; exact fun e => h (isT_iff.2 e)⟩
 ·have e1 : typKD cs inn env 5 nm ls = if cs.any (isNm nm) = true then nm else tNo := rfl
  have e2 : typK cs inn env 5 nm ls = if cs.any (isNm nm) = true then some nm else none := rfl
  rw [e1, e2]
  split
  ·rename_i h
   obtain ⟨c, hc, rfl⟩ := isNm_iff.1 h
   exact ⟨rfl, fun t h2 => by cases h2; exact fun e => by have := hg.nm c hc; rw [e, noName] at this; cases this⟩
  ·exact ⟨rfl, fun t h => by cases h⟩
 ·obtain ⟨a, rfl⟩ := one_of (h1 (by omega))
  have e1 : typKD cs inn env 6 nm [a] = if isT a tInt = true then tInts else tNo := rfl
  have e2 : typK cs inn env 6 nm [a] = if eqTL [a] [tInt] = true then some tInts else none := rfl
  rw [e1, e2, isEq_one]
  split
  ·exact ⟨rfl, fun t h => by cases h; exact ints_ne⟩
  ·exact ⟨rfl, fun t h => by cases h⟩
 ·have e1 : typKD cs inn env 7 nm ls = varD (fieldsF cs (refChainF 0 cs (hdT ls))) nm := rfl
  have e2 : typK cs inn env 7 nm ls = pickB (fieldsR 0 cs (hdT ls)) nm := rfl
  rw [e1, e2, ← fieldsRF]
  exact ⟨rfl, fun t h => by obtain ⟨s, hs, rfl⟩ := pickB_mem h; exact fieldsR_ne hg hs⟩
 ·obtain ⟨a, b, rfl⟩ := two_of (h2 (by omega))
  have e1 : typKD cs inn env 8 nm [a, b] = if (isT a tInts && isT b tInt) = true then tInt else tNo := rfl
  have e2 : typK cs inn env 8 nm [a, b] = if eqTL [a, b] [tInts, tInt] = true then some tInt else none := rfl
  rw [e1, e2, isEq_two]
  split
  ·exact ⟨rfl, fun t h => by cases h; exact int_ne⟩
  ·exact ⟨rfl, fun t h => by cases h⟩
 ·obtain ⟨a, rfl⟩ := one_of (h1 (by omega))
  have e1 : typKD cs inn env 9 nm [a] = allD [a] tInts := rfl
  have e2 : typK cs inn env 9 nm [a] = if eqTL [a] [tInts] = true then some tInt else none := rfl
  rw [e1, e2, isEq_one]
  unfold allD
  simp only [List.all_cons, List.all_nil, Bool.and_true]
  split
  ·exact ⟨rfl, fun t h => by cases h; exact int_ne⟩
  ·exact ⟨rfl, fun t h => by cases h⟩
 ·have e1 : typKD cs inn env 10 nm ls = callD cs nm ls := rfl
  have e2 : typK cs inn env 10 nm ls = match methodR 0 cs (hdT ls) nm with | some (m, _) => if eqFit cs ls.tail m.params = true then some m.type else none | none => none := rfl
  rw [e1, e2]
  unfold callD
  have hm := methodRF (cs := cs) (hdT ls) nm
  cases hr : methodR 0 cs (hdT ls) nm with
  | none =>
    rw [hr] at hm
    cases hf : methodF cs nm (refChainF 0 cs (hdT ls)) with
    | none => exact ⟨rfl, fun t h => by cases h⟩
    | some x => rw [hf] at hm; cases hm
  | some x =>
    obtain ⟨m, d⟩ := x
    rw [hr] at hm
    cases hf : methodF cs nm (refChainF 0 cs (hdT ls)) with
    | none => rw [hf] at hm; cases hm
    | some x =>
      obtain ⟨m', d'⟩ := x
      rw [hf] at hm
      simp only [Option.map_some, Option.some.injEq] at hm
      subst hm
      simp only
      unfold eqFit eqFitD
      rw [fitsRD hg.nm]
      obtain ⟨c, hc, hmc⟩ := methodR_mem hr
      split
      ·exact ⟨rfl, fun t h => by cases h; exact hg.mth c hc m hmc⟩
      ·exact ⟨rfl, fun t h => by cases h⟩
 ·exact ⟨rfl, fun t h => by cases h; exact int_ne⟩
 ·obtain ⟨a, rfl⟩ := one_of (h1 (by omega))
  have e1 : typKD cs inn env 12 nm [a] = allD [a] tInt := rfl
  have e2 : typK cs inn env 12 nm [a] = if eqTL [a] [tInt] = true then some tInt else none := rfl
  rw [e1, e2, isEq_one]
  unfold allD
  simp only [List.all_cons, List.all_nil, Bool.and_true]
  split
  ·exact ⟨rfl, fun t h => by cases h; exact int_ne⟩
  ·exact ⟨rfl, fun t h => by cases h⟩
 ·exact two 13 rfl (by decide)
 ·exact two 14 rfl (by decide)
 ·exact two 15 rfl (by decide)
 ·exact two 16 rfl (by decide)
 ·exact two 17 rfl (by decide)
 ·obtain ⟨a, b, rfl⟩ := two_of (h2 (by omega))
  have e1 : typKD cs inn env 18 nm [a, b] = sameD cs a b := rfl
  have e2 : typK cs inn env 18 nm [a, b] = if sameT cs a b = true then some tInt else none := rfl
  rw [e1, e2]
  unfold sameD sameT
  rw [← fit_eq hg.nm, ← fit_eq hg.nm]
  cases isT a tInt <;> cases isT b tInt <;> cases isT a tNull <;> cases isT b tNull <;> cases fitR 0 cs a b <;> cases fitR 0 cs b a <;> exact ⟨rfl, fun t h => by cases h <;> exact int_ne⟩
mutual
theorem typD_eq {cs : List Class} (hg : Good cs) (inn : ByteArray) (env : List Slot) : ∀ (x : Expr), MayE x → typD cs inn env x = (typB cs inn env x).getD tNo ∧ ∀ t, typB cs inn env x = some t → t ≠ tNo
 | ⟨k, n, nm, kids⟩, h => by
   simp only [MayE] at h
   obtain ⟨h0, h1, h10, h2, hk⟩ := h
   have ih := typsD_eq hg inn env kids hk
   rw [typD, typB, ih]
   cases hts : typsB cs inn env kids with
   | none => exact ⟨rfl, fun t h => by cases h⟩
   | some ts =>
     have hl := typsB_len cs inn env kids hts
     rw [← hl] at h1 h10 h2
     simp only [Option.bind_some]
     exact typK_eq hg inn env nm h0 h1 h10 h2
theorem typsD_eq {cs : List Class} (hg : Good cs) (inn : ByteArray) (env : List Slot) : ∀ (l : List Expr), MayEs l → typsD cs inn env l = typsB cs inn env l
 | [], _ => rfl
 | x :: l, h => by
   simp only [MayEs] at h
   obtain ⟨i1, i2⟩ := typD_eq hg inn env x h.1
   have ih := typsD_eq hg inn env l h.2
   rw [typsD, typsB, ih, i1]
   cases hx : typB cs inn env x with
   | none => rw [if_pos (by simp [isT])]
   | some t => rw [if_neg (by rw [Option.getD_some, isT_iff]; exact i2 t hx)]; rfl
end
mutual
def MayS : Stmt → Prop
 | ⟨_, _, _, _, es, th, el⟩ => MayEs es ∧ MaySs th ∧ MaySs el
def MaySs : List Stmt → Prop
 | [] => True
 | x :: l => MayS x ∧ MaySs l
end
theorem MaySs.mem : ∀ {l : List Stmt} {x : Stmt}, MaySs l → x ∈ l → MayS x
 | y :: l, x, h, hx => by
   simp only [MaySs] at h
   rcases List.mem_cons.1 hx with rfl | hx
   ·exact h.1
   ·exact MaySs.mem h.2 hx
theorem rightK_eq {cs : List Class} (hg : Good cs) (main : Bool) (ret : ByteArray) (hmr : main = isT ret tNo) (env : List Slot) (k : Int) (ty : ByteArray) (ts : List ByteArray) {inn : ByteArray} : rightK cs main ret k ty ts = stmtT cs inn ret env k ty ts := by
 unfold rightK stmtT
 rw [fit_eq hg.nm, fit_eq hg.nm, fit_eq hg.nm, hmr]
mutual
theorem stmtTD_eq {cs : List Class} (hg : Good cs) (inn : ByteArray) (main : Bool) (ret : ByteArray) (hmr : main = isT ret tNo) : ∀ (x : Stmt) (env : List Slot), MayS x → stmtTD cs inn main ret env x = stmtTB cs inn ret env x
 | ⟨k, n, ty, nm, es, th, el⟩, env, h => by
   simp only [MayS] at h
   rw [stmtTD, stmtTB, blockTD_eq hg inn main ret hmr th env h.2.1, blockTD_eq hg inn main ret hmr el env h.2.2]
   congr 2
   unfold rightD
   rw [typsD_eq hg inn env es h.1]
   cases typsB cs inn env es with
   | none => rfl
   | some ts => exact rightK_eq hg main ret hmr env k ty ts
theorem blockTD_eq {cs : List Class} (hg : Good cs) (inn : ByteArray) (main : Bool) (ret : ByteArray) (hmr : main = isT ret tNo) : ∀ (l : List Stmt) (env : List Slot), MaySs l → blockTD cs inn main ret env l = blockTB cs inn ret env l
 | [], env, _ => by rw [blockTD, blockTB]
 | x :: l, env, h => by
   simp only [MaySs] at h
   rw [blockTD, blockTB, stmtTD_eq hg inn main ret hmr x env h.1, blockTD_eq hg inn main ret hmr l _ h.2]
end
mutual
theorem decS_names : ∀ x : Stmt, (decS x).map (·.name) = declS x
 | ⟨k, n, ty, nm, es, th, el⟩ => by
   rw [decS, declS, List.map_append, List.map_append, decSs_names th, decSs_names el]
   congr 2
   split <;> rfl
theorem decSs_names : ∀ l : List Stmt, (decSs l).map (·.name) = declSs l
 | [] => by rw [decSs, declSs]; rfl
 | x :: l => by rw [decSs, declSs, List.map_append, decS_names x, decSs_names l]
end
theorem freshB_iff : ∀ (l L : List ByteArray), L.Nodup → (freshB L l = true ↔ (L ++ l).Nodup)
 | [], L, h => by simp [freshB, h]
 | x :: l, L, h => by
   rw [freshB, Bool.and_eq_true]
   have hx : (!(L.any fun y => y.toList == x.toList)) = true ↔ x ∉ L := by
    rw [Bool.not_eq_true', List.any_eq_false]
    constructor
    ·intro h1 h2; exact h1 x h2 (beq_bytes.2 rfl)
    ·intro h1 y hy h2; rw [beq_bytes.1 h2] at hy; exact h1 hy
   rw [hx]
   constructor
   ·rintro ⟨h1, h2⟩
    have hn : (L ++ [x]).Nodup := by rw [List.nodup_append]; exact ⟨h, by simp, fun a ha b hb => by simp at hb; subst hb; exact fun e => h1 (e ▸ ha)⟩
    have := (freshB_iff l (L ++ [x]) hn).1 h2
    rwa [List.append_assoc] at this
   ·intro h1
    have h3 : (L ++ [x] ++ l).Nodup := by rw [List.append_assoc]; exact h1
    have hn : (L ++ [x]).Nodup := (List.nodup_append.1 h3).1
    refine ⟨fun hm => ?_, (freshB_iff l (L ++ [x]) hn).2 h3⟩
    exact (List.nodup_append.1 hn).2.2 x hm x (by simp) rfl
theorem twice_names {l : List Slot} : (!(twiceB l)) = true ↔ (l.map (·.name)).Nodup := by
 rw [Bool.not_eq_true']; exact twice_iff l
theorem methTD_eq {cs : List Class} (hg : Good cs) (inn : ByteArray) (main : Bool) (ret : ByteArray) (hmr : main = isT ret tNo) (params : List Slot) (hp : (params.map (·.name)).Nodup) (body : List Stmt) (hb : MaySs body) :
 methTB cs inn ret params body = (params.all (fun s => knownR cs s.type) && methTD cs inn main ret params body) := by
 unfold methTB methTD
 rw [blockTD_eq hg inn main ret hmr body params hb, Bool.and_assoc]
 congr 2
 rw [Bool.eq_iff_iff, twice_names, freshB_iff _ _ hp, List.map_append, decSs_names]
theorem chkErr_ok {p : Program} (h : chkErr (errP p) p.classes = 0) : checkB p = true := by
 cases hk : checkB p with
 | true => rfl
 | false =>
   unfold chkErr errP at h
   rw [hk] at h
   simp [treeErr] at h
theorem exprB_may (kind : Int) (ls : Nat) (hs : (shapeOf kind).2 = true) (h1 : (shapeOf kind).1.least ≤ ls) (h2 : (ls : Int) ≤ (shapeOf kind).1.most) :
 (1 ≤ kind ∧ kind ≤ 18) ∧ (kind = 6 ∨ kind = 7 ∨ kind = 9 ∨ kind = 12 → ls = 1) ∧ (kind = 10 → 1 ≤ ls) ∧ (kind = 8 ∨ kind = 13 ∨ kind = 14 ∨ kind = 15 ∨ kind = 16 ∨ kind = 17 ∨ kind = 18 → ls = 2) ∧ ls ≤ 5 := by
 have hk : 1 ≤ kind ∧ kind ≤ 18 := by
  unfold shapeOf at hs
  split at hs
  ·assumption
  ·cases hs
 have hks : kind = 1 ∨ kind = 2 ∨ kind = 3 ∨ kind = 4 ∨ kind = 5 ∨ kind = 6 ∨ kind = 7 ∨ kind = 8 ∨ kind = 9 ∨ kind = 10 ∨ kind = 11 ∨ kind = 12 ∨ kind = 13 ∨ kind = 14 ∨ kind = 15 ∨ kind = 16 ∨ kind = 17 ∨ kind = 18 := by omega
 rcases hks with rfl | rfl | rfl | rfl | rfl | rfl | rfl | rfl | rfl | rfl | rfl | rfl | rfl | rfl | rfl | rfl | rfl | rfl <;> simp [shapeOf, shapes] at h1 h2 <;> omega
mutual
theorem mayE_of : ∀ x : Expr, exprB x = true → MayE x ∧ KidsE x
 | ⟨k, n, nm, kids⟩, h => by
   simp only [exprB, Bool.and_eq_true] at h
   obtain ⟨ht, hk⟩ := h
   simp only [exprTop, Bool.and_eq_true, decide_eq_true_eq] at ht
   obtain ⟨⟨⟨⟨⟨hs, h1⟩, h2⟩, -⟩, -⟩, -⟩ := ht
   obtain ⟨a1, a2, a3, a4, a5⟩ := exprB_may k kids.length hs h1 h2
   obtain ⟨b1, b2⟩ := mayEs_of kids hk
   simp only [MayE, KidsE]
   exact ⟨⟨a1, a2, a3, a4, b1⟩, fun h => a2 (by omega), a3, fun h => a4 (by omega), by omega, b2⟩
theorem mayEs_of : ∀ l : List Expr, exprsB l = true → MayEs l ∧ KidsEs l
 | [], _ => by simp only [MayEs, KidsEs]; exact ⟨trivial, trivial⟩
 | x :: l, h => by
   simp only [exprsB, Bool.and_eq_true] at h
   obtain ⟨a1, a2⟩ := mayE_of x h.1
   obtain ⟨b1, b2⟩ := mayEs_of l h.2
   simp only [MayEs, KidsEs]
   exact ⟨⟨a1, b1⟩, a2, b2⟩
end
theorem exprsOf_may {k : Int} {n : Nat} (h0 : 0 ≤ (exprsOf k).1) (h1 : (exprsOf k).1 ≤ n) (h2 : (n : Int) ≤ (exprsOf k).2) : (k = 2 → n = 2) ∧ (k = 3 ∨ k = 4 ∨ k = 5 ∨ k = 6 → 1 ≤ n) ∧ n ≤ 2 := by
 unfold exprsOf at h0 h1 h2
 by_cases e1 : k = 1
 ·rw [if_pos e1] at h0 h1 h2; simp at h0 h1 h2; omega
 rw [if_neg e1] at h0 h1 h2
 by_cases e2 : k = 2
 ·rw [if_pos e2] at h0 h1 h2; simp at h0 h1 h2; omega
 rw [if_neg e2] at h0 h1 h2
 by_cases e3 : 3 ≤ k ∧ k ≤ 7
 ·rw [if_pos e3] at h0 h1 h2; simp at h0 h1 h2; omega
 rw [if_neg e3] at h0 h1 h2; simp at h0
mutual
theorem mayS_of : ∀ x : Stmt, stmtB x = true → MayS x ∧ KidsS x
 | ⟨k, n, t, nm, es, th, el⟩, h => by
   simp only [stmtB, Bool.and_eq_true] at h
   obtain ⟨⟨⟨⟨ht, he⟩, -⟩, h1⟩, h2⟩ := h
   simp only [stmtTop, Bool.and_eq_true, decide_eq_true_eq] at ht
   obtain ⟨⟨⟨⟨⟨⟨q0, q1⟩, q2⟩, -⟩, -⟩, -⟩, -⟩ := ht
   obtain ⟨a1, a2, a3⟩ := exprsOf_may q0 q1 q2
   rw [← exprsB_all] at he
   obtain ⟨b1, b2⟩ := mayEs_of es he
   obtain ⟨c1, c2⟩ := maySs_of th h1
   obtain ⟨d1, d2⟩ := maySs_of el h2
   simp only [MayS, KidsS]
   exact ⟨⟨b1, c1, d1⟩, a1, a2, by omega, b2, c2, d2⟩
theorem maySs_of : ∀ l : List Stmt, stmtsB l = true → MaySs l ∧ KidsSs l
 | [], _ => by simp only [MaySs, KidsSs]; exact ⟨trivial, trivial⟩
 | x :: l, h => by
   simp only [stmtsB, Bool.and_eq_true] at h
   obtain ⟨a1, a2⟩ := mayS_of x h.1
   obtain ⟨b1, b2⟩ := maySs_of l h.2
   simp only [MaySs, KidsSs]
   exact ⟨⟨a1, b1⟩, a2, b2⟩
end
theorem main_of {p : Program} (h : chkErr (errP p) p.classes = 0) : MaySs p.main ∧ KidsSs p.main := by
 have hb := chkErr_ok h
 unfold checkB at hb
 rw [Bool.and_eq_true, ← stmtsB_all] at hb
 exact maySs_of _ hb.1
theorem class_of {p : Program} (h : chkErr (errP p) p.classes = 0) {c : Class} (hc : c ∈ p.classes) : (∀ s ∈ c.fields, slotB s = true) ∧ ∀ m ∈ c.methods, methodB m = true := by
 have hb := chkErr_ok h
 unfold checkB at hb
 rw [Bool.and_eq_true] at hb
 have := List.all_eq_true.1 hb.2 c hc
 simp only [classB, classTop, Bool.and_eq_true] at this
 exact ⟨List.all_eq_true.1 this.1.2, List.all_eq_true.1 this.2⟩
theorem meth_body {p : Program} (h : chkErr (errP p) p.classes = 0) {c : Class} (hc : c ∈ p.classes) {m : Method} (hm : m ∈ c.methods) : MaySs m.body ∧ KidsSs m.body := by
 have := (class_of h hc).2 m hm
 unfold methodB at this
 simp only [Bool.and_eq_true] at this
 exact maySs_of _ (by rw [stmtsB_all]; exact this.2)
theorem slot_type {s : Slot} (h : slotB s = true) : s.type ≠ tNo := by
 unfold slotB at h
 rw [Bool.and_eq_true] at h
 intro e
 have := h.1
 rw [e, noType] at this; cases this
theorem good_of {p : Program} (h : chkErr (errP p) p.classes = 0) : Good p.classes where
 nm := named_of h
 s0 := chkErr_zero h
 fld := fun c hc s hs => slot_type ((class_of h hc).1 s hs)
 mth := fun c hc m hm => by
  have := (class_of h hc).2 m hm
  unfold methodB at this
  simp only [Bool.and_eq_true] at this
  exact slot_type (s := ⟨m.type, m.name⟩) this.1.1.1
theorem classTD_eq {p : Program} (h : chkErr (errP p) p.classes = 0) {c : Class} (hc : c ∈ p.classes) : classTB p.classes c = classTD p.classes c := by
 have hg := good_of h
 unfold classTB classTD
 congr 1
 rw [Bool.eq_iff_iff, List.all_eq_true, List.all_eq_true]
 refine forall_congr' fun m => forall_congr' fun hm => ?_
 rw [methTD_eq hg c.name false m.type (by have := hg.mth c hc m hm; rw [isT_dec]; simp [this]) m.params (hg.s0.params c hc m hm) m.body (meth_body h hc hm).1]
 rw [← Bool.eq_iff_iff]
 cases knownR p.classes m.type <;> cases m.params.all (fun s => knownR p.classes s.type) <;> rfl
theorem progTD_eq {p : Program} (h : chkErr (errP p) p.classes = 0) : progTB p = progTD p := by
 have hg := good_of h
 unfold progTB progTD
 rw [methTD_eq hg tNo true tNo (by rw [isT_dec]; simp) [] (by simp) p.main (main_of h).1]
 congr 1
 rw [Bool.eq_iff_iff, List.all_eq_true, List.all_eq_true]
 exact forall_congr' fun c => forall_congr' fun hc => by rw [classTD_eq h hc]
theorem checkRD (p : Program) : checkR p = checkD p := by
 unfold checkR checkD
 split
 ·rename_i h; rw [progTD_eq h]
 ·rfl
end V
end Go.Proofs.YthhpcjoaogmhbaaGreat
end
section
namespace Go.Proofs.YthhpcjoaogmhbaaGreat
namespace V
open Go.RowKit
theorem refVar_ok (env : List Slot) (n : ByteArray) (hlen : env.length ≤ 1000000000) (m : Mem) : COk Tryz.prog 102 [.c (.sl (env.map cSlot)), .c (.str n)] m (.c (.str (varD env n))) := by
 refine (ok_pure tab_ok Tryz.func102 (by kernel_rfl) rfl rfl (by rfl) (by rfl) (by rfl) (fun R hkeep => ?_) m)
 refine W.go ?_
 refine W.loop (ι := Nat) (fun k => ⟨upd (upd (upd (upd (fun _ => .top) 1 (.c (.str n))) 7 (.c (.sl (env.map cSlot)))) 8 (.c (.int .i64 env.length))) 9 (.c (.int .i64 k)), Mem.nil⟩) (fun k => k ≤ env.length ∧ (env.take k).find? (slotIs n) = none) (fun k => env.length - k) 0 ?start ⟨Nat.zero_le _, rfl⟩ ?round
 case start =>
  exact le_D (kept_not hkeep)
 case round =>
  rintro k ⟨hk, hall⟩
  refine W.go ?_
  refine W.cond rfl ?_ ?_
  ·intro hlt
   simp only [decide_eq_true_eq, Int.ofNat_lt] at hlt
   obtain ⟨x, hx⟩ : ∃ x, env[k]? = some x := ⟨_, List.getElem?_eq_getElem hlt⟩
   repeat (first | refine W.seq ?_ | refine W.block ?_ | refine W.skip ?_ | refine W.exit ?_ | refine W.g ?_ zy31q15)
   refine W.cond rfl ?_ ?_
   ·intro heq
    refine W.go ?_
    refine W.ret ⟨.inr rfl, by rfl, ?_⟩
    simp only [Tryz.f102, resA, resOne, toT, fin, exb, Nat.reduceAdd, Nat.reduceLeDiff, Nat.reduceEqDiff, Nat.reduceMul, Int.reduceToNat, reduceIte, Int.reduceLE, Int.reduceNeg]
    rw [show varD env n = x.type by unfold varD pickB; rw [(find_none hall hx).1 heq]; rfl]
   ·intro hne
    refine W.go ?_
    refine ⟨k + 1, ⟨hlt, (find_none hall hx).2 hne⟩, by omega, ?_⟩
    exact le_Sk (kept_not hkeep)
  ·intro hge
   simp only [decide_eq_false_iff_not, Int.ofNat_lt] at hge
   obtain rfl : k = env.length := by omega
   rw [List.take_length] at hall
   refine W.go ?_
   refine W.ret ⟨.inr rfl, by rfl, ?_⟩
   simp only [Tryz.f102, resA, resOne, toT, fin, exb, Nat.reduceAdd, Nat.reduceLeDiff, Nat.reduceEqDiff, Nat.reduceMul, Int.reduceToNat, reduceIte, Int.reduceLE, Int.reduceNeg]
   rw [show varD env n = tNo by unfold varD pickB; rw [hall]; rfl]
theorem refAll_ok (l : List ByteArray) (t : ByteArray) (hlen : l.length ≤ 1000000000) (m : Mem) : COk Tryz.prog 104 [.c (.sl (l.map cStr)), .c (.str t)] m (.c (.str (allD l t))) := by
 refine (ok_pure tab_ok Tryz.func104 (by kernel_rfl) rfl rfl (by rfl) (by rfl) (by rfl) (fun R hkeep => ?_) m)
 refine W.go ?_
 refine W.loop (ι := Nat) (fun k => ⟨upd (upd (upd (upd (fun _ => .top) 1 (.c (.str t))) 7 (.c (.sl (l.map cStr)))) 8 (.c (.int .i64 l.length))) 9 (.c (.int .i64 k)), Mem.nil⟩) (fun k => k ≤ l.length ∧ (l.take k).all (fun s => isT s t) = true) (fun k => l.length - k) 0 ?start ⟨Nat.zero_le _, rfl⟩ ?round
 case start =>
  exact le_D (kept_not hkeep)
 case round =>
  rintro k ⟨hk, hall⟩
  refine W.go ?_
  refine W.cond rfl ?_ ?_
  ·intro hlt
   simp only [decide_eq_true_eq, Int.ofNat_lt] at hlt
   obtain ⟨x, hx⟩ : ∃ x, l[k]? = some x := ⟨_, List.getElem?_eq_getElem hlt⟩
   have hs : (l.take (k + 1)).all (fun s => isT s t) = isT x t := by
    rw [List.take_add_one, hx, List.all_append, hall]; simp
   repeat (first | refine W.seq ?_ | refine W.block ?_ | refine W.skip ?_ | refine W.exit ?_ | refine W.g ?_ (by simp only [exb, Nat.reduceAdd, Nat.reduceLeDiff, Nat.reduceEqDiff, Nat.reduceMul, Int.reduceToNat, reduceIte, Int.reduceLE, Int.reduceNeg, at_map hx, cStr]; rfl))
   refine W.cond rfl ?_ ?_
   ·intro heq
    have hno : isT x t = false := by unfold isT; simpa using heq
    refine W.go ?_
    refine W.ret ⟨.inr rfl, by rfl, ?_⟩
    simp only [Tryz.f104, resA, resOne, toT, fin, exb, Nat.reduceAdd, Nat.reduceLeDiff, Nat.reduceEqDiff, Nat.reduceMul, Int.reduceToNat, reduceIte, Int.reduceLE, Int.reduceNeg]
    rw [show allD l t = tNo from if_neg (fun h => by have := List.all_eq_true.1 h x (List.mem_of_getElem? hx); rw [hno] at this; cases this)]
   ·intro hne
    have hyes : isT x t = true := by unfold isT; simpa using hne
    refine W.go ?_
    refine ⟨k + 1, ⟨hlt, by rw [hs]; exact hyes⟩, by omega, ?_⟩
    exact le_Sk (kept_not hkeep)
  ·intro hge
   simp only [decide_eq_false_iff_not, Int.ofNat_lt] at hge
   obtain rfl : k = l.length := by omega
   rw [List.take_length] at hall
   refine W.go ?_
   refine W.ret ⟨.inr rfl, by rfl, ?_⟩
   simp only [Tryz.f104, resA, resOne, toT, fin, exb, Nat.reduceAdd, Nat.reduceLeDiff, Nat.reduceEqDiff, Nat.reduceMul, Int.reduceToNat, reduceIte, Int.reduceLE, Int.reduceNeg]
   rw [show allD l t = tInt from if_pos hall]
section
variable (p : Program) (hlen : p.classes.length ≤ 16) (hchk : ∀ m, COk Tryz.prog 11 [.agg (cProg p)] m (.c (.int .i64 0)))
include hlen hchk
theorem refSame_ok (a b : ByteArray) (m : Mem) : COk Tryz.prog 106 [.agg (cProg p), .c (.str a), .c (.str b)] m (.c (.str (sameD p.classes a b))) := by
 have hfa := fun m => refFits_ok p 0 a b (by omega) hchk m
 have hfb := fun m => refFits_ok p 0 b a (by omega) hchk m
 unfold sameD isT
 generalize fitD 0 p.classes a b = Fa at hfa
 generalize fitD 0 p.classes b a = Fb at hfb
 have hcp : cProg p = [.sl (p.classes.map cClass), .sl (cStmts p.main)] := rfl
 refine (ok_pure tab_ok Tryz.func106 (by kernel_rfl) rfl rfl (by rfl) (by rfl) (by rfl) (fun R hkeep => ?_) m)
 repeat (first | refine W.seq ?_ | refine W.block ?_ | refine W.skip ?_ | refine W.exit ?_ | refine W.g ?_ zy31q32)
 cases h1 : (a.toList == tInt.toList) with
 | true =>
   cases h2 : (b.toList == tInt.toList) with
   | true =>
     refine W.regionK tab_ok 0 (by decide) ?_
     refine runk_exec zy31q27 ?_
     refine W.cond rfl (fun _ => ?_) (fun h => by cases h)
     refine W.go ?_
     exact W.ret ⟨.inr rfl, by rfl, zy31q7⟩
   | false =>
     refine W.regionK tab_ok 0 (by decide) ?_
     refine runk_exec zy31q27 ?_
     refine W.cond rfl (fun h => by cases h) (fun _ => ?_)
     repeat (first | refine W.seq ?_ | refine W.block ?_ | refine W.skip ?_ | refine W.exit ?_ | refine W.g ?_ zy31q24)
     refine W.cond rfl (fun h => by cases h) (fun _ => ?_)
     refine W.go ?_
     exact W.ret ⟨.inr rfl, by rfl, zy31q7⟩
 | false =>
   refine W.regionK tab_ok 0 (by decide) ?_
   refine runk_exec (by simp only [exb, Nat.reduceAdd, Nat.reduceLeDiff, Nat.reduceEqDiff, Nat.reduceMul, Int.reduceToNat, reduceIte, Int.reduceLE, Int.reduceNeg, h1]; rfl) ?_
   refine W.cond rfl (fun h => by cases h) (fun _ => ?_)
   cases h2 : (b.toList == tInt.toList) with
   | true =>
     repeat (first | refine W.seq ?_ | refine W.block ?_ | refine W.skip ?_ | refine W.exit ?_ | refine W.g ?_ zy31q24)
     refine W.cond rfl (fun h => by cases h) (fun _ => ?_)
     refine W.go ?_
     exact W.ret ⟨.inr rfl, by rfl, zy31q7⟩
   | false =>
     refine W.bl ?_
     refine W.regionK tab_ok 0 (by decide) ?_
     refine runk_split 10 zy31q24 ?_
     refine runk_call rfl rfl rfl rfl rfl (by simp) cw3 (hfa _) ?_
     cases Fa with
     | true =>
       refine runk_exec zy31q27 ?_
       refine W.cond rfl (fun _ => ?_) (fun h => by cases h)
       refine W.go ?_
       exact W.ret ⟨.inr rfl, by rfl, zy31q7⟩
     | false =>
       refine runk_split 4 zy31q24 ?_
       refine runk_call rfl rfl rfl rfl rfl (by simp) cw3 (hfb _) ?_
       cases Fb with
       | true =>
         refine runk_exec zy31q27 ?_
         refine W.cond rfl (fun _ => ?_) (fun h => by cases h)
         refine W.go ?_
         exact W.ret ⟨.inr rfl, by rfl, zy31q7⟩
       | false =>
         cases h3 : (a.toList == tNull.toList) with
         | true =>
           cases h4 : (b.toList == tNull.toList) with
           | true =>
             refine runk_exec zy31q19 ?_
             refine W.cond rfl (fun _ => ?_) (fun h => by cases h)
             refine W.go ?_
             exact W.ret ⟨.inr rfl, by rfl, zy31q7⟩
           | false =>
             refine runk_exec zy31q19 ?_
             refine W.cond rfl (fun h => by cases h) (fun _ => ?_)
             refine W.go ?_
             exact W.ret ⟨.inr rfl, by rfl, zy31q7⟩
         | false =>
           refine runk_exec (by simp only [exb, Nat.reduceAdd, Nat.reduceLeDiff, Nat.reduceEqDiff, Nat.reduceMul, Int.reduceToNat, reduceIte, Int.reduceLE, Int.reduceNeg, h1, h2, h3]; rfl) ?_
           refine W.cond rfl (fun h => by cases h) (fun _ => ?_)
           refine W.go ?_
           exact W.ret ⟨.inr rfl, by rfl, zy31q7⟩
omit hchk in
theorem refLeaf_ok (inn : ByteArray) (env : List Slot) (henv : env.length ≤ 1000000000) (k nn : Int) (nm : ByteArray) (kids : List Expr) (m : Mem) : COk Tryz.prog 107 [.agg (cProg p), .c (.str inn), .c (.sl (env.map cSlot)), .agg (cExpr ⟨k, nn, nm, kids⟩)] m (.c (.str (leafD p.classes inn env k nm))) := by
 have hcl := refClass_ok p.classes (.sl (cStmts p.main)) nm (by omega)
 have hva := refVar_ok env nm henv
 have hcp : cProg p = [.sl (p.classes.map cClass), .sl (cStmts p.main)] := rfl
 refine (ok_pure tab_ok Tryz.func107 (by kernel_rfl) rfl rfl (by rfl) (by rfl) (by rfl) (fun R hkeep => ?_) m)
 repeat (first | refine W.seq ?_ | refine W.block ?_ | refine W.skip ?_ | refine W.exit ?_ | refine W.g ?_ (by simp only [exb, Nat.reduceAdd, Nat.reduceLeDiff, Nat.reduceEqDiff, Nat.reduceMul, Int.reduceToNat, reduceIte, Int.reduceLE, Int.reduceNeg, hcp, cExpr]; rfl))
 refine W.cond rfl ?_ ?_
 ·intro h
  obtain rfl : k = 1 := by simpa using h
  refine W.go ?_
  refine W.cond rfl (fun _ => ?_) (fun h => by cases h)
  refine W.go ?_
  exact W.ret ⟨.inr rfl, by rfl, zy31q8⟩
 intro h
 have n1 : ¬ k = 1 := by simpa using h
 refine W.go ?_
 refine W.cond rfl ?_ ?_
 ·intro h
  obtain rfl : k = 11 := by simpa using h
  refine W.go ?_
  exact W.ret ⟨.inr rfl, by rfl, zy31q8⟩
 intro h
 have n11 : ¬ k = 11 := by simpa using h
 refine W.go ?_
 refine W.cond rfl ?_ ?_
 ·intro h
  obtain rfl : k = 2 := by simpa using h
  refine W.go ?_
  exact W.ret ⟨.inr rfl, by rfl, zy31q8⟩
 intro h
 have n2 : ¬ k = 2 := by simpa using h
 refine W.go ?_
 refine W.cond rfl ?_ ?_
 ·intro h
  obtain rfl : k = 3 := by simpa using h
  refine W.go ?_
  exact W.ret ⟨.inr rfl, by rfl, zy31q8⟩
 intro h
 have n3 : ¬ k = 3 := by simpa using h
 refine W.go ?_
 refine W.cond rfl ?_ ?_
 ·intro h
  obtain rfl : k = 4 := by simpa using h
  refine W.go ?_
  refine W.regionK tab_ok 0 (by decide) ?_
  refine xs0 3 ?_
  refine runk_call rfl rfl rfl rfl rfl (by simp) cw2 (hva _) ?_
  refine xe0 ?_
  refine W.go ?_
  exact W.ret ⟨.inr rfl, by rfl, zy31q8⟩
 intro h
 have n4 : ¬ k = 4 := by simpa using h
 have hk : leafD p.classes inn env k nm = if p.classes.any (isNm nm) = true then nm else tNo := by simp [leafD, n1, n11, n2, n3, n4]
 rw [hk]
 generalize p.classes.any (isNm nm) = B at hcl
 refine W.go ?_
 refine W.regionK tab_ok 0 (by decide) ?_
 refine runk_split 3 zy31q32 ?_
 refine runk_call rfl rfl rfl rfl rfl (by simp) cw2 (hcl _) ?_
 refine xe0 ?_
 refine W.cond rfl ?_ ?_
 ·intro h
  obtain rfl : B = true := h
  refine W.go ?_
  exact W.ret ⟨.inr rfl, by rfl, (by simp only [Tryz.f107, resA, resOne, toT, fin, exb, Nat.reduceAdd, Nat.reduceLeDiff, Nat.reduceEqDiff, Nat.reduceMul, Int.reduceToNat, reduceIte, Int.reduceLE, Int.reduceNeg])⟩
 ·intro h
  obtain rfl : B = false := h
  refine W.go ?_
  exact W.ret ⟨.inr rfl, by rfl, zy31q8⟩
theorem refFields_ok (hS : SmallC p.classes) (n : ByteArray) (m : Mem) : COk Tryz.prog 103 [.agg (cProg p), .c (.str n)] m (.c (.sl ((fieldsF p.classes (refChainF 0 p.classes n)).map cSlot))) := by
 have hL : (refChainF 0 p.classes n).length ≤ 17 := by
  unfold refChainF
  rw [if_pos rfl]
  have := chainF_len p.classes (p.classes.length + 1) n; omega
 have hF := fieldsF_len hS (refChainF 0 p.classes n)
 have hF2 : (fieldsF p.classes (refChainF 0 p.classes n)).length ≤ 1000000000 := by
  have := Nat.mul_le_mul_right 1048576 hL
  omega
 have hfi := fields_ok p.classes (.sl (cStmts p.main)) (refChainF 0 p.classes n) (by omega) (by omega) hF2
 have hch := fun m => refChain_ok p 0 n (by omega) hchk m
 have hcp : cProg p = [.sl (p.classes.map cClass), .sl (cStmts p.main)] := rfl
 refine (ok_pure tab_ok Tryz.func103 (by kernel_rfl) rfl rfl (by rfl) (by rfl) (by rfl) (fun R hkeep => ?_) m)
 repeat (first | refine W.seq ?_ | refine W.block ?_ | refine W.skip ?_ | refine W.exit ?_ | refine W.g ?_ zy31q32)
 refine W.regionDK tab_ok 0 follows_mixed (by kernel_rfl) (by decide) ?_
 refine runk_split 3 zy31q32 ?_
 refine runk_call rfl rfl rfl rfl rfl (by simp) cw2 (hch _) ?_
 refine runk_split 0 zy31q32 ?_
 refine runk_call rfl rfl rfl rfl rfl (by simp) cw2 (hfi _) ?_
 refine xe0 ?_
 exact W.ret ⟨.inr rfl, by rfl, (by simp only [Tryz.f103, resA, resOne, toT, fin, exb, Nat.reduceAdd, Nat.reduceLeDiff, Nat.reduceEqDiff, Nat.reduceMul, Int.reduceToNat, reduceIte, Int.reduceLE, Int.reduceNeg])⟩
theorem refMethod_ok (hS : SmallC p.classes) (cn n : ByteArray) (m : Mem) : COk Tryz.prog 118 [.agg (cProg p), .c (.str cn), .c (.str n)] m (.tup (methodC (methodF p.classes n (refChainF 0 p.classes cn)))) := by
 have hL : (refChainF 0 p.classes cn).length ≤ 17 := by
  unfold refChainF
  rw [if_pos rfl]
  have := chainF_len p.classes (p.classes.length + 1) cn; omega
 have hme := method_ok p.classes (.sl (cStmts p.main)) (refChainF 0 p.classes cn) n (by omega) (by omega) (fun x => by have := (hS.classD x).2; omega)
 have hch := fun m => refChain_ok p 0 cn (by omega) hchk m
 have hcp : cProg p = [.sl (p.classes.map cClass), .sl (cStmts p.main)] := rfl
 generalize methodF p.classes n (refChainF 0 p.classes cn) = r at hme
 refine (ok_pure tab_ok Tryz.func118 (by kernel_rfl) rfl rfl (by rfl) (by rfl) (by rfl) (fun R hkeep => ?_) m)
 repeat (first | refine W.seq ?_ | refine W.block ?_ | refine W.skip ?_ | refine W.exit ?_ | refine W.g ?_ zy31q32)
 refine W.regionDK tab_ok 0 follows_mixed (by kernel_rfl) (by decide) ?_
 refine runk_split 3 zy31q32 ?_
 refine runk_call rfl rfl rfl rfl rfl (by simp) cw2 (hch _) ?_
 refine runk_split 1 zy31q32 ?_
 refine runk_call rfl rfl rfl rfl rfl (by simp) cw3 (hme _) ?_
 match r with
 | some (x, d) =>
   refine runk_exec zy31q16 ?_
   exact W.ret ⟨.inr rfl, by rfl, (by simp only [Tryz.f118, resA, resOne, toT, fin, exb, Nat.reduceAdd, Nat.reduceLeDiff, Nat.reduceEqDiff, Nat.reduceMul, Int.reduceToNat, reduceIte, Int.reduceLE, Int.reduceNeg, methodC, cMethod])⟩
 | none =>
   refine runk_exec zy31q11 ?_
   exact W.ret ⟨.inr rfl, by rfl, (by simp only [Tryz.f118, resA, resOne, toT, fin, exb, Nat.reduceAdd, Nat.reduceLeDiff, Nat.reduceEqDiff, Nat.reduceMul, Int.reduceToNat, reduceIte, Int.reduceLE, Int.reduceNeg, methodC, cMethod]; rfl)⟩
end
end V
end Go.Proofs.YthhpcjoaogmhbaaGreat
end
section
namespace Go.Proofs.YthhpcjoaogmhbaaGreat
namespace V
open Go.RowKit
theorem typsD_snoc (cs : List Class) (inn : ByteArray) (env : List Slot) : ∀ (l : List Expr) (x : Expr) {ts : List ByteArray}, typsD cs inn env l = some ts → typsD cs inn env (l ++ [x]) = if isT (typD cs inn env x) tNo = true then none else some (ts ++ [typD cs inn env x])
 | [], x, ts, h => by
   rw [typsD] at h
   cases h
   rw [List.nil_append, typsD, typsD]; rfl
 | y :: l, x, ts, h => by
   rw [typsD] at h
   rw [List.cons_append, typsD]
   split at h
   ·cases h
   ·rename_i hy
    rw [if_neg hy]
    cases hl : typsD cs inn env l with
    | none => rw [hl] at h; cases h
    | some us =>
      rw [hl] at h
      cases h
      rw [typsD_snoc cs inn env l x hl]
      split <;> rfl
theorem typsD_none (cs : List Class) (inn : ByteArray) (env : List Slot) : ∀ (l r : List Expr), typsD cs inn env l = none → typsD cs inn env (l ++ r) = none
 | [], r, h => by rw [typsD] at h; cases h
 | y :: l, r, h => by
   rw [typsD] at h
   rw [List.cons_append, typsD]
   split at h
   ·rename_i hy; rw [if_pos hy]
   ·rename_i hy
    rw [if_neg hy]
    cases hl : typsD cs inn env l with
    | none => rw [typsD_none cs inn env l r hl]; rfl
    | some us => rw [hl] at h; cases h
section
variable (p : Program) (hlen : p.classes.length ≤ 16) (hS : SmallC p.classes) (hchk : ∀ m, COk Tryz.prog 11 [.agg (cProg p)] m (.c (.int .i64 0)))
include hlen hS hchk
theorem refCall_ok (nm l0 : ByteArray) (lr : List ByteArray) (hl : lr.length ≤ 1000000000) (m : Mem) : COk Tryz.prog 105 [.agg (cProg p), .c (.str nm), .c (.sl ((l0 :: lr).map cStr))] m (.c (.str (callD p.classes nm (l0 :: lr)))) := by
 have hcp : cProg p = [.sl (p.classes.map cClass), .sl (cStmts p.main)] := rfl
 have hme := refMethod_ok p hlen hchk hS l0 nm
 have hcd : callD p.classes nm (l0 :: lr) = match methodF p.classes nm (refChainF 0 p.classes l0) with | some (m, _) => if eqFitD p.classes lr m.params = true then m.type else tNo | none => tNo := rfl
 rw [hcd]
 have hpar : ∀ x d, methodF p.classes nm (refChainF 0 p.classes l0) = some (x, d) → x.params.length ≤ 1048576 := by
  intro x d hx
  have hm := methodRF (cs := p.classes) l0 nm
  rw [hx] at hm
  cases hr : methodR 0 p.classes l0 nm with
  | none => rw [hr] at hm; cases hm
  | some y =>
    obtain ⟨y, d'⟩ := y
    rw [hr] at hm
    simp only [Option.map_some, Option.some.injEq] at hm
    subst hm
    obtain ⟨c, hc, hmc⟩ := methodR_mem hr
    exact (hS c hc).2.2 y hmc
 generalize methodF p.classes nm (refChainF 0 p.classes l0) = r at hme hpar
 have h0 : (l0 :: lr).map cStr = [C.str l0] :: lr.map cStr := rfl
 rw [h0]
 refine (ok_pure tab_ok Tryz.func105 (by kernel_rfl) rfl rfl (by rfl) (by rfl) (by rfl) (fun R hkeep => ?_) m)
 repeat (first | refine W.seq ?_ | refine W.block ?_ | refine W.skip ?_ | refine W.exit ?_ | refine W.g ?_ zy31q32)
 refine W.regionDK tab_ok 0 follows_mixed (by kernel_rfl) (by decide) ?_
 match r, hpar with
 | none, _ =>
   refine runk_split 5 zy31q32 ?_
   refine runk_call rfl rfl rfl rfl rfl (by simp) cw3 (hme _) ?_
   refine runk_exec zy31q11 ?_
   refine W.go ?_
   refine W.cond rfl (fun _ => ?_) (fun h => by cases h)
   refine W.go ?_
   exact W.ret ⟨.inr rfl, by rfl, (by simp only [Tryz.f105, resA, resOne, toT, fin, exb, Nat.reduceAdd, Nat.reduceLeDiff, Nat.reduceEqDiff, Nat.reduceMul, Int.reduceToNat, reduceIte, Int.reduceLE, Int.reduceNeg])⟩
 | some (⟨mty, mnm, mps, mbd⟩, d), hpar =>
   have hp := hpar _ _ rfl
   have hwl : IntKind.i64.wrap (lr.length : Int) = lr.length := wrap_nat (by omega)
   dsimp only at hp ⊢
   refine runk_split 5 zy31q32 ?_
   refine runk_call rfl rfl rfl rfl rfl (by simp) cw3 (hme _) ?_
   refine runk_exec zy31q16 ?_
   repeat (first | refine W.seq ?_ | refine W.block ?_ | refine W.skip ?_ | refine W.exit ?_ | refine W.g ?_ (by simp only [exb, Nat.reduceAdd, Nat.reduceLeDiff, Nat.reduceEqDiff, Nat.reduceMul, Int.reduceToNat, reduceIte, Int.reduceLE, Int.reduceNeg, List.length_cons, int_pred, hwl]; rfl))
   refine W.cond rfl ?_ ?_
   ·intro h
    have hne : lr.length ≠ mps.length := by
     intro e; rw [e] at h; simp at h
    refine W.go ?_
    refine W.ret ⟨.inr rfl, by rfl, ?_⟩
    simp only [Tryz.f105, resA, resOne, toT, fin, exb, Nat.reduceAdd, Nat.reduceLeDiff, Nat.reduceEqDiff, Nat.reduceMul, Int.reduceToNat, reduceIte, Int.reduceLE, Int.reduceNeg]
    rw [show eqFitD p.classes lr mps = false from zipAll_len hne]; rfl
   intro h
   have he : lr.length = mps.length := by
    simp at h; omega
   refine W.go ?_
   refine W.loop (ι := Nat) (fun k => ⟨upd (upd (upd (upd (upd (upd (fun _ => .top) 2 (.c (.sl ([C.str l0] :: lr.map cStr)))) 3 (.ptr 3 0)) 7 (.ptr 7 0)) 34 (.c (.sl (mps.map cSlot)))) 35 (.c (.int .i64 mps.length))) 36 (.c (.int .i64 k)),
    upd (upd Mem.nil 3 (some (.box 25 [.c (.sl (p.classes.map cClass)), .c (.sl (cStmts p.main))]))) 7 (some (.box 49 [.c (.str mty), .c (.str mnm), .c (.sl (mps.map cSlot)), .c (.sl (cStmts mbd))]))⟩)
    (fun k => k ≤ mps.length ∧ eqFitD p.classes (lr.take k) (mps.take k) = true) (fun k => mps.length - k) 0 ?start ⟨Nat.zero_le _, rfl⟩ ?round
   case start =>
    exact le_D (kept_not hkeep)
   case round =>
    rintro k ⟨hk, hall⟩
    refine W.go ?_
    refine W.cond rfl ?_ ?_
    ·intro hlt
     simp only [decide_eq_true_eq, Int.ofNat_lt] at hlt
     obtain ⟨x, hx⟩ : ∃ x, mps[k]? = some x := ⟨_, List.getElem?_eq_getElem hlt⟩
     obtain ⟨t, ht⟩ : ∃ t, lr[k]? = some t := ⟨_, List.getElem?_eq_getElem (by omega)⟩
     have hat : (lr.map cStr)[k]? = some [C.str t] := at_map (f := cStr) ht
     have hfi := fun m => refFits_ok p 0 t x.type (by omega) hchk m
     have hz : eqFitD p.classes (lr.take (k + 1)) (mps.take (k + 1)) = fitD 0 p.classes t x.type := zipAll_take (p := fun t s => fitD 0 p.classes t s.type) he ht hx hall
     generalize fitD 0 p.classes t x.type = F at hfi hz
     repeat (first | refine W.seq ?_ | refine W.block ?_ | refine W.skip ?_ | refine W.exit ?_ | refine W.g ?_ zy31q15)
     refine W.regionDK tab_ok 0 follows_mixed (by kernel_rfl) (by decide) ?_
     refine runk_split 8 (by simp only [exb, Nat.reduceAdd, Nat.reduceLeDiff, Nat.reduceEqDiff, Nat.reduceMul, Int.reduceToNat, reduceIte, Int.reduceLE, Int.reduceNeg, hcp, wrap_succ (show k + 1 < 9223372036854775808 by omega), hat]; rfl) ?_
     refine runk_call rfl rfl rfl rfl rfl (by simp) cw3 (hfi _) ?_
     refine xe0 ?_
     refine W.cond rfl ?_ ?_
     ·intro h
      obtain rfl : F = false := by simpa using h
      refine W.go ?_
      refine W.ret ⟨.inr rfl, by rfl, ?_⟩
      simp only [Tryz.f105, resA, resOne, toT, fin, exb, Nat.reduceAdd, Nat.reduceLeDiff, Nat.reduceEqDiff, Nat.reduceMul, Int.reduceToNat, reduceIte, Int.reduceLE, Int.reduceNeg]
      rw [show eqFitD p.classes lr mps = false from zipAll_no he hz]; rfl
     ·intro h
      obtain rfl : F = true := by simpa using h
      refine W.go ?_
      refine ⟨k + 1, ⟨hlt, hz⟩, by omega, ?_⟩
      exact le_Sk (kept_not hkeep)
    ·intro hge
     simp only [decide_eq_false_iff_not, Int.ofNat_lt] at hge
     obtain rfl : k = mps.length := by omega
     have e1 : lr.take mps.length = lr := by rw [← he, List.take_length]
     rw [List.take_length, e1] at hall
     refine W.go ?_
     refine W.ret ⟨.inr rfl, by rfl, ?_⟩
     simp only [Tryz.f105, resA, resOne, toT, fin, exb, Nat.reduceAdd, Nat.reduceLeDiff, Nat.reduceEqDiff, Nat.reduceMul, Int.reduceToNat, reduceIte, Int.reduceLE, Int.reduceNeg]
     rw [hall]; rfl
set_option maxHeartbeats 8000000 in
theorem refTyp_ok (inn : ByteArray) (env : List Slot) (henv : env.length ≤ 1000000000) : ∀ (n : Nat) (x : Expr), SizeOf.sizeOf x ≤ n → MayE x → KidsE x → ∀ m, COk Tryz.prog 82 [.agg (cProg p), .c (.str inn), .c (.sl (env.map cSlot)), .agg (cExpr x)] m (.c (.str (typD p.classes inn env x))) := by
 have hcp : cProg p = [.sl (p.classes.map cClass), .sl (cStmts p.main)] := rfl
 intro n
 induction n using Nat.strongRecOn with
 | ind n ih =>
 rintro ⟨k, nn, nm, kids⟩ hn hY hK m
 have hsz := Expr.mk.sizeOf_spec k nn nm kids
 simp only [MayE] at hY
 obtain ⟨hk, h1, h10, h2, hy⟩ := hY
 simp only [KidsE] at hK
 obtain ⟨-, -, -, hkl, kk⟩ := hK
 have hlf := refLeaf_ok p hlen inn env henv k nn nm kids
 simp only [cExpr, cExprs_map] at hlf
 simp only [cExpr, cExprs_map]
 refine (ok_pure tab_ok Tryz.func82 (by kernel_rfl) rfl rfl (by rfl) (by rfl) (by rfl) (fun R hkeep => ?_) m)
 repeat (first | refine W.seq ?_ | refine W.block ?_ | refine W.skip ?_ | refine W.exit ?_ | refine W.g ?_ zy31q32)
 refine W.newArr 9 9 9 1 rfl rfl ?_
 refine W.loop (ι := List ByteArray) (fun ts => ⟨upd (upd (upd (upd (upd (upd (upd (upd (fun _ => .top) 1 (.c (.str inn))) 2 (.c (.sl (env.map cSlot)))) 4 (.ptr 4 0)) 7 (.ptr 7 0)) 9 (.own 9)) 14 (.c (.sl (kids.map cExpr)))) 15 (.c (.int .i64 kids.length))) 16 (.c (.int .i64 ts.length)),
  upd (upd (upd Mem.nil 4 (some (.box 25 [.c (.sl (p.classes.map cClass)), .c (.sl (cStmts p.main))]))) 7 (some (.box 30 [.c (.int .i64 k), .c (.int .i64 nn), .c (.str nm), .c (.sl (kids.map cExpr))]))) 9 (some (.arr 9 1 (ts.map cStr)))⟩)
  (fun ts => ts.length ≤ kids.length ∧ typsD p.classes inn env (kids.take ts.length) = some ts) (fun ts => kids.length - ts.length) [] ?start ⟨Nat.zero_le _, by simp [typsD]⟩ ?round
 case start =>
  exact le_D (kept_not hkeep)
 case round =>
  rintro ts ⟨hkt, hall⟩
  refine W.go ?_
  refine W.cond rfl ?_ ?_
  ·intro hlt
   simp only [decide_eq_true_eq, Int.ofNat_lt] at hlt
   obtain ⟨x, hx⟩ : ∃ x, kids[ts.length]? = some x := ⟨_, List.getElem?_eq_getElem hlt⟩
   have hxm := List.mem_of_getElem? hx
   have hxs := List.sizeOf_lt_of_mem hxm
   have hT := ih (SizeOf.sizeOf x) (by omega) x (Nat.le_refl _) (hy.mem hxm) (kk.mem hxm)
   have htk : kids.take (ts.length + 1) = kids.take ts.length ++ [x] := by rw [List.take_add_one, hx]; rfl
   have happ := typsD_snoc p.classes inn env (kids.take ts.length) x hall
   rw [← htk] at happ
   have hat := at_map (f := cExpr) hx
   obtain ⟨xk, xn, xm, xks⟩ := x
   simp only [cExpr, cExprs_map] at hT hat
   generalize typD p.classes inn env ⟨xk, xn, xm, xks⟩ = t at hT happ
   repeat (first | refine W.seq ?_ | refine W.block ?_ | refine W.skip ?_ | refine W.exit ?_ | refine W.g ?_ zy31q33)
   refine W.regionK tab_ok 0 (by decide) ?_
   refine runk_split 4 zy31q32 ?_
   refine runk_call rfl rfl rfl rfl rfl (by simp) cw4 (hT _) ?_
   refine xe0 ?_
   refine W.go ?_
   refine W.cond rfl ?_ ?_
   ·intro h
    have h : (t.toList == []) = true := h
    rw [if_pos (show isT t tNo = true by unfold isT; rw [empty_toList]; exact h)] at happ
    have hno : typD p.classes inn env ⟨k, nn, nm, kids⟩ = tNo := by
     have := typsD_none p.classes inn env (kids.take (ts.length + 1)) (kids.drop (ts.length + 1)) happ
     rw [List.take_append_drop] at this
     rw [typD, this]
    rw [hno]
    refine W.go ?_
    exact W.ret ⟨.inr rfl, by rfl, zy31q12⟩
   ·intro h
    have h : (t.toList == []) = false := h
    rw [if_neg (show ¬ isT t tNo = true by unfold isT; rw [empty_toList, h]; decide)] at happ
    refine W.go ?_
    refine W.regionK tab_ok 0 (by decide) ?_
    refine xs0 3 ?_
    refine runk_append tab_ok 9 rfl rfl rfl rfl rfl rfl rfl rfl zy31q20 rfl rfl rfl rfl (nokeep hkeep) (by simp [cStr]) zy31q44 (by decide) ?_
    refine xe0 ?_
    refine W.go ?_
    refine ⟨ts ++ [t], ⟨by simp only [List.length_append, List.length_singleton]; omega, by rw [List.length_append, List.length_singleton, happ]⟩, by simp only [List.length_append, List.length_singleton]; omega, ?_⟩
    refine le_L ?sle ?mle (kept_not hkeep)
    case mle => repeat (first | exact mle_nil _ | exact mle_refl _ | refine mle_upd ?_ zy31q4)
    case sle => repeat (first | exact sle_top _ | exact sle_refl _ | refine sle_upd ?_ zy31q2)
  ·intro hge
   simp only [decide_eq_false_iff_not, Int.ofNat_lt] at hge
   have htl : ts.length = kids.length := by omega
   rw [htl, List.take_length] at hall
   have hty : typD p.classes inn env ⟨k, nn, nm, kids⟩ = typKD p.classes inn env k nm ts := by rw [typD, hall]
   rw [hty]
   rw [← htl] at h1 h10 h2
   refine W.go ?_
   refine W.cond rfl ?_ ?_
   ·skip
    intro h
    obtain rfl : k = 6 := by simpa using h
    obtain ⟨a, rfl⟩ := one_of (h1 (by omega))
    repeat (first | refine W.seq ?_ | refine W.block ?_ | refine W.skip ?_ | refine W.exit ?_ | refine W.g ?_ zy31q29)
    refine W.cond rfl ?_ ?_
    ·intro h
     have h : (a.toList == tInt.toList) = true := h
     refine W.go ?_
     refine W.ret ⟨.inr rfl, by rfl, ?_⟩
     simp only [Tryz.f82, resA, resOne, toT, fin, exb, Nat.reduceAdd, Nat.reduceLeDiff, Nat.reduceEqDiff, Nat.reduceMul, Int.reduceToNat, reduceIte, Int.reduceLE, Int.reduceNeg]
     rw [show typKD p.classes inn env 6 nm [a] = tInts from if_pos h]
    ·intro h
     have h : (a.toList == tInt.toList) = false := h
     refine W.go ?_
     refine W.ret ⟨.inr rfl, by rfl, ?_⟩
     simp only [Tryz.f82, resA, resOne, toT, fin, exb, Nat.reduceAdd, Nat.reduceLeDiff, Nat.reduceEqDiff, Nat.reduceMul, Int.reduceToNat, reduceIte, Int.reduceLE, Int.reduceNeg]
     rw [show typKD p.classes inn env 6 nm [a] = tNo from if_neg (show ¬ isT a tInt = true by unfold isT; rw [h]; decide)]
   intro h
   have n6 : ¬ k = 6 := by simpa using h
   refine W.go ?_
   refine W.cond rfl ?_ ?_
   ·skip
    intro h
    obtain rfl : k = 7 := by simpa using h
    obtain ⟨a, rfl⟩ := one_of (h1 (by omega))
    have hL : (refChainF 0 p.classes a).length ≤ 17 := by
     unfold refChainF
     rw [if_pos rfl]
     have := chainF_len p.classes (p.classes.length + 1) a; omega
    have hF := fieldsF_len hS (refChainF 0 p.classes a)
    have hF2 : (fieldsF p.classes (refChainF 0 p.classes a)).length ≤ 1000000000 := by
     have := Nat.mul_le_mul_right 1048576 hL
     omega
    refine W.bl ?_
    refine W.regionDK tab_ok 0 follows_mixed (by kernel_rfl) (by decide) ?_
    refine runk_split 4 zy31q25 ?_
    refine runk_call rfl rfl rfl rfl rfl (by simp) cw2 (refFields_ok p hlen hchk hS a _) ?_
    refine xs0 2 ?_
    refine runk_call rfl rfl rfl rfl rfl (by simp) cw2 (refVar_ok _ nm hF2 _) ?_
    refine xe0 ?_
    refine W.go ?_
    exact W.ret ⟨.inr rfl, by rfl, zy31q9⟩
   intro h
   have n7 : ¬ k = 7 := by simpa using h
   refine W.go ?_
   refine W.cond rfl ?_ ?_
   ·skip
    intro h
    obtain rfl : k = 8 := by simpa using h
    obtain ⟨a, b, rfl⟩ := two_of (h2 (by omega))
    have e1 : typKD p.classes inn env 8 nm [a, b] = if (isT a tInts && isT b tInt) = true then tInt else tNo := rfl
    rw [e1]
    unfold isT
    cases ha : (a.toList == tInts.toList) with
    | false =>
      repeat (first | refine W.seq ?_ | refine W.block ?_ | refine W.skip ?_ | refine W.exit ?_ | refine W.g ?_ (by simp only [exb, Nat.reduceAdd, Nat.reduceLeDiff, Nat.reduceEqDiff, Nat.reduceMul, Int.reduceToNat, reduceIte, Int.reduceLE, Int.reduceNeg, cStr, ha]; rfl))
      refine W.cond rfl (fun h => by cases h) (fun _ => ?_)
      refine W.go ?_
      exact W.ret ⟨.inr rfl, by rfl, zy31q9⟩
    | true =>
      cases hb : (b.toList == tInt.toList) with
      | false =>
        repeat (first | refine W.seq ?_ | refine W.block ?_ | refine W.skip ?_ | refine W.exit ?_ | refine W.g ?_ zy31q23)
        refine W.cond rfl (fun h => by cases h) (fun _ => ?_)
        refine W.go ?_
        exact W.ret ⟨.inr rfl, by rfl, zy31q9⟩
      | true =>
        repeat (first | refine W.seq ?_ | refine W.block ?_ | refine W.skip ?_ | refine W.exit ?_ | refine W.g ?_ zy31q23)
        refine W.cond rfl (fun _ => ?_) (fun h => by cases h)
        refine W.go ?_
        exact W.ret ⟨.inr rfl, by rfl, zy31q9⟩
   intro h
   have n8 : ¬ k = 8 := by simpa using h
   refine W.go ?_
   refine W.cond rfl ?_ ?_
   ·skip
    intro h
    obtain rfl : k = 9 := by simpa using h
    refine W.bl ?_
    refine W.regionK tab_ok 0 (by decide) ?_
    refine xs0 1 ?_
    refine runk_call rfl rfl rfl rfl rfl (by simp) (cvs_cons (cv_own rfl) cw1) (refAll_ok ts _ (by omega) _) ?_
    refine xe0 ?_
    refine W.go ?_
    exact W.ret ⟨.inr rfl, by rfl, zy31q9⟩
   intro h
   have n9 : ¬ k = 9 := by simpa using h
   refine W.go ?_
   refine W.cond rfl ?_ ?_
   ·skip
    intro h
    obtain rfl : k = 10 := by simpa using h
    obtain ⟨l0, lr, rfl⟩ : ∃ l0 lr, ts = l0 :: lr := by
     have hl1 := h10 rfl
     match ts, hl1 with
     | l0 :: lr, _ => exact ⟨l0, lr, rfl⟩
    have hcall := refCall_ok p hlen hS hchk nm l0 lr (by simp only [List.length_cons] at htl; omega)
    refine W.bl ?_
    refine W.regionK tab_ok 0 (by decide) ?_
    refine runk_split 4 zy31q32 ?_
    refine runk_call rfl rfl rfl rfl rfl (by simp) (cvs_cons cv_refl (cvs_cons cv_refl (cvs_cons (cv_own rfl) cvs_nil))) (hcall _) ?_
    refine xe0 ?_
    refine W.go ?_
    exact W.ret ⟨.inr rfl, by rfl, zy31q9⟩
   intro h
   have n10 : ¬ k = 10 := by simpa using h
   refine W.go ?_
   refine W.cond rfl ?_ ?_
   ·skip
    intro h
    obtain rfl : k = 12 := by simpa using h
    refine W.go ?_
    refine W.cond rfl (fun _ => ?_) (fun h => by cases h)
    refine W.bl ?_
    refine W.regionK tab_ok 0 (by decide) ?_
    refine xs0 1 ?_
    refine runk_call rfl rfl rfl rfl rfl (by simp) (cvs_cons (cv_own rfl) cw1) (refAll_ok ts _ (by omega) _) ?_
    refine xe0 ?_
    refine W.go ?_
    exact W.ret ⟨.inr rfl, by rfl, zy31q9⟩
   intro h
   have n12 : ¬ k = 12 := by simpa using h
   refine W.go ?_
   refine W.cond rfl ?_ ?_
   ·skip
    intro h
    obtain rfl : k = 13 := by simpa using h
    refine W.go ?_
    refine W.cond rfl (fun _ => ?_) (fun h => by cases h)
    refine W.bl ?_
    refine W.regionK tab_ok 0 (by decide) ?_
    refine xs0 1 ?_
    refine runk_call rfl rfl rfl rfl rfl (by simp) (cvs_cons (cv_own rfl) cw1) (refAll_ok ts _ (by omega) _) ?_
    refine xe0 ?_
    refine W.go ?_
    exact W.ret ⟨.inr rfl, by rfl, zy31q9⟩
   intro h
   have n13 : ¬ k = 13 := by simpa using h
   refine W.go ?_
   refine W.cond rfl ?_ ?_
   ·skip
    intro h
    obtain rfl : k = 14 := by simpa using h
    refine W.go ?_
    refine W.cond rfl (fun _ => ?_) (fun h => by cases h)
    refine W.bl ?_
    refine W.regionK tab_ok 0 (by decide) ?_
    refine xs0 1 ?_
    refine runk_call rfl rfl rfl rfl rfl (by simp) (cvs_cons (cv_own rfl) cw1) (refAll_ok ts _ (by omega) _) ?_
    refine xe0 ?_
    refine W.go ?_
    exact W.ret ⟨.inr rfl, by rfl, zy31q9⟩
   intro h
   have n14 : ¬ k = 14 := by simpa using h
   refine W.go ?_
   refine W.cond rfl ?_ ?_
   ·skip
    intro h
    obtain rfl : k = 15 := by simpa using h
    refine W.go ?_
    refine W.cond rfl (fun _ => ?_) (fun h => by cases h)
    refine W.bl ?_
    refine W.regionK tab_ok 0 (by decide) ?_
    refine xs0 1 ?_
    refine runk_call rfl rfl rfl rfl rfl (by simp) (cvs_cons (cv_own rfl) cw1) (refAll_ok ts _ (by omega) _) ?_
    refine xe0 ?_
    refine W.go ?_
    exact W.ret ⟨.inr rfl, by rfl, zy31q9⟩
   intro h
   have n15 : ¬ k = 15 := by simpa using h
   refine W.go ?_
   refine W.cond rfl ?_ ?_
   ·skip
    intro h
    obtain rfl : k = 16 := by simpa using h
    refine W.go ?_
    refine W.cond rfl (fun _ => ?_) (fun h => by cases h)
    refine W.bl ?_
    refine W.regionK tab_ok 0 (by decide) ?_
    refine xs0 1 ?_
    refine runk_call rfl rfl rfl rfl rfl (by simp) (cvs_cons (cv_own rfl) cw1) (refAll_ok ts _ (by omega) _) ?_
    refine xe0 ?_
    refine W.go ?_
    exact W.ret ⟨.inr rfl, by rfl, zy31q9⟩
   intro h
   have n16 : ¬ k = 16 := by simpa using h
   refine W.go ?_
   refine W.cond rfl ?_ ?_
   ·skip
    intro h
    obtain rfl : k = 17 := by simpa using h
    refine W.bl ?_
    refine W.regionK tab_ok 0 (by decide) ?_
    refine xs0 1 ?_
    refine runk_call rfl rfl rfl rfl rfl (by simp) (cvs_cons (cv_own rfl) cw1) (refAll_ok ts _ (by omega) _) ?_
    refine xe0 ?_
    refine W.go ?_
    exact W.ret ⟨.inr rfl, by rfl, zy31q9⟩
   intro h
   have n17 : ¬ k = 17 := by simpa using h
   refine W.go ?_
   refine W.cond rfl ?_ ?_
   ·skip
    intro h
    obtain rfl : k = 18 := by simpa using h
    obtain ⟨a, b, rfl⟩ := two_of (h2 (by omega))
    refine W.bl ?_
    refine W.regionDK tab_ok 0 follows_mixed (by kernel_rfl) (by decide) ?_
    refine runk_split 7 zy31q25 ?_
    refine runk_call rfl rfl rfl rfl rfl (by simp) cw3 (refSame_ok p hlen hchk a b _) ?_
    refine xe0 ?_
    refine W.go ?_
    exact W.ret ⟨.inr rfl, by rfl, zy31q9⟩
   ·intro h
    have n18 : ¬ k = 18 := by simpa using h
    have hkd : typKD p.classes inn env k nm ts = leafD p.classes inn env k nm := by simp [typKD, n6, n7, n8, n9, n10, n12, n13, n14, n15, n16, n17, n18]
    rw [hkd]
    refine W.bl ?_
    refine W.regionK tab_ok 0 (by decide) ?_
    refine runk_split 4 zy31q32 ?_
    refine runk_call rfl rfl rfl rfl rfl (by simp) cw4 (hlf _) ?_
    refine xe0 ?_
    refine W.go ?_
    exact W.ret ⟨.inr rfl, by rfl, zy31q12⟩
end
end V
end Go.Proofs.YthhpcjoaogmhbaaGreat
end
section
namespace Go.Proofs.YthhpcjoaogmhbaaGreat
namespace V
open Go.RowKit
section
variable {P : Go.Program} {T : Tab} {kp : Nat → Prop} {base : Nat} {ops : Array Oper} {K : St → Prop}
theorem step_callP {f' i : Nat} {listed : Array Bool} {st : St} {rl : List Nat} {o : Oper} (ho : ops[i]? = some o) {r : A} {c : Call} {x : Operand} {f : FuncId} {ids : List Nat} {args : List A} {d : Nat} (hd : o.dst = some d) (h : wantA ops o st.s = some true) (hop : o.op = .call c) (hc : c.callee = .value x) (hx : ev st.s x = .fn f ids) (hb : ∀ j ∈ ids, ∃ ty cells, st.m j = some (.box ty cells))
 (ha : Cvs st.m (c.args.toList.map (ev st.s) ++ ids.map (A.ptr · 0)) args) (hk : COk P f args st.m r) (hr : RunsW P T kp base ops K f' (listed.setIfInBounds i true) ⟨upd st.s d r, st.m⟩) (tl : Steps P T kp base ops K f' listed st rl) : Steps P T kp base ops K f' listed st (i :: rl) :=
 ⟨⟨o, ⟨upd st.s d r, st.m⟩, ho, by
   have := HS.val (P := P) (T := T) (base := base) (ops := ops) (o := o) (kp := kp) (HV.call h hop hc hx hb ha hk)
   rw [hd] at this
   exact this, hr⟩, tl⟩
end
theorem decSs_append : ∀ a b : List Stmt, decSs (a ++ b) = decSs a ++ decSs b
 | [], b => by simp [decSs]
 | x :: a, b => by simp [decSs, decSs_append a b]
theorem declared_ok : ∀ (n : Nat) (l : List Stmt), SizeOf.sizeOf l ≤ n → l.length ≤ 1048576 → SmallSs 1048576 l → (decSs l).length ≤ 1000000000 → ∀ m, COk Tryz.prog 53 [.c (.sl (l.map cStmt))] m (.c (.sl ((decSs l).map cSlot))) := by
 intro n
 induction n using Nat.strongRecOn with
 | ind n ih =>
 intro l hn hl hS hd m
 refine (ok_pure tab_ok Tryz.func53 (by kernel_rfl) rfl rfl (by rfl) (by rfl) (by rfl) (fun R hkeep => ?_) m)
 refine W.go ?_
 refine W.newArr 3 3 45 2 rfl rfl ?_
 refine W.loop (ι := Nat) (fun k => ⟨upd (upd (upd (upd (fun _ => .top) 3 (.own 3)) 6 (.c (.sl (l.map cStmt)))) 7 (.c (.int .i64 l.length))) 8 (.c (.int .i64 k)), upd Mem.nil 3 (some (.arr 45 2 ((decSs (l.take k)).map cSlot)))⟩)
  (fun k => k ≤ l.length) (fun k => l.length - k) 0 ?start (Nat.zero_le _) ?round
 case start =>
  refine le_L ?sle ?mle (kept_not hkeep)
  case mle => repeat (first | exact mle_nil _ | exact mle_refl _ | refine mle_upd ?_ (by first | rfl | (simp only [upd_app, killM_app, Nat.reduceEqDiff, reduceIte, List.take_zero, decSs, List.map_nil]; done)))
  case sle => repeat (first | exact sle_top _ | exact sle_refl _ | refine sle_upd ?_ (by first | rfl | (simp only [upd_app, entry_zero, entry_succ, Nat.reduceEqDiff, reduceIte, List.take_zero, decSs, List.map_nil]; done)))
 case round =>
  intro k hk
  refine W.go ?_
  refine W.cond rfl ?_ ?_
  ·intro hlt
   simp only [decide_eq_true_eq, Int.ofNat_lt] at hlt
   obtain ⟨x, hx⟩ : ∃ x, l[k]? = some x := ⟨_, List.getElem?_eq_getElem hlt⟩
   have hxm := List.mem_of_getElem? hx
   have hxs := List.sizeOf_lt_of_mem hxm
   have hSx := hS.mem hxm
   have hat := at_map (f := cStmt) hx
   have htk : decSs (l.take (k + 1)) = decSs (l.take k) ++ decS x := by rw [List.take_add_one, hx, decSs_append]; simp [decSs]
   have hle : (decSs (l.take (k + 1))).length ≤ (decSs l).length := by
    have := congrArg List.length (decSs_append (l.take (k + 1)) (l.drop (k + 1)))
    rw [List.take_append_drop, List.length_append] at this; omega
   obtain ⟨sk, sn, ty, nm, es, th, el⟩ := x
   simp only [SmallS] at hSx
   obtain ⟨-, -, q1, q2, q3, q4⟩ := hSx
   have hspec := Stmt.mk.sizeOf_spec sk sn ty nm es th el
   simp only [cStmt, cStmts_map, cExprs_map] at hat
   simp only [decS] at htk
   have hl3 := congrArg List.length htk
   simp only [List.length_append] at hl3
   have hTh := ih (SizeOf.sizeOf th) (by omega) th (Nat.le_refl _) q1 q2 (by omega)
   have hEl := ih (SizeOf.sizeOf el) (by omega) el (Nat.le_refl _) q3 q4 (by omega)
   repeat (first | refine W.seq ?_ | refine W.block ?_ | refine W.skip ?_ | refine W.exit ?_ | refine W.g ?_ zy31q33)
   refine W.cond rfl ?_ ?_
   ·intro h
    obtain rfl : sk = 1 := by simpa using h
    rw [if_pos rfl] at htk hl3
    simp only [List.length_cons, List.length_nil] at hl3
    refine W.bl ?_
    refine W.regionK tab_ok 0 (by decide) ?_
    refine xs0 7 ?_
    refine runk_append tab_ok 3 rfl rfl rfl rfl rfl rfl rfl rfl zy31q20 rfl rfl rfl rfl (nokeep hkeep) (by simp) zy31q44 (by decide) ?_
    refine xe0 ?_
    refine W.bl ?_
    refine W.regionK tab_ok 0 (by decide) ?_
    refine xs0 3 ?_
    refine runk_call rfl rfl rfl rfl rfl (by simp) cw1 (hTh _) ?_
    refine xs0 0 ?_
    refine runk_append tab_ok 3 rfl rfl rfl rfl rfl rfl rfl rfl zy31q20 rfl rfl rfl rfl (nokeep hkeep) (by simp [cSlot]) zy31q41 (by decide) ?_
    refine xe0 ?_
    refine W.bl ?_
    refine W.regionK tab_ok 0 (by decide) ?_
    refine xs0 3 ?_
    refine runk_call rfl rfl rfl rfl rfl (by simp) cw1 (hEl _) ?_
    refine xs0 0 ?_
    refine runk_append tab_ok 3 rfl rfl rfl rfl rfl rfl rfl rfl zy31q20 rfl rfl rfl rfl (nokeep hkeep) (by simp [cSlot]) zy31q41 (by decide) ?_
    refine xe0 ?_
    refine W.go ?_
    refine ⟨k + 1, hlt, by omega, ?_⟩
    rw [htk]
    refine le_L ?sle ?mle (kept_not hkeep)
    case mle => repeat (first | exact mle_nil _ | exact mle_refl _ | refine mle_upd ?_ zy31q3)
    case sle => repeat (first | exact sle_top _ | exact sle_refl _ | refine sle_upd ?_ zy31q1)
   ·intro h
    have n1 : ¬ sk = 1 := by simpa using h
    rw [if_neg n1] at htk hl3
    simp only [List.length_nil] at hl3
    refine W.bl ?_
    refine W.regionK tab_ok 0 (by decide) ?_
    refine xs0 3 ?_
    refine runk_call rfl rfl rfl rfl rfl (by simp) cw1 (hTh _) ?_
    refine xs0 0 ?_
    refine runk_append tab_ok 3 rfl rfl rfl rfl rfl rfl rfl rfl zy31q20 rfl rfl rfl rfl (nokeep hkeep) (by simp [cSlot]) zy31q41 (by decide) ?_
    refine xe0 ?_
    refine W.bl ?_
    refine W.regionK tab_ok 0 (by decide) ?_
    refine xs0 3 ?_
    refine runk_call rfl rfl rfl rfl rfl (by simp) cw1 (hEl _) ?_
    refine xs0 0 ?_
    refine runk_append tab_ok 3 rfl rfl rfl rfl rfl rfl rfl rfl zy31q20 rfl rfl rfl rfl (nokeep hkeep) (by simp [cSlot]) zy31q41 (by decide) ?_
    refine xe0 ?_
    refine W.go ?_
    refine ⟨k + 1, hlt, by omega, ?_⟩
    rw [htk]
    refine le_L ?sle ?mle (kept_not hkeep)
    case mle => repeat (first | exact mle_nil _ | exact mle_refl _ | refine mle_upd ?_ zy31q3)
    case sle => repeat (first | exact sle_top _ | exact sle_refl _ | refine sle_upd ?_ zy31q1)
  ·intro hge
   simp only [decide_eq_false_iff_not, Int.ofNat_lt] at hge
   obtain rfl : k = l.length := by omega
   rw [List.take_length]
   refine W.go ?_
   exact W.ret ⟨.inr rfl, by rfl, (by simp only [Tryz.f53, resA, resOne, toT, fin, exb, Nat.reduceAdd, Nat.reduceLeDiff, Nat.reduceEqDiff, Nat.reduceMul, Int.reduceToNat, reduceIte, Int.reduceLE, Int.reduceNeg])⟩
theorem Declared_ok (x : Method) (hb : x.body.length ≤ 1048576) (hS : SmallSs 1048576 x.body) (hl : x.params.length + (decSs x.body).length ≤ 1000000000) (m : Mem) : COk Tryz.prog 29 [.agg (cMethod x)] m (.c (.sl ((x.params ++ decSs x.body).map cSlot))) := by
 have hde := declared_ok _ x.body (Nat.le_refl _) hb hS (by omega)
 obtain ⟨mty, mnm, ps, bd⟩ := x
 dsimp only at hde hl ⊢
 rw [← cStmts_map] at hde
 refine (ok_pure tab_ok Tryz.func29 (by kernel_rfl) rfl rfl (by rfl) (by rfl) (by rfl) (fun R hkeep => ?_) m)
 repeat (first | refine W.seq ?_ | refine W.block ?_ | refine W.skip ?_ | refine W.exit ?_ | refine W.g ?_ (by simp only [exb, Nat.reduceAdd, Nat.reduceLeDiff, Nat.reduceEqDiff, Nat.reduceMul, Int.reduceToNat, reduceIte, Int.reduceLE, Int.reduceNeg, cMethod]; rfl))
 refine W.regionX tab_ok follows_mixed ⟨upd (fun _ => .top) 2 (.own 2), upd Mem.nil 2 (some (.arr 45 2 ((ps ++ decSs bd).map cSlot)))⟩ ?_ ?_
 ·skip
  refine rx_field (base := 0) tab_ok (by decide) (by decide +kernel) 0 rfl rfl zy31q37 rfl rfl (by decide +kernel) (by decide +kernel) ⟨_, zy31q35, ?_⟩
  refine rx_field (base := 0) tab_ok (by decide) (by decide +kernel) 3 rfl rfl zy31q37 rfl rfl (by decide +kernel) (by decide +kernel) ⟨_, zy31q35, ?_⟩
  refine rx_runs (base := 0) tab_ok (by decide) ?_
  refine first_exec 1 (by decide +kernel) ⟨_, zy31q35, ?_⟩
  refine runs_node [2, 4] (by decide +kernel) (by decide) ?_
  refine step_appendNil tab_ok rfl 2 true rfl rfl rfl rfl rfl rfl zy31q36 zy31q36 zy31q37 rfl rfl rfl rfl (by simp [cSlot]) zy31q45 (by decide) ?_ ?_
  ·skip
   refine first_exec 4 (by decide +kernel) ⟨_, zy31q35, ?_⟩
   refine runs_node [5] (by decide +kernel) (by decide) ?_
   refine step_callP rfl rfl rfl rfl rfl rfl (by simp) cw1 (hde _) ?_ trivial
   refine runs_node [6] (by decide +kernel) (by decide) ?_
   refine step_append tab_ok rfl 2 true rfl rfl rfl rfl rfl rfl zy31q28 zy31q30 zy31q30 rfl rfl rfl rfl (nokeep hkeep) (by simp [cSlot]) zy31q45 (by decide) ?_ ?_
   ·skip
    refine first_exec 7 (by decide +kernel) ⟨_, zy31q35, ?_⟩
    refine runsw_end (by decide +kernel) ?_
    refine le_L ?sle ?mle (kept_not hkeep)
    case mle => repeat (first | exact mle_nil _ | exact mle_refl _ | refine mle_upd ?_ zy31q39)
    case sle => repeat (first | exact sle_top _ | exact sle_refl _ | refine sle_upd ?_ zy31q38)
   ·trivial
  ·skip
   refine step_exec ⟨_, zy31q35, ?_⟩ trivial
   refine runs_node [2] (by decide +kernel) (by decide) ?_
   refine step_appendNil tab_ok rfl 2 true rfl rfl rfl rfl rfl rfl zy31q36 zy31q36 zy31q37 rfl rfl rfl rfl (by simp [cSlot]) zy31q45 (by decide) ?_ ?_
   ·skip
    refine runs_node [5] (by decide +kernel) (by decide) ?_
    refine step_callP rfl rfl rfl rfl rfl rfl (by simp) cw1 (hde _) ?_ trivial
    refine runs_node [6] (by decide +kernel) (by decide) ?_
    refine step_append tab_ok rfl 2 true rfl rfl rfl rfl rfl rfl zy31q28 zy31q30 zy31q30 rfl rfl rfl rfl (nokeep hkeep) (by simp [cSlot]) zy31q45 (by decide) ?_ ?_
    ·skip
     refine first_exec 7 (by decide +kernel) ⟨_, zy31q35, ?_⟩
     refine runsw_end (by decide +kernel) ?_
     refine le_L ?sle ?mle (kept_not hkeep)
     case mle => repeat (first | exact mle_nil _ | exact mle_refl _ | refine mle_upd ?_ zy31q39)
     case sle => repeat (first | exact sle_top _ | exact sle_refl _ | refine sle_upd ?_ zy31q38)
    ·trivial
   ·trivial
 ·intro st' hle
  refine W.weaken hle ?_
  clear hle st'
  refine W.go ?_
  exact W.ret ⟨.inr rfl, by rfl, (by simp only [Tryz.f29, resA, resOne, toT, fin, exb, Nat.reduceAdd, Nat.reduceLeDiff, Nat.reduceEqDiff, Nat.reduceMul, Int.reduceToNat, reduceIte, Int.reduceLE, Int.reduceNeg])⟩
end V
end Go.Proofs.YthhpcjoaogmhbaaGreat
end
section
namespace Go.Proofs.YthhpcjoaogmhbaaGreat
namespace V
open Go.RowKit
theorem blockTD_snoc (cs : List Class) (inn : ByteArray) (main : Bool) (ret : ByteArray) (env : List Slot) : ∀ (a b : List Stmt), blockTD cs inn main ret env (a ++ b) = (blockTD cs inn main ret env a && blockTD cs inn main ret (envK env a) b) := by
 intro a
 induction a generalizing env with
 | nil => intro b; simp [blockTD, envK]
 | cons y a ih => intro b; rw [List.cons_append, blockTD, blockTD, envK, ih, Bool.and_assoc]
section
variable (p : Program) (hlen : p.classes.length ≤ 16) (hS : SmallC p.classes) (hchk : ∀ m, COk Tryz.prog 11 [.agg (cProg p)] m (.c (.int .i64 0)))
include hlen hS hchk
set_option maxHeartbeats 4000000 in
theorem refRight_ok (inn : ByteArray) (mm : Method) (main : Bool) (env : List Slot) (henv : env.length ≤ 1000000000) (sk sn : Int) (ty nm : ByteArray) (es : List Expr) (th el : List Stmt) (s2 : sk = 2 → es.length = 2) (s3 : sk = 3 ∨ sk = 4 ∨ sk = 5 ∨ sk = 6 → 1 ≤ es.length) (hel : es.length ≤ 1048576) (hY : MayEs es) (hK : KidsEs es) (m : Mem) :
 COk Tryz.prog 54 [.agg (cProg p), .c (.str inn), .agg (cMethod mm), .c (.bool main), .c (.sl (env.map cSlot)), .agg (cStmt ⟨sk, sn, ty, nm, es, th, el⟩)] m (.c (.bool (rightD p.classes inn main mm.type env sk ty es))) := by
 have hcp : cProg p = [.sl (p.classes.map cClass), .sl (cStmts p.main)] := rfl
 obtain ⟨mty, mnm, mps, mbd⟩ := mm
 simp only [cStmt, cStmts_map, cExprs_map]
 refine (ok_pure tab_ok Tryz.func54 (by kernel_rfl) rfl rfl (by rfl) (by rfl) (by rfl) (fun R hkeep => ?_) m)
 repeat (first | refine W.seq ?_ | refine W.block ?_ | refine W.skip ?_ | refine W.exit ?_ | refine W.g ?_ (by simp only [exb, Nat.reduceAdd, Nat.reduceLeDiff, Nat.reduceEqDiff, Nat.reduceMul, Int.reduceToNat, reduceIte, Int.reduceLE, Int.reduceNeg, hcp, cMethod]; rfl))
 refine W.newArr 13 13 9 1 rfl rfl ?_
 refine W.loop (ι := List ByteArray) (fun ts => ⟨upd (upd (upd (upd (upd (upd (upd (upd (upd (upd (fun _ => .top) 1 (.c (.str inn))) 3 (.c (.bool main))) 4 (.c (.sl (env.map cSlot)))) 6 (.ptr 6 0)) 8 (.ptr 8 0)) 11 (.ptr 11 0)) 13 (.own 13)) 18 (.c (.sl (es.map cExpr)))) 19 (.c (.int .i64 es.length))) 20 (.c (.int .i64 ts.length)),
  upd (upd (upd (upd Mem.nil 6 (some (.box 25 [.c (.sl (p.classes.map cClass)), .c (.sl (cStmts p.main))]))) 8 (some (.box 49 [.c (.str mty), .c (.str mnm), .c (.sl (mps.map cSlot)), .c (.sl (cStmts mbd))]))) 11 (some (.box 32 [.c (.int .i64 sk), .c (.int .i64 sn), .c (.str ty), .c (.str nm), .c (.sl (es.map cExpr)), .c (.sl (th.map cStmt)), .c (.sl (el.map cStmt))]))) 13 (some (.arr 9 1 (ts.map cStr)))⟩)
  (fun ts => ts.length ≤ es.length ∧ typsD p.classes inn env (es.take ts.length) = some ts) (fun ts => es.length - ts.length) [] ?start ⟨Nat.zero_le _, by simp [typsD]⟩ ?round
 case start =>
  exact le_D (kept_not hkeep)
 case round =>
  rintro ts ⟨hkt, hall⟩
  refine W.go ?_
  refine W.cond rfl ?_ ?_
  ·intro hlt
   simp only [decide_eq_true_eq, Int.ofNat_lt] at hlt
   obtain ⟨x, hx⟩ : ∃ x, es[ts.length]? = some x := ⟨_, List.getElem?_eq_getElem hlt⟩
   have hxm := List.mem_of_getElem? hx
   have hT := refTyp_ok p hlen hS hchk inn env henv _ x (Nat.le_refl _) (hY.mem hxm) (hK.mem hxm)
   have htk : es.take (ts.length + 1) = es.take ts.length ++ [x] := by rw [List.take_add_one, hx]; rfl
   have happ := typsD_snoc p.classes inn env (es.take ts.length) x hall
   rw [← htk] at happ
   have hat := at_map (f := cExpr) hx
   obtain ⟨xk, xn, xm, xks⟩ := x
   simp only [cExpr, cExprs_map] at hT hat
   generalize typD p.classes inn env ⟨xk, xn, xm, xks⟩ = t at hT happ
   repeat (first | refine W.seq ?_ | refine W.block ?_ | refine W.skip ?_ | refine W.exit ?_ | refine W.g ?_ zy31q33)
   refine W.regionK tab_ok 0 (by decide) ?_
   refine runk_split 4 zy31q32 ?_
   refine runk_call rfl rfl rfl rfl rfl (by simp) cw4 (hT _) ?_
   refine xe0 ?_
   refine W.go ?_
   refine W.cond rfl ?_ ?_
   ·intro h
    have h : (t.toList == []) = true := h
    rw [if_pos (show isT t tNo = true by unfold isT; rw [empty_toList]; exact h)] at happ
    have hno : rightD p.classes inn main mty env sk ty es = false := by
     have := typsD_none p.classes inn env (es.take (ts.length + 1)) (es.drop (ts.length + 1)) happ
     rw [List.take_append_drop] at this
     unfold rightD; rw [this]
    rw [hno]
    refine W.go ?_
    exact W.ret ⟨.inr rfl, by rfl, (by simp only [Tryz.f54, resA, resOne, toT, fin, exb, Nat.reduceAdd, Nat.reduceLeDiff, Nat.reduceEqDiff, Nat.reduceMul, Int.reduceToNat, reduceIte, Int.reduceLE, Int.reduceNeg])⟩
   ·intro h
    have h : (t.toList == []) = false := h
    rw [if_neg (show ¬ isT t tNo = true by unfold isT; rw [empty_toList, h]; decide)] at happ
    refine W.go ?_
    refine W.regionK tab_ok 0 (by decide) ?_
    refine xs0 3 ?_
    refine runk_append tab_ok 13 rfl rfl rfl rfl rfl rfl rfl rfl zy31q20 rfl rfl rfl rfl (nokeep hkeep) (by simp [cStr]) zy31q44 (by decide) ?_
    refine xe0 ?_
    refine W.go ?_
    refine ⟨ts ++ [t], ⟨by simp only [List.length_append, List.length_singleton]; omega, by rw [List.length_append, List.length_singleton, happ]⟩, by simp only [List.length_append, List.length_singleton]; omega, ?_⟩
    refine le_L ?sle ?mle (kept_not hkeep)
    case mle => repeat (first | exact mle_nil _ | exact mle_refl _ | refine mle_upd ?_ zy31q4)
    case sle => repeat (first | exact sle_top _ | exact sle_refl _ | refine sle_upd ?_ zy31q2)
  ·intro hge
   simp only [decide_eq_false_iff_not, Int.ofNat_lt] at hge
   have htl : ts.length = es.length := by omega
   rw [htl, List.take_length] at hall
   have hrd : rightD p.classes inn main mty env sk ty es = rightK p.classes main mty sk ty ts := by unfold rightD; rw [hall]
   rw [hrd]
   rw [← htl] at s2 s3
   refine W.go ?_
   refine W.cond rfl ?_ ?_
   ·skip
    intro h
    obtain rfl : sk = 1 := by simpa using h
    have hrk : rightK p.classes main mty 1 ty ts = (knownR p.classes ty && (ts.isEmpty || fitD 0 p.classes (hdT ts) ty)) := rfl
    rw [hrk]
    have hkn := refKnown_ok p.classes (.sl (cStmts p.main)) ty (by omega)
    generalize knownR p.classes ty = K at hkn
    refine W.bl ?_
    refine W.regionDK tab_ok 0 follows_mixed (by kernel_rfl) (by decide) ?_
    cases K with
    | false =>
      refine runk_split 3 zy31q32 ?_
      refine runk_call rfl rfl rfl rfl rfl (by simp) cw2 (hkn _) ?_
      refine xe0 ?_
      refine W.go ?_
      exact W.ret ⟨.inr rfl, by rfl, zy31q10⟩
    | true =>
      refine runk_split 3 zy31q32 ?_
      refine runk_call rfl rfl rfl rfl rfl (by simp) cw2 (hkn _) ?_
      match ts with
      | [] =>
        refine xe0 ?_
        refine W.go ?_
        exact W.ret ⟨.inr rfl, by rfl, zy31q10⟩
      | a :: tr =>
        have hne : ((((tr.length + 1 : Nat) : Int) == 0)) = false := by simp; omega
        have hne2 : (decide ((((tr.length + 1 : Nat) : Int)) = 0)) = false := by simp; omega
        have hfi := fun m => refFits_ok p 0 a ty (by omega) hchk m
        refine runk_split 11 (by simp only [exb, Nat.reduceAdd, Nat.reduceLeDiff, Nat.reduceEqDiff, Nat.reduceMul, Int.reduceToNat, reduceIte, Int.reduceLE, Int.reduceNeg, hcp, List.map_cons, List.length_cons, List.length_map, hne, hne2, cStr]; rfl) ?_
        refine runk_call rfl rfl rfl rfl rfl (by simp) cw3 (hfi _) ?_
        refine xe0 ?_
        refine W.go ?_
        exact W.ret ⟨.inr rfl, by rfl, zy31q10⟩
   intro h
   have n1 : ¬ sk = 1 := by simpa using h
   refine W.go ?_
   refine W.cond rfl ?_ ?_
   ·skip
    intro h
    obtain rfl : sk = 2 := by simpa using h
    obtain ⟨a, b, rfl⟩ := two_of (s2 rfl)
    have hfi := fun m => refFits_ok p 0 b a (by omega) hchk m
    refine W.bl ?_
    refine W.regionDK tab_ok 0 follows_mixed (by kernel_rfl) (by decide) ?_
    refine runk_split 7 zy31q25 ?_
    refine runk_call rfl rfl rfl rfl rfl (by simp) cw3 (hfi _) ?_
    refine xe0 ?_
    refine W.go ?_
    exact W.ret ⟨.inr rfl, by rfl, zy31q10⟩
   intro h
   have n2 : ¬ sk = 2 := by simpa using h
   refine W.go ?_
   refine W.cond rfl ?_ ?_
   ·skip
    intro h
    obtain rfl : sk = 3 := by simpa using h
    have hs3 := s3 (by omega)
    refine W.go ?_
    refine W.cond rfl (fun _ => ?_) (fun h => by cases h)
    obtain ⟨a, tr, rfl⟩ : ∃ a tr, ts = a :: tr := by
     have hl1 : 1 ≤ ts.length := by omega
     match ts, hl1 with
     | a :: tr, _ => exact ⟨a, tr, rfl⟩
    repeat (first | refine W.seq ?_ | refine W.block ?_ | refine W.skip ?_ | refine W.exit ?_ | refine W.g ?_ zy31q29)
    exact W.ret ⟨.inr rfl, by rfl, zy31q10⟩
   intro h
   have n3 : ¬ sk = 3 := by simpa using h
   refine W.go ?_
   refine W.cond rfl ?_ ?_
   ·skip
    intro h
    obtain rfl : sk = 4 := by simpa using h
    have hs3 := s3 (by omega)
    refine W.go ?_
    refine W.cond rfl (fun _ => ?_) (fun h => by cases h)
    obtain ⟨a, tr, rfl⟩ : ∃ a tr, ts = a :: tr := by
     have hl1 : 1 ≤ ts.length := by omega
     match ts, hl1 with
     | a :: tr, _ => exact ⟨a, tr, rfl⟩
    repeat (first | refine W.seq ?_ | refine W.block ?_ | refine W.skip ?_ | refine W.exit ?_ | refine W.g ?_ zy31q29)
    exact W.ret ⟨.inr rfl, by rfl, zy31q10⟩
   intro h
   have n4 : ¬ sk = 4 := by simpa using h
   refine W.go ?_
   refine W.cond rfl ?_ ?_
   ·skip
    intro h
    obtain rfl : sk = 5 := by simpa using h
    have hs3 := s3 (by omega)
    obtain ⟨a, tr, rfl⟩ : ∃ a tr, ts = a :: tr := by
     have hl1 : 1 ≤ ts.length := by omega
     match ts, hl1 with
     | a :: tr, _ => exact ⟨a, tr, rfl⟩
    repeat (first | refine W.seq ?_ | refine W.block ?_ | refine W.skip ?_ | refine W.exit ?_ | refine W.g ?_ zy31q29)
    exact W.ret ⟨.inr rfl, by rfl, zy31q10⟩
   intro h
   have n5 : ¬ sk = 5 := by simpa using h
   refine W.go ?_
   refine W.cond rfl ?_ ?_
   ·skip
    intro h
    obtain rfl : sk = 6 := by simpa using h
    have hs3 := s3 (by omega)
    obtain ⟨a, tr, rfl⟩ : ∃ a tr, ts = a :: tr := by
     have hl1 : 1 ≤ ts.length := by omega
     match ts, hl1 with
     | a :: tr, _ => exact ⟨a, tr, rfl⟩
    have hz2 : (0 < tr.length + 1) = True := eq_true (Nat.succ_pos _)
    have hfi := fun m => refFits_ok p 0 a mty (by omega) hchk m
    refine W.bl ?_
    refine W.regionDK tab_ok 0 follows_mixed (by kernel_rfl) (by decide) ?_
    cases main with
    | true =>
      refine xe0 ?_
      refine W.go ?_
      exact W.ret ⟨.inr rfl, by rfl, zy31q10⟩
    | false =>
      refine runk_split 9 (by simp only [exb, Nat.reduceAdd, Nat.reduceLeDiff, Nat.reduceEqDiff, Nat.reduceMul, Int.reduceToNat, reduceIte, Int.reduceLE, Int.reduceNeg, hcp, cStr, List.map_cons, List.length_cons, List.length_map, hz2]; rfl) ?_
      refine runk_call rfl rfl rfl rfl rfl (by simp) cw3 (hfi _) ?_
      refine xe0 ?_
      refine W.go ?_
      exact W.ret ⟨.inr rfl, by rfl, zy31q10⟩
   ·intro h
    have n6 : ¬ sk = 6 := by simpa using h
    refine W.go ?_
    refine W.ret ⟨.inr rfl, by rfl, ?_⟩
    simp only [Tryz.f54, resA, resOne, toT, fin, exb, Nat.reduceAdd, Nat.reduceLeDiff, Nat.reduceEqDiff, Nat.reduceMul, Int.reduceToNat, reduceIte, Int.reduceLE, Int.reduceNeg]
    simp [rightK, n1, n2, n3, n4, n5, n6]
set_option maxHeartbeats 4000000 in
theorem refBlock_ok (inn : ByteArray) (mm : Method) (main : Bool) : ∀ (n : Nat) (l : List Stmt), SizeOf.sizeOf l ≤ n → MaySs l → KidsSs l → ∀ (env : List Slot), env.length + cntSs l ≤ 100000000 → ∀ m, COk Tryz.prog 30 [.agg (cProg p), .c (.str inn), .agg (cMethod mm), .c (.bool main), .c (.sl (env.map cSlot)), .c (.sl (l.map cStmt))] m (.c (.bool (blockTD p.classes inn main mm.type env l))) := by
 have hcp : cProg p = [.sl (p.classes.map cClass), .sl (cStmts p.main)] := rfl
 intro n
 induction n using Nat.strongRecOn with
 | ind n ih =>
 intro l hn hY hK env hcnt m
 have hRg := fun (E : List Slot) hE sk sn ty nm es th el a b c d e => refRight_ok p hlen hS hchk inn mm main E hE sk sn ty nm es th el a b c d e
 obtain ⟨mty, mnm, mps, mbd⟩ := mm
 have hcm : cMethod ⟨mty, mnm, mps, mbd⟩ = [.str mty, .str mnm, .sl (mps.map cSlot), .sl (cStmts mbd)] := rfl
 rw [hcm] at ih hRg ⊢
 dsimp only at ih hRg ⊢
 have hll : l.length ≤ 100000000 := by have := cntSs_len l; omega
 refine (ok_pure tab_ok Tryz.func30 (by kernel_rfl) rfl rfl (by rfl) (by rfl) (by rfl) (fun R hkeep => ?_) m)
 repeat (first | refine W.seq ?_ | refine W.block ?_ | refine W.skip ?_ | refine W.exit ?_ | refine W.g ?_ zy31q32)
 refine W.bl ?_
 refine W.regionK tab_ok 0 (by decide) ?_
 refine xs0 1 ?_
 refine runk_appendNil tab_ok 16 true rfl rfl rfl rfl rfl rfl rfl (by simp only [exb, Nat.reduceAdd, Nat.reduceLeDiff, Nat.reduceEqDiff, Nat.reduceMul, Int.reduceToNat, reduceIte, Int.reduceLE, Int.reduceNeg]) zy31q20 rfl rfl rfl rfl (by simp [cSlot]) zy31q45 (by decide) ?_
 refine xe0 ?_
 refine W.go ?_
 refine W.loop (ι := Nat) (fun k => ⟨upd (upd (upd (upd (upd (upd (upd (upd (fun _ => .top) 1 (.c (.str inn))) 3 (.c (.bool main))) 4 (.own 16)) 6 (.ptr 6 0)) 8 (.ptr 8 0)) 17 (.c (.sl (l.map cStmt)))) 18 (.c (.int .i64 l.length))) 19 (.c (.int .i64 k)),
  upd (upd (upd Mem.nil 6 (some (.box 25 [.c (.sl (p.classes.map cClass)), .c (.sl (cStmts p.main))]))) 8 (some (.box 49 [.c (.str mty), .c (.str mnm), .c (.sl (mps.map cSlot)), .c (.sl (cStmts mbd))]))) 16 (some (.arr 45 2 ((envK env (l.take k)).map cSlot)))⟩)
  (fun k => k ≤ l.length ∧ blockTD p.classes inn main mty env (l.take k) = true) (fun k => l.length - k) 0 ?start ⟨Nat.zero_le _, by simp [blockTD]⟩ ?round
 case start =>
  refine le_L ?sle ?mle (kept_not hkeep)
  case mle => repeat (first | exact mle_nil _ | exact mle_refl _ | refine mle_upd ?_ (by first | rfl | (simp only [upd_app, killM_app, Nat.reduceEqDiff, reduceIte, List.take_zero, envK, rowO]; done)))
  case sle => repeat (first | exact sle_top _ | exact sle_refl _ | refine sle_upd ?_ (by first | rfl | (simp only [upd_app, entry_zero, entry_succ, Nat.reduceEqDiff, reduceIte, List.take_zero, envK, rowO]; done)))
 case round =>
  rintro k ⟨hkl, hyes⟩
  refine W.go ?_
  refine W.cond rfl ?_ ?_
  ·intro hlt
   simp only [decide_eq_true_eq, Int.ofNat_lt] at hlt
   obtain ⟨x, hx⟩ : ∃ x, l[k]? = some x := ⟨_, List.getElem?_eq_getElem hlt⟩
   have hxm := List.mem_of_getElem? hx
   have hxs := List.sizeOf_lt_of_mem hxm
   have hKx := hK.mem hxm
   have hYx := hY.mem hxm
   have hat := at_map (f := cStmt) hx
   have htk : l.take (k + 1) = l.take k ++ [x] := by rw [List.take_add_one, hx]; rfl
   have hsp : l = l.take k ++ (x :: l.drop (k + 1)) := by have h1 := List.take_append_drop (k + 1) l; rw [htk, List.append_assoc] at h1; exact h1.symm
   have hcx := cntSs_append (l.take k) (x :: l.drop (k + 1))
   rw [← hsp] at hcx
   have hkc := cntSs_len (l.take k)
   have hEl := envK_len env (l.take k)
   obtain ⟨sk, sn, ty, nm, es, th, el⟩ := x
   simp only [KidsS] at hKx
   obtain ⟨s2, s3, s4, s5, s6, s7⟩ := hKx
   simp only [MayS] at hYx
   obtain ⟨y1, y2, y3⟩ := hYx
   have hspec := Stmt.mk.sizeOf_spec sk sn ty nm es th el
   simp only [cStmt, cStmts_map, cExprs_map] at hat
   rw [cntSs, cntS] at hcx
   have hno2 : stmtTD p.classes inn main mty (envK env (l.take k)) ⟨sk, sn, ty, nm, es, th, el⟩ = false → blockTD p.classes inn main mty env l = false := fun h => by
    rw [hsp, blockTD_snoc, hyes, Bool.true_and, blockTD, h, Bool.false_and]
   have hyes2 : stmtTD p.classes inn main mty (envK env (l.take k)) ⟨sk, sn, ty, nm, es, th, el⟩ = true → blockTD p.classes inn main mty env (l.take (k + 1)) = true := fun h => by
    rw [htk, blockTD_snoc, hyes, Bool.true_and, blockTD, blockTD, h]; rfl
   have hst : stmtTD p.classes inn main mty (envK env (l.take k)) ⟨sk, sn, ty, nm, es, th, el⟩ = (rightD p.classes inn main mty (envK env (l.take k)) sk ty es && blockTD p.classes inn main mty (envK env (l.take k)) th && blockTD p.classes inn main mty (envK env (l.take k)) el) := by rw [stmtTD]
   have hE1 : envK env (l.take (k + 1)) = (if sk = 1 then envK env (l.take k) ++ [⟨ty, nm⟩] else envK env (l.take k)) := by rw [htk, envK_snoc]
   rw [hst] at hno2 hyes2
   generalize envK env (l.take k) = E at *
   have hlk : (l.take k).length = k := by rw [List.length_take]; omega
   have hR := hRg E (by omega) sk sn ty nm es th el s2 s3 s4 y1 s5
   have hB1 := ih (SizeOf.sizeOf th) (by omega) th (Nat.le_refl _) y2 s6 E (by omega)
   have hB2 := ih (SizeOf.sizeOf el) (by omega) el (Nat.le_refl _) y3 s7 E (by omega)
   have hcs : cStmt ⟨sk, sn, ty, nm, es, th, el⟩ = [.int .i64 sk, .int .i64 sn, .str ty, .str nm, .sl (es.map cExpr), .sl (th.map cStmt), .sl (el.map cStmt)] := by simp only [cStmt, cStmts_map, cExprs_map]
   rw [hcs] at hR
   generalize rightD p.classes inn main mty E sk ty es = V1 at *
   generalize blockTD p.classes inn main mty E th = V2 at *
   generalize blockTD p.classes inn main mty E el = V3 at *
   repeat (first | refine W.seq ?_ | refine W.block ?_ | refine W.skip ?_ | refine W.exit ?_ | refine W.g ?_ zy31q33)
   refine W.regionK tab_ok 0 (by decide) ?_
   cases V1 with
   | false =>
     refine runk_split 6 zy31q32 ?_
     refine runk_call rfl rfl rfl rfl rfl (by simp) (cvs_cons cv_refl (cvs_cons cv_refl (cvs_cons cv_refl (cvs_cons cv_refl (cvs_cons (cv_own rfl) cw1))))) (hR _) ?_
     refine xe0 ?_
     refine W.cond rfl (fun _ => ?_) (fun h => by cases h)
     rw [hno2 rfl]
     refine W.go ?_
     exact W.ret ⟨.inr rfl, by rfl, zy31q13⟩
   | true =>
     refine runk_split 6 zy31q32 ?_
     refine runk_call rfl rfl rfl rfl rfl (by simp) (cvs_cons cv_refl (cvs_cons cv_refl (cvs_cons cv_refl (cvs_cons cv_refl (cvs_cons (cv_own rfl) cw1))))) (hR _) ?_
     cases V2 with
     | false =>
       refine runk_split 9 zy31q32 ?_
       refine runk_call rfl rfl rfl rfl rfl (by simp) (cvs_cons cv_refl (cvs_cons cv_refl (cvs_cons cv_refl (cvs_cons cv_refl (cvs_cons (cv_own rfl) cw1))))) (hB1 _) ?_
       refine xe0 ?_
       refine W.cond rfl (fun _ => ?_) (fun h => by cases h)
       rw [hno2 rfl]
       refine W.go ?_
       exact W.ret ⟨.inr rfl, by rfl, zy31q13⟩
     | true =>
       refine runk_split 9 zy31q32 ?_
       refine runk_call rfl rfl rfl rfl rfl (by simp) (cvs_cons cv_refl (cvs_cons cv_refl (cvs_cons cv_refl (cvs_cons cv_refl (cvs_cons (cv_own rfl) cw1))))) (hB1 _) ?_
       cases V3 with
       | false =>
         refine runk_split 10 zy31q32 ?_
         refine runk_call rfl rfl rfl rfl rfl (by simp) (cvs_cons cv_refl (cvs_cons cv_refl (cvs_cons cv_refl (cvs_cons cv_refl (cvs_cons (cv_own rfl) cw1))))) (hB2 _) ?_
         refine xe0 ?_
         refine W.cond rfl (fun _ => ?_) (fun h => by cases h)
         rw [hno2 rfl]
         refine W.go ?_
         exact W.ret ⟨.inr rfl, by rfl, zy31q13⟩
       | true =>
         refine runk_split 10 zy31q32 ?_
         refine runk_call rfl rfl rfl rfl rfl (by simp) (cvs_cons cv_refl (cvs_cons cv_refl (cvs_cons cv_refl (cvs_cons cv_refl (cvs_cons (cv_own rfl) cw1))))) (hB2 _) ?_
         refine xe0 ?_
         refine W.cond rfl (fun h => by cases h) (fun _ => ?_)
         have hyes3 := hyes2 rfl
         refine W.go ?_
         refine W.cond rfl ?_ ?_
         ·skip
          intro h
          obtain rfl : sk = 1 := by simpa using h
          rw [if_pos rfl] at hE1
          refine W.bl ?_
          refine W.regionK tab_ok 0 (by decide) ?_
          refine xs0 7 ?_
          refine runk_append tab_ok 16 rfl rfl rfl rfl rfl rfl rfl rfl zy31q20 rfl rfl rfl rfl (nokeep hkeep) (by simp) zy31q44 (by decide) ?_
          refine xe0 ?_
          refine W.go ?_
          refine ⟨k + 1, ⟨hlt, hyes3⟩, by omega, ?_⟩
          rw [hE1]
          refine le_L ?sle ?mle (kept_not hkeep)
          case mle => repeat (first | exact mle_nil _ | exact mle_refl _ | refine mle_upd ?_ (by first | rfl | (simp only [upd_app, killM_app, Nat.reduceEqDiff, reduceIte, List.map_append, List.map_cons, List.map_nil, cSlot, wrap_succ (show k + 1 < 9223372036854775808 by omega)]; done)))
          case sle => repeat (first | exact sle_top _ | exact sle_refl _ | refine sle_upd ?_ (by first | rfl | (simp only [upd_app, entry_zero, entry_succ, Nat.reduceEqDiff, reduceIte, List.map_append, List.map_cons, List.map_nil, cSlot, wrap_succ (show k + 1 < 9223372036854775808 by omega)]; done)))
         ·intro h
          have n1 : ¬ sk = 1 := by simpa using h
          rw [if_neg n1] at hE1
          refine W.go ?_
          refine ⟨k + 1, ⟨hlt, hyes3⟩, by omega, ?_⟩
          rw [hE1]
          exact le_Sk (kept_not hkeep)
  ·intro hge
   simp only [decide_eq_false_iff_not, Int.ofNat_lt] at hge
   obtain rfl : k = l.length := by omega
   rw [List.take_length] at hyes
   rw [hyes]
   refine W.go ?_
   exact W.ret ⟨.inr rfl, by rfl, zy31q13⟩
end
end V
end Go.Proofs.YthhpcjoaogmhbaaGreat
end
section
namespace Go.Proofs.YthhpcjoaogmhbaaGreat
namespace V
open Go.RowKit
theorem decS_cnt : ∀ (n : Nat) (l : List Stmt), SizeOf.sizeOf l ≤ n → (decSs l).length ≤ cntSs l := by
 intro n
 induction n with
 | zero => intro l hl; cases l <;> simp at hl
 | succ n ih =>
   intro l hl
   cases l with
   | nil => simp [decSs]
   | cons x l =>
     obtain ⟨k, nn, ty, nm, es, th, el⟩ := x
     simp only [List.cons.sizeOf_spec, Stmt.mk.sizeOf_spec] at hl
     have h1 := ih th (by omega)
     have h2 := ih el (by omega)
     have h3 := ih l (by omega)
     simp only [decSs, decS, cntSs, cntS, List.length_append]
     have h4 : (if k = 1 then ([⟨ty, nm⟩] : List Slot) else []).length ≤ 1 := by split <;> simp
     omega
section
variable (p : Program) (hlen : p.classes.length ≤ 16) (hS : SmallC p.classes) (hchk : ∀ m, COk Tryz.prog 11 [.agg (cProg p)] m (.c (.int .i64 0)))
include hlen hS hchk
theorem refMeth_ok (inn : ByteArray) (mm : Method) (main : Bool) (hbl : mm.body.length ≤ 1048576) (hbs : SmallSs 1048576 mm.body) (hY : MaySs mm.body) (hK : KidsSs mm.body) (hcnt : mm.params.length + cntSs mm.body ≤ 100000000) (m : Mem) :
 COk Tryz.prog 12 [.agg (cProg p), .c (.str inn), .agg (cMethod mm), .c (.bool main)] m (.c (.bool (methTD p.classes inn main mm.type mm.params mm.body))) := by
 have hcp : cProg p = [.sl (p.classes.map cClass), .sl (cStmts p.main)] := rfl
 have hdl := decS_cnt _ mm.body (Nat.le_refl _)
 have hD := Declared_ok mm hbl hbs (by omega)
 have hB := refBlock_ok p hlen hS hchk inn mm main _ mm.body (Nat.le_refl _) hY hK mm.params hcnt
 have hmd : methTD p.classes inn main mm.type mm.params mm.body = (!(twiceB (mm.params ++ decSs mm.body)) && blockTD p.classes inn main mm.type mm.params mm.body) := rfl
 rw [hmd]
 generalize blockTD p.classes inn main mm.type mm.params mm.body = V at hB
 have hll : (mm.params ++ decSs mm.body).length ≤ 1000000000 := by rw [List.length_append]; omega
 generalize mm.params ++ decSs mm.body = l at hD hll
 obtain ⟨mty, mnm, mps, mbd⟩ := mm
 have hcm : cMethod ⟨mty, mnm, mps, mbd⟩ = [.str mty, .str mnm, .sl (mps.map cSlot), .sl (cStmts mbd)] := rfl
 rw [hcm] at hB hD ⊢
 dsimp only at hB hD ⊢
 rw [← cStmts_map] at hB
 refine (ok_pure tab_ok Tryz.func12 (by kernel_rfl) rfl rfl (by rfl) (by rfl) (by rfl) (fun R hkeep => ?_) m)
 repeat (first | refine W.seq ?_ | refine W.block ?_ | refine W.skip ?_ | refine W.exit ?_ | refine W.g ?_ zy31q32)
 refine W.bl ?_
 refine W.regionK tab_ok 0 (by decide) ?_
 refine xs0 1 ?_
 refine runk_call rfl rfl rfl rfl rfl (by simp) cw1 (hD _) ?_
 refine xe0 ?_
 refine W.go ?_
 refine W.loop (ι := Nat) (fun i => ⟨upd (upd (upd (upd (upd (upd (upd (upd (fun _ => .top) 1 (.c (.str inn))) 3 (.c (.bool main))) 4 (.ptr 4 0)) 6 (.ptr 6 0)) 9 (.c (.sl (l.map cSlot)))) 14 (.c (.sl (l.map cSlot)))) 15 (.c (.int .i64 l.length))) 16 (.c (.int .i64 i)),
  upd (upd Mem.nil 4 (some (.box 25 [.c (.sl (p.classes.map cClass)), .c (.sl (cStmts p.main))]))) 6 (some (.box 49 [.c (.str mty), .c (.str mnm), .c (.sl (mps.map cSlot)), .c (.sl (cStmts mbd))]))⟩)
  (fun i => i ≤ l.length ∧ ∀ j < i, (List.range j).any (eqAt l j) = false) (fun i => l.length - i) 0 ?start ⟨Nat.zero_le _, fun j hj => by omega⟩ ?round
 case start =>
  exact le_D (kept_not hkeep)
 case round =>
  rintro i ⟨hi, hall⟩
  refine W.go ?_
  refine W.cond rfl ?_ ?_
  ·intro hlt
   simp only [decide_eq_true_eq, Int.ofNat_lt] at hlt
   obtain ⟨x, hx⟩ : ∃ x, l[i]? = some x := ⟨_, List.getElem?_eq_getElem hlt⟩
   refine W.go ?_
   refine W.loop (ι := Nat) (fun k => ⟨upd (upd (upd (upd (upd (upd (upd (upd (upd (upd (upd (fun _ => .top) 1 (.c (.str inn))) 3 (.c (.bool main))) 4 (.ptr 4 0)) 6 (.ptr 6 0)) 9 (.c (.sl (l.map cSlot)))) 14 (.c (.sl (l.map cSlot)))) 15 (.c (.int .i64 l.length))) 16 (.c (.int .i64 i))) 10 (.c (.int .i64 i))) 19 (.c (.int .i64 i))) 20 (.c (.int .i64 k)),
    upd (upd Mem.nil 4 (some (.box 25 [.c (.sl (p.classes.map cClass)), .c (.sl (cStmts p.main))]))) 6 (some (.box 49 [.c (.str mty), .c (.str mnm), .c (.sl (mps.map cSlot)), .c (.sl (cStmts mbd))]))⟩)
    (fun k => k ≤ i ∧ ∀ j < k, eqAt l i j = false) (fun k => i - k) 0 ?start ⟨Nat.zero_le _, fun j hj => by omega⟩ ?round
   case start =>
    exact le_D (kept_not hkeep)
   case round =>
    rintro k ⟨hk, hin⟩
    refine W.go ?_
    refine W.cond rfl ?_ ?_
    ·intro hlk
     simp only [decide_eq_true_eq, Int.ofNat_lt] at hlk
     obtain ⟨y, hy⟩ : ∃ y, l[k]? = some y := ⟨_, List.getElem?_eq_getElem (by omega)⟩
     have he : eqAt l i k = (x.name.toList == y.name.toList) := by simp [eqAt, hx, hy]
     refine W.go ?_
     refine W.regionDK tab_ok 0 follows_mixed (by kernel_rfl) (by decide) ?_
     refine runk_exec (by simp only [exb, Nat.reduceAdd, Nat.reduceLeDiff, Nat.reduceEqDiff, Nat.reduceMul, Int.reduceToNat, reduceIte, Int.reduceLE, Int.reduceNeg, at_map hx, at_map hy, cSlot]; rfl) ?_
     refine W.cond rfl ?_ ?_
     ·intro heq
      refine W.go ?_
      refine W.ret ⟨.inr rfl, by rfl, ?_⟩
      simp only [Tryz.f12, resA, resOne, toT, fin, exb, Nat.reduceAdd, Nat.reduceLeDiff, Nat.reduceEqDiff, Nat.reduceMul, Int.reduceToNat, reduceIte, Int.reduceLE, Int.reduceNeg]
      have : twiceB l = true := any_range hlt (any_range hlk (he.trans heq))
      rw [this]; rfl
     ·intro hne
      refine W.go ?_
      refine ⟨k + 1, ⟨hlk, fun j hj => ?_⟩, by omega, ?_⟩
      ·rcases Nat.lt_succ_iff_lt_or_eq.1 hj with h | h
       ·exact hin j h
       ·subst h; exact he.trans hne
      exact le_Sk (kept_not hkeep)
    ·intro hge
     simp only [decide_eq_false_iff_not, Int.ofNat_lt] at hge
     obtain rfl : k = i := by omega
     refine W.go ?_
     refine ⟨k + 1, ⟨hlt, fun j hj => ?_⟩, by omega, ?_⟩
     ·rcases Nat.lt_succ_iff_lt_or_eq.1 hj with h | h
      ·exact hall j h
      ·subst h; exact none_range hin
     exact le_Sk (kept_not hkeep)
  ·intro hge
   simp only [decide_eq_false_iff_not, Int.ofNat_lt] at hge
   obtain rfl : i = l.length := by omega
   have h2 : twiceB l = false := none_range hall
   refine W.go ?_
   refine W.bl ?_
   refine W.regionK tab_ok 0 (by decide) ?_
   refine runk_split 8 zy31q32 ?_
   refine runk_call rfl rfl rfl rfl rfl (by simp) cw6 (hB _) ?_
   refine xe0 ?_
   refine W.go ?_
   refine W.ret ⟨.inr rfl, by rfl, ?_⟩
   simp only [Tryz.f12, resA, resOne, toT, fin, exb, Nat.reduceAdd, Nat.reduceLeDiff, Nat.reduceEqDiff, Nat.reduceMul, Int.reduceToNat, reduceIte, Int.reduceLE, Int.reduceNeg]
   rw [h2]; rfl
end
structure SmallP (p : Program) : Prop where
 main : p.main.length ≤ 1048576 ∧ SmallSs 1048576 p.main ∧ cntSs p.main ≤ 1048576
 meth : ∀ c ∈ p.classes, ∀ m ∈ c.methods, m.body.length ≤ 1048576 ∧ SmallSs 1048576 m.body ∧ cntSs m.body ≤ 1048576
set_option maxHeartbeats 4000000 in
theorem refCheck7_ok (p : Program) (hS : SmallC p.classes) (hP : SmallP p) (hlen : p.classes.length ≤ 1048576) (m : Mem) : COk Tryz.prog 5 [.agg (cProg p)] m (.c (.int .i64 (checkD p))) := by
 have hcp : cProg p = [.sl (p.classes.map cClass), .sl (cStmts p.main)] := rfl
 have hchk := refChk_ok p hS hlen
 unfold checkD
 obtain ⟨E, hE⟩ : ∃ E, chkErr (errP p) p.classes = E := ⟨_, rfl⟩
 rw [hE] at hchk ⊢
 refine (ok_pure tab_ok Tryz.func5 (by kernel_rfl) rfl rfl (by rfl) (by rfl) (by rfl) (fun R hkeep => ?_) m)
 repeat (first | refine W.seq ?_ | refine W.block ?_ | refine W.skip ?_ | refine W.exit ?_ | refine W.g ?_ zy31q32)
 refine W.bl ?_
 refine W.regionK tab_ok 0 (by decide) ?_
 refine runk_split 1 zy31q32 ?_
 refine runk_call rfl rfl rfl rfl rfl (by simp) cw1 (hchk _) ?_
 refine xe0 ?_
 refine W.go ?_
 refine W.cond rfl ?_ ?_
 ·intro h
  have he : E ≠ 0 := by simpa using h
  rw [if_neg he]
  refine W.go ?_
  exact W.ret ⟨.inr rfl, by rfl, (by simp only [Tryz.f5, resA, resOne, toT, fin, exb, Nat.reduceAdd, Nat.reduceLeDiff, Nat.reduceEqDiff, Nat.reduceMul, Int.reduceToNat, reduceIte, Int.reduceLE, Int.reduceNeg])⟩
 intro h
 obtain rfl : E = 0 := by simpa using h
 rw [if_pos rfl]
 have h16 : p.classes.length ≤ 16 := by
  unfold chkErr at hE
  split at hE
  ·split at hE
   ·cases hE
   ·omega
  ·rename_i h1; exact absurd hE h1
 obtain ⟨my, mk⟩ := main_of hE
 have hmm := refMeth_ok p h16 hS hchk tNo ⟨tNo, tNo, [], p.main⟩ true hP.main.1 hP.main.2.1 my mk (by have := hP.main.2.2; simp only [List.length_nil]; omega)
 have hcm : cMethod ⟨tNo, tNo, [], p.main⟩ = [.str tNo, .str tNo, .sl [], .sl (cStmts p.main)] := rfl
 rw [hcm] at hmm
 dsimp only at hmm
 have hpd : progTD p = (methTD p.classes tNo true tNo [] p.main && p.classes.all (classTD p.classes)) := rfl
 rw [hpd]
 generalize methTD p.classes tNo true tNo [] p.main = V0 at hmm
 have key : ∀ (b : Bool), (if b = true then (0 : Int) else 70) = (if b = true then 0 else 70) := fun _ => rfl
 refine W.go ?_
 refine W.bl ?_
 refine W.regionK tab_ok 0 (by decide) ?_
 refine runk_split 4 zy31q32 ?_
 refine runk_call rfl rfl rfl rfl rfl (by simp) cw4 (hmm _) ?_
 refine xe0 ?_
 refine W.go ?_
 refine W.loop (ι := Nat) (fun k => ⟨upd (upd (upd (upd (upd (fun _ => .top) 1 (.ptr 1 0)) 4 (.c (.bool (V0 && (p.classes.take k).all (classTD p.classes))))) 24 (.c (.sl (p.classes.map cClass)))) 25 (.c (.int .i64 p.classes.length))) 26 (.c (.int .i64 k)),
  upd Mem.nil 1 (some (.box 25 [.c (.sl (p.classes.map cClass)), .c (.sl (cStmts p.main))]))⟩)
  (fun k => k ≤ p.classes.length) (fun k => p.classes.length - k) 0 ?start (Nat.zero_le _) ?round
 case start =>
  refine le_L ?sle ?mle (kept_not hkeep)
  case mle => repeat (first | exact mle_nil _ | exact mle_refl _ | refine mle_upd ?_ (by first | rfl | (simp only [upd_app, killM_app, Nat.reduceEqDiff, reduceIte, List.take_zero, List.all_nil, Bool.and_true]; done)))
  case sle => repeat (first | exact sle_top _ | exact sle_refl _ | refine sle_upd ?_ (by first | rfl | (simp only [upd_app, entry_zero, entry_succ, Nat.reduceEqDiff, reduceIte, List.take_zero, List.all_nil, Bool.and_true]; done)))
 case round =>
  intro k hk
  refine W.go ?_
  refine W.cond rfl ?_ ?_
  ·intro hlt
   simp only [decide_eq_true_eq, Int.ofNat_lt] at hlt
   obtain ⟨c, hx⟩ : ∃ c, p.classes[k]? = some c := ⟨_, List.getElem?_eq_getElem hlt⟩
   have hcm := List.mem_of_getElem? hx
   have hat := at_map (f := cClass) hx
   have hall : (p.classes.take (k + 1)).all (classTD p.classes) = ((p.classes.take k).all (classTD p.classes) && classTD p.classes c) := by
    rw [List.take_add_one, hx, List.all_append]; simp
   have hcd : classTD p.classes c = (c.fields.all (fun s => knownR p.classes s.type) && c.methods.all fun m => m.params.all (fun s => knownR p.classes s.type) && (knownR p.classes m.type && methTD p.classes c.name false m.type m.params m.body)) := rfl
   have hall2c : (V0 && (p.classes.take (k + 1)).all (classTD p.classes)) = ((V0 && (p.classes.take k).all (classTD p.classes)) && classTD p.classes c) := by rw [hall, Bool.and_assoc]
   generalize (V0 && (p.classes.take k).all (classTD p.classes)) = V1 at *
   have hbd := fun x hx => meth_body hE hcm (m := x) hx
   have hbs := hP.meth c hcm
   have hcs := hS c hcm
   obtain ⟨cn, csu, cfs, cms⟩ := c
   simp only [cClass] at hat
   dsimp only at hcd hbd hbs hcs
   repeat (first | refine W.seq ?_ | refine W.block ?_ | refine W.skip ?_ | refine W.exit ?_ | refine W.g ?_ zy31q33)
   refine W.loop (ι := Nat × Bool) (fun q => ⟨upd (upd (upd (upd (upd (upd (upd (upd (upd (fun _ => .top) 1 (.ptr 1 0)) 4 (.c (.bool q.2))) 24 (.c (.sl (p.classes.map cClass)))) 25 (.c (.int .i64 p.classes.length))) 26 (.c (.int .i64 k))) 6 (.ptr 6 0)) 31 (.c (.sl (cfs.map cSlot)))) 32 (.c (.int .i64 cfs.length))) 33 (.c (.int .i64 q.1)),
    upd (upd Mem.nil 1 (some (.box 25 [.c (.sl (p.classes.map cClass)), .c (.sl (cStmts p.main))]))) 6 (some (.box 40 [.c (.str cn), .c (.str csu), .c (.sl (cfs.map cSlot)), .c (.sl (cms.map cMethod))]))⟩)
    (fun q => q.1 ≤ cfs.length ∧ q.2 = (V1 && (cfs.take q.1).all (fun s => knownR p.classes s.type))) (fun q => cfs.length - q.1) (0, V1) ?start ⟨Nat.zero_le _, by simp⟩ ?round
   case start =>
    exact le_D (kept_not hkeep)
   case round =>
    rintro ⟨j, b⟩ ⟨hj, hb⟩
    dsimp only at hj hb ⊢
    refine W.go ?_
    refine W.cond rfl ?_ ?_
    ·intro hlj
     simp only [decide_eq_true_eq, Int.ofNat_lt] at hlj
     obtain ⟨s, hs⟩ : ∃ s, cfs[j]? = some s := ⟨_, List.getElem?_eq_getElem hlj⟩
     have hall2 : (V1 && (cfs.take (j + 1)).all (fun s => knownR p.classes s.type)) = (b && knownR p.classes s.type) := by
      rw [hb, List.take_add_one, hs, List.all_append, Bool.and_assoc]; simp
     have hsat := at_map (f := cSlot) hs
     simp only [cSlot] at hsat
     have hkn := refKnown_ok p.classes (.sl (cStmts p.main)) s.type (by omega)
     generalize knownR p.classes s.type = KN at hkn hall2
     cases b with
     | false =>
       repeat (first | refine W.seq ?_ | refine W.block ?_ | refine W.skip ?_ | refine W.exit ?_ | refine W.g ?_ zy31q31)
       refine ⟨(j + 1, false), ⟨hlj, by rw [hall2]; rfl⟩, by dsimp only; omega, ?_⟩
       exact le_Sj (kept_not hkeep)
     | true =>
       repeat (first | refine W.seq ?_ | refine W.block ?_ | refine W.skip ?_ | refine W.exit ?_ | refine W.g ?_ zy31q31)
       refine W.regionK tab_ok 0 (by decide) ?_
       refine runk_split 5 zy31q32 ?_
       refine runk_call rfl rfl rfl rfl rfl (by simp) cw2 (hkn _) ?_
       refine xe0 ?_
       refine W.go ?_
       refine ⟨(j + 1, KN), ⟨hlj, by rw [hall2]; rfl⟩, by dsimp only; omega, ?_⟩
       exact le_Sj (kept_not hkeep)
    ·intro hge
     simp only [decide_eq_false_iff_not, Int.ofNat_lt] at hge
     obtain rfl : j = cfs.length := by omega
     rw [List.take_length] at hb
     refine W.go ?_
     refine W.loop (ι := Nat × Bool) (fun q => ⟨upd (upd (upd (upd (upd (upd (upd (upd (upd (fun _ => .top) 1 (.ptr 1 0)) 4 (.c (.bool q.2))) 24 (.c (.sl (p.classes.map cClass)))) 25 (.c (.int .i64 p.classes.length))) 26 (.c (.int .i64 k))) 6 (.ptr 6 0)) 46 (.c (.sl (cms.map cMethod)))) 47 (.c (.int .i64 cms.length))) 48 (.c (.int .i64 q.1)),
      upd (upd Mem.nil 1 (some (.box 25 [.c (.sl (p.classes.map cClass)), .c (.sl (cStmts p.main))]))) 6 (some (.box 40 [.c (.str cn), .c (.str csu), .c (.sl (cfs.map cSlot)), .c (.sl (cms.map cMethod))]))⟩)
      (fun q => q.1 ≤ cms.length ∧ q.2 = (b && (cms.take q.1).all (fun m => m.params.all (fun s => knownR p.classes s.type) && (knownR p.classes m.type && methTD p.classes cn false m.type m.params m.body)))) (fun q => cms.length - q.1) (0, b) ?start ⟨Nat.zero_le _, by simp⟩ ?round
     case start =>
      exact le_D (kept_not hkeep)
     case round =>
      rintro ⟨i, b1⟩ ⟨hi, hb1⟩
      dsimp only at hi hb1 ⊢
      refine W.go ?_
      refine W.cond rfl ?_ ?_
      ·intro hli
       simp only [decide_eq_true_eq, Int.ofNat_lt] at hli
       obtain ⟨mm, hmi⟩ : ∃ mm, cms[i]? = some mm := ⟨_, List.getElem?_eq_getElem hli⟩
       have hmm := List.mem_of_getElem? hmi
       obtain ⟨by1, by2⟩ := hbd mm hmm
       obtain ⟨bs1, bs2, bs3⟩ := hbs mm hmm
       have hps := hcs.2.2 mm hmm
       have hall3 : (b && (cms.take (i + 1)).all (fun m => m.params.all (fun s => knownR p.classes s.type) && (knownR p.classes m.type && methTD p.classes cn false m.type m.params m.body))) = (b1 && (mm.params.all (fun s => knownR p.classes s.type) && (knownR p.classes mm.type && methTD p.classes cn false mm.type mm.params mm.body))) := by
        rw [hb1, List.take_add_one, hmi, List.all_append, Bool.and_assoc]; simp
       have hme := refMeth_ok p h16 hS hchk cn mm false bs1 bs2 by1 by2 (by omega)
       have hkt := refKnown_ok p.classes (.sl (cStmts p.main)) mm.type (by omega)
       have hmat := at_map (f := cMethod) hmi
       obtain ⟨mty, mnm, mps, mbd⟩ := mm
       simp only [cMethod] at hmat hme
       dsimp only at hall3 hps hkt hme
       repeat (first | refine W.seq ?_ | refine W.block ?_ | refine W.skip ?_ | refine W.exit ?_ | refine W.g ?_ (by simp only [exb, Nat.reduceAdd, Nat.reduceLeDiff, Nat.reduceEqDiff, Nat.reduceMul, Int.reduceToNat, reduceIte, Int.reduceLE, Int.reduceNeg, hmat]; rfl))
       refine W.loop (ι := Nat × Bool) (fun q => ⟨upd (upd (upd (upd (upd (upd (upd (upd (upd (upd (upd (upd (upd (fun _ => .top) 1 (.ptr 1 0)) 4 (.c (.bool q.2))) 24 (.c (.sl (p.classes.map cClass)))) 25 (.c (.int .i64 p.classes.length))) 26 (.c (.int .i64 k))) 6 (.ptr 6 0)) 46 (.c (.sl (cms.map cMethod)))) 47 (.c (.int .i64 cms.length))) 48 (.c (.int .i64 i))) 10 (.ptr 10 0)) 53 (.c (.sl (mps.map cSlot)))) 54 (.c (.int .i64 mps.length))) 55 (.c (.int .i64 q.1)),
        upd (upd (upd Mem.nil 1 (some (.box 25 [.c (.sl (p.classes.map cClass)), .c (.sl (cStmts p.main))]))) 6 (some (.box 40 [.c (.str cn), .c (.str csu), .c (.sl (cfs.map cSlot)), .c (.sl (cms.map cMethod))]))) 10 (some (.box 49 [.c (.str mty), .c (.str mnm), .c (.sl (mps.map cSlot)), .c (.sl (cStmts mbd))]))⟩)
        (fun q => q.1 ≤ mps.length ∧ q.2 = (b1 && (mps.take q.1).all (fun s => knownR p.classes s.type))) (fun q => mps.length - q.1) (0, b1) ?start ⟨Nat.zero_le _, by simp⟩ ?round
       case start =>
        exact le_D (kept_not hkeep)
       case round =>
        rintro ⟨j, b2⟩ ⟨hj, hb2⟩
        dsimp only at hj hb2 ⊢
        refine W.go ?_
        refine W.cond rfl ?_ ?_
        ·intro hlj
         simp only [decide_eq_true_eq, Int.ofNat_lt] at hlj
         obtain ⟨s, hs⟩ : ∃ s, mps[j]? = some s := ⟨_, List.getElem?_eq_getElem hlj⟩
         have hall2 : (b1 && (mps.take (j + 1)).all (fun s => knownR p.classes s.type)) = (b2 && knownR p.classes s.type) := by
          rw [hb2, List.take_add_one, hs, List.all_append, Bool.and_assoc]; simp
         have hsat := at_map (f := cSlot) hs
         simp only [cSlot] at hsat
         have hkn := refKnown_ok p.classes (.sl (cStmts p.main)) s.type (by omega)
         generalize knownR p.classes s.type = KN at hkn hall2
         cases b2 with
         | false =>
           repeat (first | refine W.seq ?_ | refine W.block ?_ | refine W.skip ?_ | refine W.exit ?_ | refine W.g ?_ zy31q31)
           refine ⟨(j + 1, false), ⟨hlj, by rw [hall2]; rfl⟩, by dsimp only; omega, ?_⟩
           exact le_Sj (kept_not hkeep)
         | true =>
           repeat (first | refine W.seq ?_ | refine W.block ?_ | refine W.skip ?_ | refine W.exit ?_ | refine W.g ?_ zy31q31)
           refine W.regionK tab_ok 0 (by decide) ?_
           refine runk_split 5 zy31q32 ?_
           refine runk_call rfl rfl rfl rfl rfl (by simp) cw2 (hkn _) ?_
           refine xe0 ?_
           refine W.go ?_
           refine ⟨(j + 1, KN), ⟨hlj, by rw [hall2]; rfl⟩, by dsimp only; omega, ?_⟩
           exact le_Sj (kept_not hkeep)
        ·intro hge
         simp only [decide_eq_false_iff_not, Int.ofNat_lt] at hge
         obtain rfl : j = mps.length := by omega
         rw [List.take_length] at hb2
         rw [← Bool.and_assoc, ← hb2] at hall3
         generalize methTD p.classes cn false mty mps mbd = VM at hme hall3
         refine W.exit ?_
         refine W.bl ?_
         refine W.regionK tab_ok 0 (by decide) ?_
         cases b2 with
         | false =>
           refine xe0 ?_
           refine W.go ?_
           refine ⟨(i + 1, false), ⟨hli, by rw [hall3]; rfl⟩, by dsimp only; omega, ?_⟩
           exact le_Si (kept_not hkeep)
         | true =>
           generalize knownR p.classes mty = KT at hkt hall3
           cases KT with
           | false =>
             refine runk_split 5 zy31q32 ?_
             refine runk_call rfl rfl rfl rfl rfl (by simp) cw2 (hkt _) ?_
             refine xe0 ?_
             refine W.go ?_
             refine ⟨(i + 1, false), ⟨hli, by rw [hall3]; rfl⟩, by dsimp only; omega, ?_⟩
             exact le_Si (kept_not hkeep)
           | true =>
             refine runk_split 5 zy31q32 ?_
             refine runk_call rfl rfl rfl rfl rfl (by simp) cw2 (hkt _) ?_
             refine runk_split 6 zy31q32 ?_
             refine runk_call rfl rfl rfl rfl rfl (by simp) cw4 (hme _) ?_
             refine xe0 ?_
             refine W.go ?_
             refine ⟨(i + 1, VM), ⟨hli, by rw [hall3]; rfl⟩, by dsimp only; omega, ?_⟩
             exact le_Si (kept_not hkeep)
      ·intro hge
       simp only [decide_eq_false_iff_not, Int.ofNat_lt] at hge
       obtain rfl : i = cms.length := by omega
       rw [List.take_length] at hb1
       refine W.go ?_
       refine ⟨k + 1, hlt, by omega, ?_⟩
       have hfin : b1 = (V1 && classTD p.classes ⟨cn, csu, cfs, cms⟩) := by rw [hb1, hb, hcd, Bool.and_assoc]
       rw [hall2c, ← hfin]
       exact le_Sk (kept_not hkeep)
  ·intro hge
   simp only [decide_eq_false_iff_not, Int.ofNat_lt] at hge
   obtain rfl : k = p.classes.length := by omega
   rw [List.take_length]
   generalize (V0 && p.classes.all (classTD p.classes)) = V
   cases V with
   | true =>
     refine W.go ?_
     refine W.cond rfl (fun h => by cases h) (fun _ => ?_)
     refine W.go ?_
     refine W.ret ⟨.inr rfl, by rfl, ?_⟩
     simp only [Tryz.f5, resA, resOne, toT, fin, exb, Nat.reduceAdd, Nat.reduceLeDiff, Nat.reduceEqDiff, Nat.reduceMul, Int.reduceToNat, reduceIte, Int.reduceLE, Int.reduceNeg]
     all_goals rfl
   | false =>
     refine W.go ?_
     refine W.cond rfl (fun _ => ?_) (fun h => by cases h)
     refine W.go ?_
     refine W.ret ⟨.inr rfl, by rfl, ?_⟩
     simp only [Tryz.f5, resA, resOne, toT, fin, exb, Nat.reduceAdd, Nat.reduceLeDiff, Nat.reduceEqDiff, Nat.reduceMul, Int.reduceToNat, reduceIte, Int.reduceLE, Int.reduceNeg]
     all_goals rfl
end V
end Go.Proofs.YthhpcjoaogmhbaaGreat
end
section
namespace Go.Proofs.YthhpcjoaogmhbaaGreat
namespace V
open Go.RowKit
def sD (v : Value) : Nat → A := upd (upd (fun _ => .top) DID (.defs [{ target := .fn (.func 7) #[], args := #[v] }])) (DID + 1) (.pinP v 2 0)
set_option maxHeartbeats 8000000 in
theorem check7_ok (p : Program) (hS : SmallC p.classes) (hB : SmallB p.classes) (hP : SmallP p) (hlen : p.classes.length ≤ 1048576) (m : Mem) : COk Tryz.prog 4 [.agg (cProg p)] m (.c (.int .i64 (checkR p))) := by
 have hcp : cProg p = [.sl (p.classes.map cClass), .sl (cStmts p.main)] := rfl
 have hchk := chk_ok p hS hlen
 have hR : checkR p = if chkErr (errP p) p.classes = 0 then (if progTB p = true then 0 else 70) else chkErr (errP p) p.classes := rfl
 rw [hR]
 clear hR
 obtain ⟨E, hE⟩ : ∃ E, chkErr (errP p) p.classes = E := ⟨_, rfl⟩
 rw [hE] at hchk ⊢
 refine ok_defer tab_ok Tryz.func4 (by kernel_rfl) rfl rfl (by rfl) (by rfl) (by rfl) (fun R hkeep => ?_) m
 repeat (first | refine W.seq ?_ | refine W.block ?_ | refine W.skip ?_ | refine W.exit ?_ | refine W.g ?_ zy31q32)
 refine W.bl ?_
 refine W.regionK tab_ok 0 (by decide) ?_
 refine runk_split 1 zy31q32 ?_
 refine runk_call rfl rfl rfl rfl rfl (by simp) cw1 (hchk _) ?_
 refine xe0 ?_
 refine W.go ?_
 refine W.cond rfl ?_ ?_
 ·intro h
  have he : E ≠ 0 := by simpa using h
  rw [if_neg he]
  refine W.go ?_
  refine W.ret (.inl ⟨.inr rfl, by rfl, ?_⟩)
  simp only [Tryz.f4, resA, resOne, toT, fin, exb, Nat.reduceAdd, Nat.reduceLeDiff, Nat.reduceEqDiff, Nat.reduceMul, Int.reduceToNat, reduceIte, Int.reduceLE, Int.reduceNeg]
 intro h
 obtain rfl : E = 0 := by simpa using h
 rw [if_pos rfl]
 have h16 : p.classes.length ≤ 16 := by
  unfold chkErr at hE
  split at hE
  ·split at hE
   ·cases hE
   ·omega
  ·rename_i h1; exact absurd hE h1
 have hg := good_of hE
 obtain ⟨-, mk⟩ := main_of hE
 have hmm := method_both p tNo tNo hS hB h16 hchk [] p.main (by simp) hP.main.1 hP.main.2.1 mk (by have := hP.main.2.2; simp only [List.length_nil]; omega)
 rw [← cStmts_map] at hmm
 simp only [List.map_nil] at hmm
 have hpd : progTB p = (methTB p.classes tNo tNo [] p.main && p.classes.all (classTB p.classes)) := rfl
 refine W.bl ?_
 refine W.deferOne (j := 2) rfl rfl rfl rfl rfl (by rfl) (fun v => ?_)
 -- what is handed back when it gives up
 have hbad : progTB p = false → ∀ (s : Nat → A) (mm : Mem), s 2 = .ptr 2 0 → resA tab ⟨s, upd mm 2 (some (.box 26 [.c (.int .i64 70)]))⟩ [.cell 2 26] = some (.c (.int .i64 (if progTB p = true then 0 else 70))) := by
  intro h s mm hs
  rw [h]
  simp only [resA, resOne, hs, upd_same]
  rfl
 cases hm0 : methTB p.classes tNo tNo [] p.main with
 | false =>
   have hpr : progTB p = false := by rw [hpd, hm0]; rfl
   rw [hm0] at hmm
   refine W.bl ?_
   refine W.panR (base := 0) (ch := mism) tab_ok 3 (by decide) rfl ?_
   refine runk_exec zy31q34 ?_
   exact ⟨_, (xs_call rfl rfl rfl rfl (by simp) (cvs_cons cv_refl (cvs_cons cv_refl (cvs_cons cv_refl (cvs_cons cv_nil cw1)))) (hmm _)), .inr ⟨v, 2, by rfl, by rfl, .inr ⟨rfl, _, 0, by rfl, hbad hpr _ _ zy31q43⟩⟩⟩
 | true =>
 rw [hm0] at hmm hpd
 rw [Bool.true_and] at hpd
 refine W.bl ?_
 refine W.regionK tab_ok 0 (by decide) ?_
 refine runk_split 3 zy31q34 ?_
 refine runk_call rfl rfl rfl rfl rfl (by simp) (cvs_cons cv_refl (cvs_cons cv_refl (cvs_cons cv_refl (cvs_cons cv_nil cw1)))) (hmm _) ?_
 refine runk_exec zy31q34 ?_
 repeat (first | refine W.seq ?_ | refine W.block ?_ | refine W.skip ?_ | refine W.exit ?_ | refine W.g ?_ zy31q34)
 refine W.loop (ι := Nat) (fun k => ⟨upd (upd (upd (upd (upd (sD v) 1 (.ptr 1 0)) 2 (.ptr 2 0)) 21 (.c (.sl (p.classes.map cClass)))) 22 (.c (.int .i64 p.classes.length))) 23 (.c (.int .i64 k)),
  upd (upd Mem.nil 1 (some (.box 25 [.c (.sl (p.classes.map cClass)), .c (.sl (cStmts p.main))]))) 2 (some (.box 26 [.c (.int .i64 0)]))⟩)
  (fun k => k ≤ p.classes.length ∧ (p.classes.take k).all (classTB p.classes) = true) (fun k => p.classes.length - k) 0 ?start ⟨Nat.zero_le _, rfl⟩ ?round
 case start =>
  refine le_mk ?sle ?mle ?swf ?mwf ?kept zy31q40
  case kept => exact kept_not hkeep
  case swf => repeat (first | exact swf_top _ | refine swf_upd ?_ (by simp [A.ids, upd_app]))
  case mwf => repeat (first | exact mwf_nil _ | refine mwf_upd ?_ zy31q46)
  case mle => repeat (first | exact mle_nil _ | exact mle_refl _ | refine mle_upd ?_ zy31q42)
  case sle => repeat (first | exact sle_top _ | refine sle_upd ?_ zy31q5)
 case round =>
  rintro k ⟨hk, hall⟩
  repeat (first | refine W.seq ?_ | refine W.block ?_ | refine W.skip ?_ | refine W.exit ?_ | refine W.g ?_ zy31q26)
  refine W.cond rfl ?_ ?_
  ·intro hlt
   simp only [decide_eq_true_eq, Int.ofNat_lt] at hlt
   obtain ⟨c, hx⟩ : ∃ c, p.classes[k]? = some c := ⟨_, List.getElem?_eq_getElem hlt⟩
   have hcm := List.mem_of_getElem? hx
   have hat := at_map (f := cClass) hx
   have hall1 : (p.classes.take (k + 1)).all (classTB p.classes) = classTB p.classes c := by
    rw [List.take_add_one, hx, List.all_append, hall]; simp
   have hcno : classTB p.classes c = false → progTB p = false := fun h => by
    rw [hpd, List.all_eq_false]
    exact ⟨c, hcm, by rw [h]; decide⟩
   have hcd : classTB p.classes c = (c.fields.all (fun s => knownR p.classes s.type) && c.methods.all fun m => knownR p.classes m.type && methTB p.classes c.name m.type m.params m.body) := rfl
   have hbd := fun x hx => (meth_body hE hcm (m := x) hx).2
   have hnd := hg.s0.params c hcm
   have hbs := hP.meth c hcm
   have hcs := hS c hcm
   rw [hcd] at hcno hall1
   clear hcd
   obtain ⟨cn, csu, cfs, cms⟩ := c
   simp only [cClass] at hat
   dsimp only at hcno hall1 hbd hbs hcs hnd
   repeat (first | refine W.seq ?_ | refine W.block ?_ | refine W.skip ?_ | refine W.exit ?_ | refine W.g ?_ (by simp only [exb, Nat.reduceAdd, Nat.reduceLeDiff, Nat.reduceEqDiff, Nat.reduceMul, Int.reduceToNat, reduceIte, Int.reduceLE, Int.reduceNeg, hat, sD, DID]; rfl))
   refine W.loop (ι := Nat) (fun j => ⟨upd (upd (upd (upd (upd (upd (upd (upd (upd (upd (sD v) 1 (.ptr 1 0)) 2 (.ptr 2 0)) 21 (.c (.sl (p.classes.map cClass)))) 22 (.c (.int .i64 p.classes.length))) 23 (.c (.int .i64 k))) 5 (.ptr 5 0)) 6 (.ptr 29 0)) 31 (.c (.sl (cfs.map cSlot)))) 32 (.c (.int .i64 cfs.length))) 33 (.c (.int .i64 j)),
    upd (upd (upd (upd Mem.nil 1 (some (.box 25 [.c (.sl (p.classes.map cClass)), .c (.sl (cStmts p.main))]))) 2 (some (.box 26 [.c (.int .i64 0)]))) 5 (some (.box 40 [.c (.str cn), .c (.str csu), .c (.sl (cfs.map cSlot)), .c (.sl (cms.map cMethod))]))) 29 (some (.box 43 [.c (.sl (p.classes.map cClass)), .c (.sl (cStmts p.main)), .c (.str tNo), .c (.str tNo), .c (.sl [])]))⟩)
    (fun j => j ≤ cfs.length ∧ (cfs.take j).all (fun s => knownR p.classes s.type) = true) (fun j => cfs.length - j) 0 ?start ⟨Nat.zero_le _, rfl⟩ ?round
   case start =>
    refine le_mk ?sle ?mle ?swf ?mwf ?kept zy31q40
    case kept => exact kept_not hkeep
    case swf => repeat (first | exact swf_top _ | refine swf_upd ?_ (by simp [A.ids, upd_app]))
    case mwf => repeat (first | exact mwf_nil _ | refine mwf_upd ?_ zy31q46)
    case mle => repeat (first | exact mle_nil _ | exact mle_refl _ | refine mle_upd ?_ zy31q42)
    case sle => repeat (first | exact sle_top _ | refine sle_upd ?_ zy31q5)
   case round =>
    rintro j ⟨hj, hfa⟩
    repeat (first | refine W.seq ?_ | refine W.block ?_ | refine W.skip ?_ | refine W.exit ?_ | refine W.g ?_ zy31q26)
    refine W.cond rfl ?_ ?_
    ·intro hlj
     simp only [decide_eq_true_eq, Int.ofNat_lt] at hlj
     obtain ⟨s, hs⟩ : ∃ s, cfs[j]? = some s := ⟨_, List.getElem?_eq_getElem hlj⟩
     have hfa1 : (cfs.take (j + 1)).all (fun s => knownR p.classes s.type) = knownR p.classes s.type := by
      rw [List.take_add_one, hs, List.all_append, hfa]; simp
     have hsat := at_map (f := cSlot) hs
     simp only [cSlot] at hsat
     have hkn := known_ok p.classes [.sl (cStmts p.main), .str tNo, .str tNo, .sl []] s.type (by omega)
     cases hks : knownR p.classes s.type with
     | false =>
       have hpr : progTB p = false := hcno (by
        have : cfs.all (fun s => knownR p.classes s.type) = false := by
         rw [List.all_eq_false]
         exact ⟨s, List.mem_of_getElem? hs, by rw [hks]; decide⟩
        rw [this]; rfl)
       rw [hks] at hkn
       repeat (first | refine W.seq ?_ | refine W.block ?_ | refine W.skip ?_ | refine W.exit ?_ | refine W.g ?_ zy31q21)
       refine W.bl ?_
       refine W.panR (base := 0) (ch := mism) tab_ok 4 (by decide) rfl ?_
       refine runk_split 3 zy31q26 ?_
       refine runk_callR rfl rfl rfl rfl rfl (by simp) (cvrs_cons (cvr_ptr rfl rfl) (cvrs_cons cvr_refl cvrs_nil)) (by rfl) (by rfl) hkn ?_
       refine runk_exec zy31q26 ?_
       exact ⟨_, (xs_call rfl rfl rfl rfl (by simp) cw1 (must_no _)), .inr ⟨v, 2, by rfl, by rfl, .inr ⟨rfl, _, 0, by rfl, hbad hpr _ _ zy31q43⟩⟩⟩
     | true =>
       rw [hks] at hkn hfa1
       repeat (first | refine W.seq ?_ | refine W.block ?_ | refine W.skip ?_ | refine W.exit ?_ | refine W.g ?_ zy31q21)
       refine W.bl ?_
       refine W.regionK tab_ok 0 (by decide) ?_
       refine runk_split 3 zy31q26 ?_
       refine runk_callR rfl rfl rfl rfl rfl (by simp) (cvrs_cons (cvr_ptr rfl rfl) (cvrs_cons cvr_refl cvrs_nil)) (by rfl) (by rfl) hkn ?_
       refine runk_split 0 zy31q26 ?_
       refine runk_call rfl rfl rfl rfl rfl (by simp) cw1 (must_yes _) ?_
       refine runk_exec zy31q26 ?_
       repeat (first | refine W.seq ?_ | refine W.block ?_ | refine W.skip ?_ | refine W.exit ?_ | refine W.g ?_ zy31q26)
       refine ⟨j + 1, ⟨hlj, hfa1⟩, by omega, ?_⟩
       refine le_mk ?sle ?mle ?swf ?mwf ?kept zy31q40
       case kept => exact kept_not hkeep
       case swf => repeat (first | exact swf_top _ | refine swf_upd ?_ (by simp [A.ids, upd_app]))
       case mwf => repeat (first | exact mwf_nil _ | refine mwf_upd ?_ zy31q46)
       case mle => repeat (first | exact mle_nil _ | exact mle_refl _ | refine mle_upd ?_ (by first | rfl | (simp only [upd_app, killM_app, Nat.reduceEqDiff, reduceIte, wrap_succ (show j + 1 < 9223372036854775808 by omega)]; done)))
       case sle => repeat (first | exact sle_top _ | refine sle_upd ?_ (by first | (simp only [upd_app, sD, DID, entry_zero, entry_succ, Nat.reduceEqDiff, Nat.reduceAdd, reduceIte, wrap_succ (show j + 1 < 9223372036854775808 by omega)]; done) | (simp only [upd_app, sD, DID, entry_zero, entry_succ, Nat.reduceEqDiff, Nat.reduceAdd, reduceIte, wrap_succ (show j + 1 < 9223372036854775808 by omega)]; rfl)))
    ·intro hge
     simp only [decide_eq_false_iff_not, Int.ofNat_lt] at hge
     obtain rfl : j = cfs.length := by omega
     rw [List.take_length] at hfa
     rw [hfa, Bool.true_and] at hcno hall1
     repeat (first | refine W.seq ?_ | refine W.block ?_ | refine W.skip ?_ | refine W.exit ?_ | refine W.g ?_ zy31q26)
     refine W.loop (ι := Nat) (fun i => ⟨upd (upd (upd (upd (upd (upd (upd (upd (upd (upd (sD v) 1 (.ptr 1 0)) 2 (.ptr 2 0)) 21 (.c (.sl (p.classes.map cClass)))) 22 (.c (.int .i64 p.classes.length))) 23 (.c (.int .i64 k))) 5 (.ptr 5 0)) 6 (.ptr 29 0)) 44 (.c (.sl (cms.map cMethod)))) 45 (.c (.int .i64 cms.length))) 46 (.c (.int .i64 i)),
      upd (upd (upd (upd Mem.nil 1 (some (.box 25 [.c (.sl (p.classes.map cClass)), .c (.sl (cStmts p.main))]))) 2 (some (.box 26 [.c (.int .i64 0)]))) 5 (some (.box 40 [.c (.str cn), .c (.str csu), .c (.sl (cfs.map cSlot)), .c (.sl (cms.map cMethod))]))) 29 (some (.box 43 [.c (.sl (p.classes.map cClass)), .c (.sl (cStmts p.main)), .c (.str tNo), .c (.str tNo), .c (.sl [])]))⟩)
      (fun i => i ≤ cms.length ∧ (cms.take i).all (fun m => knownR p.classes m.type && methTB p.classes cn m.type m.params m.body) = true) (fun i => cms.length - i) 0 ?start ⟨Nat.zero_le _, rfl⟩ ?round
     case start =>
      refine le_mk ?sle ?mle ?swf ?mwf ?kept zy31q40
      case kept => exact kept_not hkeep
      case swf => repeat (first | exact swf_top _ | refine swf_upd ?_ (by simp [A.ids, upd_app]))
      case mwf => repeat (first | exact mwf_nil _ | refine mwf_upd ?_ zy31q46)
      case mle => repeat (first | exact mle_nil _ | exact mle_refl _ | refine mle_upd ?_ zy31q42)
      case sle => repeat (first | exact sle_top _ | refine sle_upd ?_ zy31q5)
     case round =>
      rintro i ⟨hi, hma⟩
      repeat (first | refine W.seq ?_ | refine W.block ?_ | refine W.skip ?_ | refine W.exit ?_ | refine W.g ?_ zy31q26)
      refine W.cond rfl ?_ ?_
      ·intro hli
       simp only [decide_eq_true_eq, Int.ofNat_lt] at hli
       obtain ⟨mm, hmi⟩ : ∃ mm, cms[i]? = some mm := ⟨_, List.getElem?_eq_getElem hli⟩
       have hmm2 := List.mem_of_getElem? hmi
       have hma1 : (cms.take (i + 1)).all (fun m => knownR p.classes m.type && methTB p.classes cn m.type m.params m.body) = (knownR p.classes mm.type && methTB p.classes cn mm.type mm.params mm.body) := by
        rw [List.take_add_one, hmi, List.all_append, hma]; simp
       have hmno : (knownR p.classes mm.type && methTB p.classes cn mm.type mm.params mm.body) = false → progTB p = false := fun h => hcno (by
        rw [List.all_eq_false]
        exact ⟨mm, hmm2, by rw [h]; decide⟩)
       have by2 := hbd mm hmm2
       obtain ⟨bs1, bs2, bs3⟩ := hbs mm hmm2
       have hps := hcs.2.2 mm hmm2
       have hme := method_both p cn mm.type hS hB h16 hchk mm.params mm.body (hnd mm hmm2) bs1 bs2 by2 (by omega)
       have hkt := known_ok p.classes [.sl (cStmts p.main), .str tNo, .str tNo, .sl []] mm.type (by omega)
       have hmat := at_map (f := cMethod) hmi
       rw [← cStmts_map] at hme
       obtain ⟨mty, mnm, mps, mbd⟩ := mm
       simp only [cMethod] at hmat
       dsimp only at hma1 hmno hme hkt
       cases hkm : knownR p.classes mty with
       | false =>
         have hpr : progTB p = false := hmno (by rw [hkm]; rfl)
         rw [hkm] at hkt
         repeat (first | refine W.seq ?_ | refine W.block ?_ | refine W.skip ?_ | refine W.exit ?_ | refine W.g ?_ zy31q22)
         refine W.bl ?_
         refine W.panR (base := 0) (ch := mism) tab_ok 4 (by decide) rfl ?_
         refine runk_split 3 zy31q26 ?_
         refine runk_callR rfl rfl rfl rfl rfl (by simp) (cvrs_cons (cvr_ptr rfl rfl) (cvrs_cons cvr_refl cvrs_nil)) (by rfl) (by rfl) hkt ?_
         refine runk_exec zy31q26 ?_
         exact ⟨_, (xs_call rfl rfl rfl rfl (by simp) cw1 (must_no _)), .inr ⟨v, 2, by rfl, by rfl, .inr ⟨rfl, _, 0, by rfl, hbad hpr _ _ zy31q43⟩⟩⟩
       | true =>
         rw [hkm] at hkt hma1 hmno
         repeat (first | refine W.seq ?_ | refine W.block ?_ | refine W.skip ?_ | refine W.exit ?_ | refine W.g ?_ zy31q22)
         refine W.bl ?_
         refine W.regionK tab_ok 0 (by decide) ?_
         refine runk_split 3 zy31q26 ?_
         refine runk_callR rfl rfl rfl rfl rfl (by simp) (cvrs_cons (cvr_ptr rfl rfl) (cvrs_cons cvr_refl cvrs_nil)) (by rfl) (by rfl) hkt ?_
         refine runk_split 0 zy31q26 ?_
         refine runk_call rfl rfl rfl rfl rfl (by simp) cw1 (must_yes _) ?_
         refine runk_exec zy31q26 ?_
         refine W.bl ?_
         cases hmt : methTB p.classes cn mty mps mbd with
         | false =>
           have hpr : progTB p = false := hmno (by rw [hmt]; rfl)
           rw [hmt] at hme
           refine W.panR (base := 0) (ch := mism) tab_ok 9 (by decide) rfl ?_
           refine runk_exec zy31q26 ?_
           exact ⟨_, (xs_call rfl rfl rfl rfl (by simp) cw5 (hme _)), .inr ⟨v, 2, by rfl, by rfl, .inr ⟨rfl, _, 0, by rfl, hbad hpr _ _ zy31q43⟩⟩⟩
         | true =>
           rw [hmt] at hme hma1
           refine W.regionK tab_ok 0 (by decide) ?_
           refine runk_split 9 zy31q26 ?_
           refine runk_call rfl rfl rfl rfl rfl (by simp) cw5 (hme _) ?_
           refine runk_exec zy31q26 ?_
           repeat (first | refine W.seq ?_ | refine W.block ?_ | refine W.skip ?_ | refine W.exit ?_ | refine W.g ?_ zy31q26)
           refine ⟨i + 1, ⟨hli, hma1⟩, by omega, ?_⟩
           refine le_mk ?sle ?mle ?swf ?mwf ?kept zy31q40
           case kept => exact kept_not hkeep
           case swf => repeat (first | exact swf_top _ | refine swf_upd ?_ (by simp [A.ids, upd_app]))
           case mwf => repeat (first | exact mwf_nil _ | refine mwf_upd ?_ zy31q46)
           case mle => repeat (first | exact mle_nil _ | exact mle_refl _ | refine mle_upd ?_ (by first | rfl | (simp only [upd_app, killM_app, Nat.reduceEqDiff, reduceIte, wrap_succ (show i + 1 < 9223372036854775808 by omega)]; done)))
           case sle => repeat (first | exact sle_top _ | refine sle_upd ?_ (by first | (simp only [upd_app, sD, DID, entry_zero, entry_succ, Nat.reduceEqDiff, Nat.reduceAdd, reduceIte, wrap_succ (show i + 1 < 9223372036854775808 by omega)]; done) | (simp only [upd_app, sD, DID, entry_zero, entry_succ, Nat.reduceEqDiff, Nat.reduceAdd, reduceIte, wrap_succ (show i + 1 < 9223372036854775808 by omega)]; rfl)))
      ·intro hge
       simp only [decide_eq_false_iff_not, Int.ofNat_lt] at hge
       obtain rfl : i = cms.length := by omega
       rw [List.take_length] at hma
       repeat (first | refine W.seq ?_ | refine W.block ?_ | refine W.skip ?_ | refine W.exit ?_ | refine W.g ?_ zy31q26)
       refine ⟨k + 1, ⟨hlt, hall1.trans hma⟩, by omega, ?_⟩
       refine le_mk ?sle ?mle ?swf ?mwf ?kept zy31q40
       case kept => exact kept_not hkeep
       case swf => repeat (first | exact swf_top _ | refine swf_upd ?_ (by simp [A.ids, upd_app]))
       case mwf => repeat (first | exact mwf_nil _ | refine mwf_upd ?_ zy31q46)
       case mle => repeat (first | exact mle_nil _ | exact mle_refl _ | refine mle_upd ?_ (by first | rfl | (simp only [upd_app, killM_app, Nat.reduceEqDiff, reduceIte, wrap_succ (show k + 1 < 9223372036854775808 by omega)]; done)))
       case sle => repeat (first | exact sle_top _ | refine sle_upd ?_ (by first | (simp only [upd_app, sD, DID, entry_zero, entry_succ, Nat.reduceEqDiff, Nat.reduceAdd, reduceIte, wrap_succ (show k + 1 < 9223372036854775808 by omega)]; done) | (simp only [upd_app, sD, DID, entry_zero, entry_succ, Nat.reduceEqDiff, Nat.reduceAdd, reduceIte, wrap_succ (show k + 1 < 9223372036854775808 by omega)]; rfl)))
  ·intro hge
   simp only [decide_eq_false_iff_not, Int.ofNat_lt] at hge
   obtain rfl : k = p.classes.length := by omega
   rw [List.take_length] at hall
   rw [hall] at hpd
   rw [hpd, if_pos rfl]
   repeat (first | refine W.seq ?_ | refine W.block ?_ | refine W.skip ?_ | refine W.exit ?_ | refine W.g ?_ zy31q26)
   refine W.ret (.inr ⟨v, 2, by rfl, by rfl, .inl ⟨.inr rfl, ?_⟩⟩)
   simp only [Tryz.f4, resA, resOne, toT, fin, sD, DID, exb, Nat.reduceAdd, Nat.reduceLeDiff, Nat.reduceEqDiff, Nat.reduceMul, Int.reduceToNat, reduceIte, Int.reduceLE, Int.reduceNeg]
end V
end Go.Proofs.YthhpcjoaogmhbaaGreat
end
section
namespace Go.Proofs.YthhpcjoaogmhbaaGreat
namespace V
open Go.RowKit
def progR : Program := ⟨[], [⟨6, 0, tNo, tNo, [⟨2, 0, tNo, []⟩], [], []⟩]⟩
theorem progR_no : checkR progR = 70 := by decide +kernel
set_option maxHeartbeats 1000000 in
theorem lawPrograms_ok (p : Program) (hS : SmallC p.classes) (hB : SmallB p.classes) (hP : SmallP p) (hlen : p.classes.length ≤ 1048576) (m : Mem) : COk Tryz.prog 3 [.agg (cProg p)] m (.c (.bool true)) := by
 have h0 := check7_ok progR (fun c hc => by cases hc) (fun c hc => by cases hc) ⟨⟨by decide, by simp [progR, SmallSs, SmallS, SmallEs, SmallE], by decide⟩, fun c hc => by cases hc⟩ (by decide)
 rw [progR_no] at h0
 have hcr : cProg progR = [.sl [], .sl [[.int .i64 6, .int .i64 0, .str tNo, .str tNo, .sl [[.int .i64 2, .int .i64 0, .str tNo, .sl []]], .sl [], .sl []]]] := by simp [cProg, progR, cStmts, cStmt, cExprs, cExpr]
 rw [hcr] at h0
 have h1 := check7_ok p hS hB hP hlen
 have h2 := refCheck7_ok p hS hP hlen
 rw [← checkRD] at h2
 have hcp : cProg p = [.sl (p.classes.map cClass), .sl (cStmts p.main)] := rfl
 rw [hcp] at h1 h2 ⊢
 refine (ok_pure tab_ok Tryz.func3 (by kernel_rfl) rfl rfl (by rfl) (by rfl) (by rfl) (fun R hkeep => ?_) m)
 refine W.go ?_
 refine W.regionDK tab_ok 0 follows_mixed (by kernel_rfl) (by decide) ?_
 refine xs0 5 ?_
 refine runk_call rfl rfl rfl rfl rfl (by simp) cw1 (h0 _) ?_
 refine xs0 3 ?_
 refine runk_call rfl rfl rfl rfl rfl (by simp) cw1 (h1 _) ?_
 refine xs0 1 ?_
 refine runk_call rfl rfl rfl rfl rfl (by simp) cw1 (h2 _) ?_
 refine xe0 ?_
 exact W.ret ⟨.inr rfl, by rfl, (by simp only [Tryz.f3, resA, resOne, toT, fin, exb, Nat.reduceAdd, Nat.reduceLeDiff, Nat.reduceEqDiff, Nat.reduceMul, Int.reduceToNat, reduceIte, Int.reduceLE, Int.reduceNeg])⟩
end V
end Go.Proofs.YthhpcjoaogmhbaaGreat
end
section
namespace Go.Proofs.YthhpcjoaogmhbaaGreat
namespace V
open Go.RowKit
section
variable {H : Type} {enc : TypeId × Value → H} {w : World} {held : Bool}
theorem smallEs_of {N : Nat} : ∀ {l : List Expr}, (∀ x ∈ l, SmallE N x) → SmallEs N l
 | [], _ => by simp only [SmallEs]
 | x :: l, h => by simp only [SmallEs]; exact ⟨h x (by simp), smallEs_of fun y hy => h y (List.mem_cons_of_mem _ hy)⟩
theorem smallSs_of {N : Nat} : ∀ {l : List Stmt}, (∀ x ∈ l, SmallS N x) → SmallSs N l
 | [], _ => by simp only [SmallSs]
 | x :: l, h => by simp only [SmallSs]; exact ⟨h x (by simp), smallSs_of fun y hy => h y (List.mem_cons_of_mem _ hy)⟩
theorem expr_small {N : Nat} : ∀ (d n : Nat) (cs : List Value) (x : Expr) (z : DataW H × List MemPlace), RExpr d w (· < w.heap.size) cs x → DataW.trod enc Tryz.prog w 0 (fun _ => true) held n 30 cs = some z → Rows.uptoBulk z.1 ≤ N → SmallE N x
 | 0, _, _, _, _, h, _, _ => h.elim
 | d + 1, n, cs, ⟨k, nn, nm, kids⟩, z, ⟨kv, e1, _, _, _, h5⟩, h, hN => by
   subst e1
   obtain ⟨n3, y3, k3, b3⟩ := struct_bulk fieldsExpr (by simp) h (28, 3) (by simp)
   rw [cellsOf_one _ c_exprs _ _ _ rfl] at k3
   obtain ⟨l3, hall⟩ := slice_bulk Tryz.underlying28 c_expr (by decide) (fun cs y hy => by cases d with | zero => exact hy.elim | succ d => obtain ⟨_, rfl, -⟩ := hy; rfl) k3 h5
   simp only [SmallE]
   refine ⟨Nat.le_trans l3 (Nat.le_trans b3 hN), smallEs_of fun y hy => ?_⟩
   obtain ⟨n4, cs4, z4, q1, q2, q3⟩ := hall y hy
   exact expr_small d n4 cs4 y z4 q1 q2 (by omega)
theorem exprs_small {N d n : Nat} {v : Value} {l : List Expr} {z : DataW H × List MemPlace} (h : RSl 4 (RExpr d w (· < w.heap.size)) w (· < w.heap.size) v l) (k : DataW.trod enc Tryz.prog w 0 (fun _ => true) held n 28 [v] = some z) (hN : Rows.uptoBulk z.1 ≤ N) : l.length ≤ N ∧ SmallEs N l := by
 obtain ⟨l3, hall⟩ := slice_bulk Tryz.underlying28 c_expr (by decide) (fun cs y hy => by cases d with | zero => exact hy.elim | succ d => obtain ⟨_, rfl, -⟩ := hy; rfl) k h
 refine ⟨by omega, smallEs_of fun y hy => ?_⟩
 obtain ⟨n4, cs4, z4, q1, q2, q3⟩ := hall y hy
 exact expr_small d n4 cs4 y z4 q1 q2 (by omega)
theorem stmt_small {N : Nat} : ∀ (d n : Nat) (cs : List Value) (x : Stmt) (z : DataW H × List MemPlace), RStmt d w (· < w.heap.size) cs x → DataW.trod enc Tryz.prog w 0 (fun _ => true) held n 32 cs = some z → Rows.uptoBulk z.1 ≤ N → SmallS N x
 | 0, _, _, _, _, h, _, _ => h.elim
 | d + 1, n, cs, ⟨k, nn, ty, nm, es, th, el⟩, z, ⟨ev, tv, fv, e1, _, _, _, _, h6, h7, h8⟩, h, hN => by
   subst e1
   have hlen : ∀ cs y, RStmt d w (· < w.heap.size) cs y → cs.length = 7 := fun cs y hy => by cases d with | zero => exact hy.elim | succ d => obtain ⟨_, _, _, rfl, -⟩ := hy; rfl
   obtain ⟨n4, y4, k4, b4⟩ := struct_bulk fieldsStmt (by simp) h (28, 4) (by simp)
   obtain ⟨n5, y5, k5, b5⟩ := struct_bulk fieldsStmt (by simp) h (23, 5) (by simp)
   obtain ⟨n6, y6, k6, b6⟩ := struct_bulk fieldsStmt (by simp) h (23, 6) (by simp)
   rw [cellsOf_one _ c_exprs _ _ _ rfl] at k4
   rw [cellsOf_one _ c_stmts _ _ _ rfl] at k5 k6
   obtain ⟨q1, q2⟩ := exprs_small h6 k4 (Nat.le_trans b4 hN)
   obtain ⟨l5, a5⟩ := slice_bulk Tryz.underlying23 c_stmt (by decide) hlen k5 h7
   obtain ⟨l6, a6⟩ := slice_bulk Tryz.underlying23 c_stmt (by decide) hlen k6 h8
   simp only [SmallS]
   refine ⟨q1, q2, Nat.le_trans l5 (Nat.le_trans b5 hN), smallSs_of fun y hy => ?_, Nat.le_trans l6 (Nat.le_trans b6 hN), smallSs_of fun y hy => ?_⟩
   ·obtain ⟨n7, cs7, z7, r1, r2, r3⟩ := a5 y hy
    exact stmt_small d n7 cs7 y z7 r1 r2 (by omega)
   ·obtain ⟨n7, cs7, z7, r1, r2, r3⟩ := a6 y hy
    exact stmt_small d n7 cs7 y z7 r1 r2 (by omega)
theorem smallB_of {d fuel : Nat} {cs : List Value} {x : DataW H × List MemPlace} {p : Program} (hp : RProgram d w (· < w.heap.size) (.agg cs.toArray) p) (h : DataW.trod enc Tryz.prog w 0 (fun _ => true) held fuel 25 cs = some x) (hN : Rows.uptoBulk x.1 ≤ 1048576) : SmallB p.classes := by
 obtain ⟨cv, mv, e1, h1, -⟩ := hp
 have e2 : cs = [cv, mv] := by simpa using congrArg Array.toList (Value.agg.inj e1)
 subst e2
 obtain ⟨n1, y1, k1, b1⟩ := struct_bulk fieldsProgram (by simp) h (22, 0) (by simp)
 rw [cellsOf_one _ c_classes _ _ _ rfl] at k1
 obtain ⟨l1, hall⟩ := slice_bulk Tryz.underlying22 c_class (by decide) (fun cs y hy => by obtain ⟨_, _, rfl, -⟩ := hy; rfl) k1 h1
 intro c hc m hm
 obtain ⟨n2, cs2, y2, hc2, k2, b2⟩ := hall c hc
 obtain ⟨fv, mv2, rfl, -, -, hf, hmm⟩ := hc2
 obtain ⟨n4, y4, k4, b4⟩ := struct_bulk fieldsClass (by simp) k2 (38, 3) (by simp)
 rw [cellsOf_one _ c_methods _ _ _ rfl] at k4
 obtain ⟨l4, hall4⟩ := slice_bulk Tryz.underlying38 c_method (by decide) (fun cs y hy => by obtain ⟨_, _, rfl, -⟩ := hy; rfl) k4 hmm
 obtain ⟨n5, cs5, y5, hc5, k5, b5⟩ := hall4 m hm
 obtain ⟨pv, bv, rfl, -, -, -, hbody⟩ := hc5
 obtain ⟨n6, y6, k6, b6⟩ := struct_bulk fieldsMethod (by simp) k5 (23, 3) (by simp)
 rw [cellsOf_one _ c_stmts _ _ _ rfl] at k6
 obtain ⟨l6, a6⟩ := slice_bulk Tryz.underlying23 c_stmt (by decide) (fun cs y hy => by cases d with | zero => exact hy.elim | succ d => obtain ⟨_, _, _, rfl, -⟩ := hy; rfl) k6 hbody
 refine ⟨by omega, smallSs_of fun y hy => ?_⟩
 obtain ⟨n7, cs7, z7, r1, r2, r3⟩ := a6 y hy
 exact stmt_small d n7 cs7 y z7 r1 r2 (by omega)
end
end V
end Go.Proofs.YthhpcjoaogmhbaaGreat
end
section
namespace Go.Proofs.YthhpcjoaogmhbaaGreat
namespace V
open Go.RowKit
section
variable {H : Type} {enc : TypeId × Value → H} {w : World} {held : Bool}
theorem sum_le {α β : Type} (f : α → Nat) (g : β → Nat) : ∀ (l : List α) (e : List β), l.length ≤ e.length → (∀ (i : Nat) x y, l[i]? = some x → e[i]? = some y → f x ≤ g y) → (l.map f).sum ≤ (e.map g).sum
 | [], _, _, _ => by simp
 | x :: l, [], h, _ => by simp at h
 | x :: l, y :: e, h, hp => by
   have h1 := hp 0 x y rfl rfl
   have h2 := sum_le f g l e (by simpa using h) (fun i a b ha hb => hp (i + 1) a b (by simpa using ha) (by simpa using hb))
   simp only [List.map_cons, List.sum_cons]
   omega
theorem bulk_sum : ∀ l : List (DataW H), Rows.uptoBulkAll l = (l.map Rows.uptoBulk).sum
 | [] => by simp [Rows.uptoBulkAll]
 | x :: l => by simp [Rows.uptoBulkAll, bulk_sum l]
theorem slice_sum {α : Type} {P : Go.Program} {t e : TypeId} {sz fuel : Nat} {v : Value} {x : DataW H × List MemPlace} {R : List Value → α → Prop} {J : Nat → Prop} {l : List α} (cnt : α → Nat) (ht : P.underlying t = some (.slice e)) (hsz : P.cellsOf e = sz) (hpos : 0 < sz)
 (hlen : ∀ cs y, R cs y → cs.length = sz) (h : DataW.trod enc P w 0 (fun _ => true) held fuel t [v] = some x) (hR : RSl sz R w J v l) (hc : ∀ y ∈ l, ∀ n cs z, R cs y → DataW.trod enc P w 0 (fun _ => true) held n e cs = some z → cnt y ≤ Rows.uptoBulk z.1) :
 (l.map cnt).sum + 1 ≤ Rows.uptoBulk x.1 := by
 obtain ⟨a, n, cap, rfl, hn, -, -, hel⟩ := hR
 rcases DataW.trod_slice ht h with ⟨e1, rfl⟩ | ⟨a', len, cap', elems, rest, m, -, e1, hxe, -, -, -, hlen', hall, -, -⟩
 ·simp only [List.cons.injEq, Value.slice.injEq, and_true] at e1
  obtain ⟨-, rfl, -⟩ := e1
  obtain rfl : l = [] := List.length_eq_zero_iff.1 hn
  have := bulk_one (H := H) DataW.nil
  simpa using this
 ·simp only [List.cons.injEq, Value.slice.injEq, and_true] at e1
  obtain ⟨rfl, rfl, rfl⟩ := e1
  subst hxe
  have hb : Rows.uptoBulkAll (elems.map (·.1)) + 1 ≤ Rows.uptoBulk (DataW.slice (elems.map (·.1)) (rest.map (·.1))) := by simp only [Rows.uptoBulk]; omega
  refine Nat.le_trans (Nat.succ_le_succ ?_) hb
  rw [bulk_sum, List.map_map]
  refine sum_le cnt _ l elems (by omega) fun i y z hi hz => ?_
  have hil := (List.getElem?_eq_some_iff.1 hi).1
  obtain ⟨b, off, cs, ea, -, hcc, hr⟩ := hel i y hi
  cases ea
  have h1 := hall i (by omega)
  rw [hsz, hz] at h1
  cases hcell : w.cells? 0 ((⟨b, off, none⟩ : Addr).add (i * sz)) sz with
  | none => rw [hcell] at h1; simp at h1
  | some cs' =>
    rw [hcell] at h1
    have h1' : DataW.trod enc P w 0 (fun _ => true) held m e cs' = some z := by simpa using h1
    obtain ⟨_, hlen2, hcs⟩ := World.cells?_some hcell
    have : cs = cs' := cells_same hcc (fun j hj => by
     have := hcs j (by omega)
     rw [← this]
     congr 1
     have h3 : ∀ (o k : Nat), (⟨b, o, none⟩ : Addr).add k = ⟨b, o + k, none⟩ := fun o k => by
      unfold Addr.add
      by_cases hk : k = 0
      ·subst hk; rfl
      ·simp [hk]
     rw [h3, h3]) (by rw [hlen _ _ hr, hlen2])
    subst this
    exact hc y (List.mem_of_getElem? hi) m cs z hr h1'
theorem two_le {a b : Nat} (hab : a < b) : ∀ {l : List (DataW H)} {x y : DataW H}, l[a]? = some x → l[b]? = some y → Rows.uptoBulk x + Rows.uptoBulk y ≤ Rows.uptoBulkAll l
 | l, x, y, ha, hb => by
   induction l generalizing a b with
   | nil => simp at ha
   | cons z l ih =>
     simp only [Rows.uptoBulkAll]
     cases a with
     | zero =>
       cases ha
       cases b with
       | zero => omega
       | succ b =>
         have := bulk_mem (List.mem_of_getElem? (by simpa using hb : l[b]? = some y))
         omega
     | succ a =>
       cases b with
       | zero => omega
       | succ b =>
         have := ih (a := a) (b := b) (by omega) (by simpa using ha) (by simpa using hb)
         omega
theorem struct_two {P : Go.Program} {t : TypeId} {fl : List (TypeId × Nat)} {fuel : Nat} {cs : List Value} {x : DataW H × List MemPlace} {a b : Nat} (hab : a < b) {ka kb : TypeId × Nat}
 (hf : (P.underlying t).map (fun d => match d with | .struct fs => fs.toList.map (fun f => (f.type, f.offset)) | _ => []) = some fl) (ha : fl[a]? = some ka) (hb : fl[b]? = some kb)
 (h : DataW.trod enc P w 0 (fun _ => true) held fuel t cs = some x) : ∃ n y z, DataW.trod enc P w 0 (fun _ => true) held n ka.1 ((cs.drop ka.2).take (P.cellsOf ka.1)) = some y ∧ DataW.trod enc P w 0 (fun _ => true) held n kb.1 ((cs.drop kb.2).take (P.cellsOf kb.1)) = some z ∧ Rows.uptoBulk y.1 + Rows.uptoBulk z.1 + 1 ≤ Rows.uptoBulk x.1 := by
 cases hu : P.underlying t with
 | none => rw [hu] at hf; simp at hf
 | some d =>
   rw [hu] at hf
   simp only [Option.map_some, Option.some.injEq] at hf
   cases d with
   | struct fs =>
     simp only at hf
     obtain ⟨xs, n, hfu, hxe, hl, hlen, hall⟩ := DataW.trod_struct hu h
     have one : ∀ {i : Nat} {k : TypeId × Nat}, fl[i]? = some k → ∃ y, xs[i]? = some y ∧ DataW.trod enc P w 0 (fun _ => true) held n k.1 ((cs.drop k.2).take (P.cellsOf k.1)) = some y := fun {i k} hk => by
      rw [← hf, List.getElem?_map] at hk
      cases hfi : fs.toList[i]? with
      | none => rw [hfi] at hk; cases hk
      | some f =>
        rw [hfi] at hk
        cases hk
        have hi' : fs[i]? = some f := by rw [← Array.getElem?_toList]; exact hfi
        have := hall i f hi'
        have hlt : i < xs.length := by rw [hlen]; exact (Array.getElem?_eq_some_iff.1 hi').1
        exact ⟨xs[i], List.getElem?_eq_getElem hlt, by simpa [List.getElem?_eq_getElem hlt] using this⟩
     obtain ⟨y, hy, ty⟩ := one ha
     obtain ⟨z, hz, tz⟩ := one hb
     refine ⟨n, y, z, ty, tz, ?_⟩
     have := two_le hab (l := xs.map (·.1)) (x := y.1) (y := z.1) (by rw [List.getElem?_map, hy]; rfl) (by rw [List.getElem?_map, hz]; rfl)
     subst hxe
     simp only [Rows.uptoBulk]
     omega
   | _ => simp only at hf; subst hf; simp at ha
theorem cntSs_sum : ∀ l : List Stmt, cntSs l = (l.map cntS).sum
 | [] => by simp [cntSs]
 | x :: l => by simp only [cntSs, List.map_cons, List.sum_cons, cntSs_sum l]
theorem stmt_cnt : ∀ (d n : Nat) (cs : List Value) (x : Stmt) (z : DataW H × List MemPlace), RStmt d w (· < w.heap.size) cs x → DataW.trod enc Tryz.prog w 0 (fun _ => true) held n 32 cs = some z → cntS x ≤ Rows.uptoBulk z.1
 | 0, _, _, _, _, h, _ => h.elim
 | d + 1, n, cs, ⟨k, nn, ty, nm, es, th, el⟩, z, ⟨ev, tv, fv, e1, _, _, _, _, h6, h7, h8⟩, h => by
   subst e1
   have hlen : ∀ cs y, RStmt d w (· < w.heap.size) cs y → cs.length = 7 := fun cs y hy => by cases d with | zero => exact hy.elim | succ d => obtain ⟨_, _, _, rfl, -⟩ := hy; rfl
   obtain ⟨n5, y5, y6, k5, k6, b56⟩ := struct_two (a := 5) (b := 6) (by decide) fieldsStmt rfl rfl h
   rw [cellsOf_one _ c_stmts _ _ _ rfl] at k5 k6
   have c5 : (th.map cntS).sum + 1 ≤ Rows.uptoBulk y5.1 := slice_sum cntS Tryz.underlying23 c_stmt (by decide) hlen k5 h7 (fun y _ n cs z hr ht => stmt_cnt d n cs y z hr ht)
   have c6 : (el.map cntS).sum + 1 ≤ Rows.uptoBulk y6.1 := slice_sum cntS Tryz.underlying23 c_stmt (by decide) hlen k6 h8 (fun y _ n cs z hr ht => stmt_cnt d n cs y z hr ht)
   simp only [cntS, cntSs_sum]
   omega
theorem stmts_cnt {d n : Nat} {v : Value} {l : List Stmt} {z : DataW H × List MemPlace} (h : RStmts d w (· < w.heap.size) v l) (k : DataW.trod enc Tryz.prog w 0 (fun _ => true) held n 23 [v] = some z) (hN : Rows.uptoBulk z.1 ≤ 1048576) : l.length ≤ 1048576 ∧ SmallSs 1048576 l ∧ cntSs l ≤ 1048576 := by
 have hlen : ∀ cs y, RStmt d w (· < w.heap.size) cs y → cs.length = 7 := fun cs y hy => by cases d with | zero => exact hy.elim | succ d => obtain ⟨_, _, _, rfl, -⟩ := hy; rfl
 obtain ⟨l5, a5⟩ := slice_bulk Tryz.underlying23 c_stmt (by decide) hlen k h
 have c5 := slice_sum cntS Tryz.underlying23 c_stmt (by decide) hlen k h (fun y _ n cs z hr ht => stmt_cnt d n cs y z hr ht)
 rw [← cntSs_sum] at c5
 refine ⟨by omega, smallSs_of fun y hy => ?_, by omega⟩
 obtain ⟨n7, cs7, z7, r1, r2, r3⟩ := a5 y hy
 exact stmt_small d n7 cs7 y z7 r1 r2 (by omega)
theorem smallP_of {d fuel : Nat} {cs : List Value} {x : DataW H × List MemPlace} {p : Program} (hp : RProgram d w (· < w.heap.size) (.agg cs.toArray) p) (h : DataW.trod enc Tryz.prog w 0 (fun _ => true) held fuel 25 cs = some x) (hN : Rows.uptoBulk x.1 ≤ 1048576) : SmallP p := by
 obtain ⟨cv, mv, e1, h1, hm⟩ := hp
 have e2 : cs = [cv, mv] := by simpa using congrArg Array.toList (Value.agg.inj e1)
 subst e2
 obtain ⟨n0, y0, k0, b0⟩ := struct_bulk fieldsProgram (by simp) h (23, 1) (by simp)
 rw [cellsOf_one _ c_stmts _ _ _ rfl] at k0
 obtain ⟨n1, y1, k1, b1⟩ := struct_bulk fieldsProgram (by simp) h (22, 0) (by simp)
 rw [cellsOf_one _ c_classes _ _ _ rfl] at k1
 obtain ⟨l1, hall⟩ := slice_bulk Tryz.underlying22 c_class (by decide) (fun cs y hy => by obtain ⟨_, _, rfl, -⟩ := hy; rfl) k1 h1
 refine ⟨stmts_cnt hm k0 (by omega), fun c hc m hm => ?_⟩
 obtain ⟨n2, cs2, y2, hc2, k2, b2⟩ := hall c hc
 obtain ⟨fv, mv2, rfl, -, -, hf, hmm⟩ := hc2
 obtain ⟨n4, y4, k4, b4⟩ := struct_bulk fieldsClass (by simp) k2 (38, 3) (by simp)
 rw [cellsOf_one _ c_methods _ _ _ rfl] at k4
 obtain ⟨l4, hall4⟩ := slice_bulk Tryz.underlying38 c_method (by decide) (fun cs y hy => by obtain ⟨_, _, rfl, -⟩ := hy; rfl) k4 hmm
 obtain ⟨n5, cs5, y5, hc5, k5, b5⟩ := hall4 m hm
 obtain ⟨pv, bv, rfl, -, -, -, hbody⟩ := hc5
 obtain ⟨n6, y6, k6, b6⟩ := struct_bulk fieldsMethod (by simp) k5 (23, 3) (by simp)
 rw [cellsOf_one _ c_stmts _ _ _ rfl] at k6
 exact stmts_cnt hbody k6 (by omega)
end
end V
end Go.Proofs.YthhpcjoaogmhbaaGreat
end
section
namespace Go.Proofs.YthhpcjoaogmhbaaGreat
open Go.ChangeShapes Go.WideShapes Go.ChangeAt Go.RowKit
open Go.ChangeMaps (open_string shut_string)
open V
theorem checkPrograms_met (os : Os) : laidMet Tryz.prog Rows.checkProgramsUptoRow.laid ((World.holding Tryz.prog os ⟨#[], #[], []⟩).forCall (fun _ _ => 0) ⟨#[], #[.agg #[.slice none 0 0, .slice none 0 0]], []⟩).memory :=
 laidMet_of_run' 8 (by kernel_rfl) (by kernel_rfl)
theorem checkPrograms_reads (os : Os) {H : Type} (enc : TypeId × Value → H) : ∃ places, DataW.whole enc Tryz.prog ((World.holding Tryz.prog os ⟨#[], #[], []⟩).forCall (fun _ _ => 0) ⟨#[], #[.agg #[.slice none 0 0, .slice none 0 0]], []⟩).memory Tryz.f3.params.toList Rows.checkProgramsSpec.vars false (#[.agg #[.slice none 0 0, .slice none 0 0]] : Array Value).toList 8 = some ([.agg [.nil, .nil]], [], places) :=
 ⟨[], by kernel_rfl⟩
set_option maxRecDepth 100000 in
set_option maxHeartbeats 2000000 in
theorem checkPrograms_lifted (os : Os) (started : os.Started) (H : Type) (enc : TypeId × Value → H) (F : Stop.Interp) :
 ReturnsInHanded {} Tryz.checked os 3 .any ((Rows.OpenSpec.upto Rows.checkProgramsSpec).preRow enc Tryz.prog Tryz.f3 Rows.checkProgramsUptoRow.domain false Rows.checkProgramsUptoRow.laid) (((Rows.OpenSpec.upto Rows.checkProgramsSpec).at F).post enc Tryz.prog Tryz.f3 false true false false) := by
 obtain ⟨places, hx⟩ := checkPrograms_reads os enc
 refine returnsInHanded_of_row (C := Tryz.checked) (s := Rows.OpenSpec.upto Rows.checkProgramsSpec) own started (by kernel_rfl) Tryz.func3
  (witness_row_at (enc := enc) (C := Tryz.checked) false (World.holding Tryz.prog os ⟨#[], #[], []⟩) #[.agg #[.slice none 0 0, .slice none 0 0]] rfl (by kernel_rfl) (by kernel_rfl) (by kernel_rfl)
    (OpenSpec.preRow_of_cond 8 hx (by kernel_rfl) (fun k hk => by cases hk; rfl) (by kernel_rfl) (checkPrograms_met os))) ?_
 intro W base args ds gs before hval0 hW _ hcond hsz0 _ hsh _
 have hbulk : Rows.uptoBulkAll (ds ++ gs) ≤ 1048576 := of_decide_eq_true (hcond _ rfl)
 clear hcond
 have hval : ∀ (j : Nat) t v, Tryz.f3.params[j]? = some t → args[j]? = some v → Value.okWide Tryz.prog W .any base t v := hval0
 have hW' := hW
 obtain ⟨p, q, hA0, hV, rfl, hfz, hnd⟩ := hW
 have hA : DataW.TrodAll enc Tryz.prog W 0 (fun _ => true) true Tryz.f3.params.toList args.toList ds p := hA0
 have hsz : ∀ n ∈ DataW.weightsEach Tryz.prog (Tryz.f3.params.toList ++ Rows.checkProgramsSpec.plain.varTypes Tryz.prog) (ds ++ gs), n ≤ reachBytes := fun n hn => of_decide_eq_true (List.all_eq_true.1 hsz0 n hn)
 rw [Tryz.params3] at hA hval hsz
 clear hsz0
 obtain ⟨v0, vs0, d0, ds0, p0, q0, hargs, rfl, rfl, h0, r0⟩ := trodAll_cons hA
 obtain ⟨rfl, rfl, rfl⟩ := trodAll_nil r0
 obtain rfl : args = #[v0] := by cases args; simp_all
 obtain ⟨rfl, rfl⟩ := trodVars_none hV
 clear hA0 hval0
 simp only [List.append_nil] at hW'
 have k0 := h0
 have lt0 : ∀ x ∈ p0, x.block < W.heap.size := by obtain ⟨m, hm⟩ := k0; exact DataW.trod_lt m _ _ _ hm
 have fit0 : Fits Tryz.prog 25 d0 := fun n hn => hsz n (DataW.weights_mem_each (j := 0) rfl rfl n hn)
 have hG : GlobOk W := cell_of_shapedOpen_int (zero := #[.int .i64 0]) (t := 3) hsh (of_decide_eq_true (by kernel_rfl)) (by kernel_rfl) rfl (by kernel_rfl) (by kernel_rfl) Tryz.underlying3
 obtain ⟨cs0, rfl, -⟩ := okWide_struct Tryz.underlying25 (hval 0 25 v0 rfl rfl)
 obtain ⟨e0, g0, w0⟩ := read_program fit0 h0 ⟨cs0, rfl⟩
 obtain ⟨n0, hn0⟩ := h0
 obtain ⟨hlen, hS⟩ := small_of (cs := cs0.toList) (N := 1048576) (x := (d0, p0)) (by simpa using w0) hn0 (Nat.le_trans (bulk_mem (by simp)) hbulk)
 have hBo := smallB_of (cs := cs0.toList) (x := (d0, p0)) (by simpa using w0) hn0 (Nat.le_trans (bulk_mem (by simp)) hbulk)
 have hPo := smallP_of (cs := cs0.toList) (x := (d0, p0)) (by simpa using w0) hn0 (Nat.le_trans (bulk_mem (by simp)) hbulk)
 refine (cok_true (vals := [_]) (lawPrograms_ok g0 hS hBo hPo hlen _) hG (fun B => ⟨rv_prog w0, trivial⟩)).mono fun e W' ⟨he, bel⟩ => ?_
 subst he
 exact ⟨_, rfl, _, _, _, [], _, [], hW', trodAll_mk1 (shut_bool Tryz.underlying4 _), trodAll_cons_mk (Below.trod laidOut (by kernel_rfl) (of_decide_eq_true (by kernel_rfl)) k0 bel lt0) trodAll_mk0, rfl, bel.frame _, fun h => by cases h⟩
theorem checkPrograms_holds : Rows.CheckProgramsUptoSaid :=
 OpenClaim.holds_of_cond 3 Tryz.f3 rfl rfl rfl rfl rfl rfl rfl ⟨rfl, rfl, rfl, rfl, rfl⟩ rfl rfl rfl rfl rfl (by kernel_rfl) Tryz.func3 (by kernel_rfl)
  (of_decide_eq_true (by kernel_rfl)) (by unfold Func.isWrapper; first | (rw [if_pos (by decide +kernel)]; kernel_rfl) | (rw [if_neg (by decide +kernel)]; exact ⟨rfl, rfl⟩))
  (fun os started H enc _ F => by rw [OpenClaim.pre_eq_preRow]; exact checkPrograms_lifted os started H enc F)
end Go.Proofs.YthhpcjoaogmhbaaGreat
end
