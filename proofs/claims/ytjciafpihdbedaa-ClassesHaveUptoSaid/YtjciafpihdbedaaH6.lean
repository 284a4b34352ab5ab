/- Joined by my own program, in build order: Cmth, Have, Sslt, Claw4, Bulk2, LawHave. -/
import Derived.Test.YtjciafpihdbedaaH5
import Derived.Test.YtjciafpihdbedaaH2
import Derived.Laws.StructEq
import Derived.Deep.QuietTactic
import Derived.BigQuiet
import Derived.Test.YtjciafpihdbedaaH3
set_option linter.unusedVariables false
set_option linter.unusedSimpArgs false
section
set_option linter.unusedVariables false
set_option linter.unusedSimpArgs false
namespace Go.Proofs.Ytjciafpihdbedaa
namespace V
open Go.RowKit
theorem clonePar (l : List Slot) (hl : l.length ≤ 1048576) (m : Mem) : COk Try.prog 36 [.c (.sl (l.map cSlot))] m (.c (.sl (l.map cSlot))) :=
  clone_ok Try.laysClone36 slotInfo (by decide) (enters_of Try.func36 (by kernel_rfl) rfl) (l.map cSlot) (fun x hx => by obtain ⟨y, -, rfl⟩ := List.mem_map.1 hx; rfl) (by rw [List.length_map]; omega) m
def methAt (cs : List Class) (n : ByteArray) (x : Nat × Nat) : Option (Method × ByteArray) := match cs[x.2]? with | some k => (k.methods.find? (methIs n)).map (·, k.name) | none => none
def methUp (cs : List Class) (n : ByteArray) (l : List (Nat × Nat)) : Option (Method × ByteArray) := l.findSome? (methAt cs n)
def methodR (E : Int) (cs : List Class) (cn n : ByteArray) : Option (Method × ByteArray) := if E = 0 then methUp cs n (upX cs (cs.length + 1) 0 cn) else none
def SmallB (cs : List Class) : Prop := ∀ c ∈ cs, ∀ m ∈ c.methods, m.body.length ≤ 1048576 ∧ SmallSs 1048576 m.body
theorem find_at {α : Type} {f : α → Bool} {l : List α} {k : Nat} {x : α} (h0 : (l.take k).find? f = none) (hx : l[k]? = some x) (hr : f x = true) : l.find? f = some x := by
  obtain ⟨h1, h2⟩ := List.getElem?_eq_some_iff.1 hx
  have e : l = l.take k ++ x :: l.drop (k + 1) := by rw [← h2, ← List.drop_eq_getElem_cons h1, List.take_append_drop]
  rw [e, List.find?_append, h0]
  simp [hr]
theorem findSome_at {α β : Type} {f : α → Option β} {l : List α} {k : Nat} {x : α} {r : β} (h0 : (l.take k).findSome? f = none) (hx : l[k]? = some x) (hr : f x = some r) : l.findSome? f = some r := by
  obtain ⟨h1, h2⟩ := List.getElem?_eq_some_iff.1 hx
  have e : l = l.take k ++ x :: l.drop (k + 1) := by rw [← h2, ← List.drop_eq_getElem_cons h1, List.take_append_drop]
  rw [e, List.findSome?_append, h0]
  simp [hr]
def memM (cs : List Class) (mn : C) (n : ByteArray) (c6 : List C) (nm : ByteArray) (b : Bool) : Mem :=
  upd (upd (upd (upd (upd Mem.nil 3 (some (.box 25 [.c (.sl (cs.map cClass)), .c mn]))) 5 (some (.box 9 [.c (.str n)]))) 6 (some (.box 40 (c6.map A.c)))) 7 (some (.box 9 [.c (.str nm)]))) 8 (some (.box 4 [.c (.bool b)]))
def slotM : Nat → A := upd (upd (upd (upd (upd (fun _ => .top) 3 (.ptr 3 0)) 5 (.ptr 5 0)) 6 (.ptr 6 0)) 7 (.ptr 7 0)) 8 (.ptr 8 0)
set_option maxRecDepth 100000 in
set_option maxHeartbeats 4000000 in
theorem methodP_ok (p : Program) (E : Int) (cn n : ByteArray) (hS : SmallC p.classes) (hB : SmallB p.classes) (hlen : p.classes.length ≤ 1000000000) (hchk : ∀ m, COk Try.prog 9 [.agg (cProg p)] m (.c (.int .i64 E))) (m : Mem) :
    COk Try.prog 16 [.agg (cProg p), .c (.str cn), .c (.str n)] m (.tup (methodC (methodR E p.classes cn n))) := by
  obtain ⟨cs, mn'⟩ := p
  dsimp only at hS hB hlen hchk ⊢
  generalize hmn : C.sl (cStmts mn') = mn
  have hpr : cProg ⟨cs, mn'⟩ = [.sl (cs.map cClass), mn] := by rw [← hmn]; rfl
  rw [hpr] at hchk ⊢
  refine (ok_pureM tab_ok Try.func16 (by kernel_rfl) rfl rfl (by rfl) (by rfl) (by rfl) (fun R hkeep => ?_) m)
  repeat (first | refine W.seq ?_ | refine W.block ?_ | refine W.skip ?_ | refine W.exit ?_ | refine W.region tab_ok 0 (by decide) (exec_run (by simp only [exec, stepQ, wantA, yieldA, kind, qv, qv1, qv2, stO, adrId, dataC, replC, eqNil, binNil, shiftInt, A.down, A1.up, downs, toR, ev, putS, rowO, ofConst, cellsA, cellsC, asC, asCs, ld, ldR, bin, binInt, binStr, binBool, sliceOf, bndOf, repl, fillC, zeroC, chunks, ptrIds, tabs, upd_app, mem_nil_app, entry_zero, entry_succ, entry_nil, top_app, maxStr, ByteArray.size, A.kill, O.kill, killS_app, killM_app, Nat.reduceAdd, Nat.reduceLeDiff, Nat.reduceEqDiff, Nat.reduceMul, Int.reduceToNat, reduceIte, wf_i64, Int.reduceLE, Int.reduceNeg, beq_self_eq_true, decide_true, decide_false, ybeq_some, ybeq_none, beqT, beqF, empty_toList, exs]; rfl)) ?_)
  refine W.regionK tab_ok 0 (by decide) ?_
  refine runk_split 1 (by simp only [exec, stepQ, wantA, yieldA, kind, qv, qv1, qv2, stO, adrId, dataC, replC, eqNil, binNil, shiftInt, A.down, A1.up, downs, toR, ev, putS, rowO, ofConst, cellsA, cellsC, asC, asCs, ld, ldR, bin, binInt, binStr, binBool, sliceOf, bndOf, repl, fillC, zeroC, chunks, ptrIds, tabs, upd_app, mem_nil_app, entry_zero, entry_succ, entry_nil, top_app, maxStr, ByteArray.size, A.kill, O.kill, killS_app, killM_app, Nat.reduceAdd, Nat.reduceLeDiff, Nat.reduceEqDiff, Nat.reduceMul, Int.reduceToNat, reduceIte, wf_i64, Int.reduceLE, Int.reduceNeg, beq_self_eq_true, decide_true, decide_false, ybeq_some, ybeq_none, beqT, beqF, empty_toList, exs]; rfl) ?_
  refine runk_call rfl rfl rfl rfl rfl (by simp) (cvs_cons cv_refl cvs_nil) (hchk _) ?_
  refine runk_exec (by simp only [exec, stepQ, wantA, yieldA, kind, qv, qv1, qv2, stO, adrId, dataC, replC, eqNil, binNil, shiftInt, A.down, A1.up, downs, toR, ev, putS, rowO, ofConst, cellsA, cellsC, asC, asCs, ld, ldR, bin, binInt, binStr, binBool, sliceOf, bndOf, repl, fillC, zeroC, chunks, ptrIds, tabs, upd_app, mem_nil_app, entry_zero, entry_succ, entry_nil, top_app, maxStr, ByteArray.size, A.kill, O.kill, killS_app, killM_app, Nat.reduceAdd, Nat.reduceLeDiff, Nat.reduceEqDiff, Nat.reduceMul, Int.reduceToNat, reduceIte, wf_i64, Int.reduceLE, Int.reduceNeg, beq_self_eq_true, decide_true, decide_false, ybeq_some, ybeq_none, beqT, beqF, empty_toList, exs]; rfl) ?_
  refine W.cond rfl ?_ ?_
  · intro h
    have he : E ≠ 0 := by simpa using h
    repeat (first | refine W.seq ?_ | refine W.block ?_ | refine W.skip ?_ | refine W.exit ?_ | refine W.region tab_ok 0 (by decide) (exec_run (by simp only [exec, stepQ, wantA, yieldA, kind, qv, qv1, qv2, stO, adrId, dataC, replC, eqNil, binNil, shiftInt, A.down, A1.up, downs, toR, ev, putS, rowO, ofConst, cellsA, cellsC, asC, asCs, ld, ldR, bin, binInt, binStr, binBool, sliceOf, bndOf, repl, fillC, zeroC, chunks, ptrIds, tabs, upd_app, mem_nil_app, entry_zero, entry_succ, entry_nil, top_app, maxStr, ByteArray.size, A.kill, O.kill, killS_app, killM_app, Nat.reduceAdd, Nat.reduceLeDiff, Nat.reduceEqDiff, Nat.reduceMul, Int.reduceToNat, reduceIte, wf_i64, Int.reduceLE, Int.reduceNeg, beq_self_eq_true, decide_true, decide_false, ybeq_some, ybeq_none, beqT, beqF, empty_toList, exs]; rfl)) ?_)
    refine W.ret ⟨.inr rfl, .inl ⟨rfl, ?_⟩⟩
    simp only [Try.f16, resA, resOne, toT, fin, exec, stepQ, wantA, yieldA, kind, qv, qv1, qv2, stO, adrId, dataC, replC, eqNil, binNil, shiftInt, A.down, A1.up, downs, toR, ev, putS, rowO, ofConst, cellsA, cellsC, asC, asCs, ld, ldR, bin, binInt, binStr, binBool, sliceOf, bndOf, repl, fillC, zeroC, chunks, ptrIds, tabs, upd_app, mem_nil_app, entry_zero, entry_succ, entry_nil, top_app, maxStr, ByteArray.size, A.kill, O.kill, killS_app, killM_app, Nat.reduceAdd, Nat.reduceLeDiff, Nat.reduceEqDiff, Nat.reduceMul, Int.reduceToNat, reduceIte, wf_i64, Int.reduceLE, Int.reduceNeg, beq_self_eq_true, decide_true, decide_false, ybeq_some, ybeq_none, beqT, beqF, empty_toList, exs]
    simp [methodR, he, methodC, cMethod, zeroMethod, cStmts]
  intro h
  have he : E = 0 := by simpa using h
  subst he
  repeat (first | refine W.seq ?_ | refine W.block ?_ | refine W.skip ?_ | refine W.exit ?_ | refine W.region tab_ok 0 (by decide) (exec_run (by simp only [exec, stepQ, wantA, yieldA, kind, qv, qv1, qv2, stO, adrId, dataC, replC, eqNil, binNil, shiftInt, A.down, A1.up, downs, toR, ev, putS, rowO, ofConst, cellsA, cellsC, asC, asCs, ld, ldR, bin, binInt, binStr, binBool, sliceOf, bndOf, repl, fillC, zeroC, chunks, ptrIds, tabs, upd_app, mem_nil_app, entry_zero, entry_succ, entry_nil, top_app, maxStr, ByteArray.size, A.kill, O.kill, killS_app, killM_app, Nat.reduceAdd, Nat.reduceLeDiff, Nat.reduceEqDiff, Nat.reduceMul, Int.reduceToNat, reduceIte, wf_i64, Int.reduceLE, Int.reduceNeg, beq_self_eq_true, decide_true, decide_false, ybeq_some, ybeq_none, beqT, beqF, empty_toList, exs]; rfl)) ?_)
  refine W.nilBox 6 2 rfl rfl ?_
  refine W.nilBox 6 3 rfl rfl ?_
  refine W.regionK tab_ok 0 (by decide) ?_
  refine runk_split 2 (by simp only [exec, stepQ, wantA, yieldA, kind, qv, qv1, qv2, stO, adrId, dataC, replC, eqNil, binNil, shiftInt, A.down, A1.up, downs, toR, ev, putS, rowO, ofConst, cellsA, cellsC, asC, asCs, ld, ldR, bin, binInt, binStr, binBool, sliceOf, bndOf, repl, fillC, zeroC, chunks, ptrIds, tabs, upd_app, mem_nil_app, entry_zero, entry_succ, entry_nil, top_app, maxStr, ByteArray.size, A.kill, O.kill, killS_app, killM_app, Nat.reduceAdd, Nat.reduceLeDiff, Nat.reduceEqDiff, Nat.reduceMul, Int.reduceToNat, reduceIte, wf_i64, Int.reduceLE, Int.reduceNeg, beq_self_eq_true, decide_true, decide_false, ybeq_some, ybeq_none, beqT, beqF, empty_toList, exs]; rfl) ?_
  refine runk_call0 rfl rfl rfl rfl rfl rfl (by simp) (cvs_cons cv_refl (cvs_cons cv_refl cvs_nil)) (up_ok (cs.map cClass) mn cn _ 1000 1001 rfl rfl (by decide)) ?_
  refine runk_exec (by simp only [exec, stepQ, wantA, yieldA, kind, qv, qv1, qv2, stO, adrId, dataC, replC, eqNil, binNil, shiftInt, A.down, A1.up, downs, toR, ev, putS, rowO, ofConst, cellsA, cellsC, asC, asCs, ld, ldR, bin, binInt, binStr, binBool, sliceOf, bndOf, repl, fillC, zeroC, chunks, ptrIds, tabs, upd_app, mem_nil_app, entry_zero, entry_succ, entry_nil, top_app, maxStr, ByteArray.size, A.kill, O.kill, killS_app, killM_app, Nat.reduceAdd, Nat.reduceLeDiff, Nat.reduceEqDiff, Nat.reduceMul, Int.reduceToNat, reduceIte, wf_i64, Int.reduceLE, Int.reduceNeg, beq_self_eq_true, decide_true, decide_false, ybeq_some, ybeq_none, beqT, beqF, empty_toList, exs]; rfl) ?_
  repeat (first | refine W.seq ?_ | refine W.block ?_ | refine W.skip ?_ | refine W.exit ?_ | refine W.region tab_ok 0 (by decide) (exec_run (by simp only [exec, stepQ, wantA, yieldA, kind, qv, qv1, qv2, stO, adrId, dataC, replC, eqNil, binNil, shiftInt, A.down, A1.up, downs, toR, ev, putS, rowO, ofConst, cellsA, cellsC, asC, asCs, ld, ldR, bin, binInt, binStr, binBool, sliceOf, bndOf, repl, fillC, zeroC, chunks, ptrIds, tabs, upd_app, mem_nil_app, entry_zero, entry_succ, entry_nil, top_app, maxStr, ByteArray.size, A.kill, O.kill, killS_app, killM_app, Nat.reduceAdd, Nat.reduceLeDiff, Nat.reduceEqDiff, Nat.reduceMul, Int.reduceToNat, reduceIte, wf_i64, Int.reduceLE, Int.reduceNeg, beq_self_eq_true, decide_true, decide_false, ybeq_some, ybeq_none, beqT, beqF, empty_toList, exs]; rfl)) ?_)
  have hG : ∀ c6 nm b, GoodM R.keep slotM 1000 1001 1002 1003 (memM cs mn n c6 nm b) := fun c6 nm b => by
    refine ⟨?_, rfl, rfl, rfl, rfl, ?_, kept_not hkeep⟩
    · unfold memM
      show MWf _ _
      (repeat (first | exact mwf_nil _ | refine mwf_upd ?_ (by simp [A.ids, O.ids, upd_app])))
    · show SWf _ _
      unfold memM slotM
      (repeat (first | exact swf_top _ | refine swf_upd ?_ (by simp [A.ids, upd_app])))
  refine W.rangeUp cs cn mn 1000 1001 1002 1003 slotM (fun k => memM cs mn n (cMethod zeroMethod) ⟨#[]⟩ false) (fun k => methUp cs n ((upX cs (cs.length + 1) 0 cn).take k) = none) (by omega) rfl rfl rfl (by decide) rfl rfl (by decide) rfl rfl ?sle ?sn ?m0 (fun k _ => hG _ _ _) ?round ?done
  case sle =>
    unfold slotM
    (repeat (first | exact sle_top _ | exact sle_refl _ | refine sle_upd ?_ (by first | rfl | (simp only [upd_app, entry_zero, entry_succ, Nat.reduceEqDiff, reduceIte]; done))))
  case sn =>
    unfold slotM
    (repeat (first | exact sn_top | refine sn_upd ?_ (by decide)))
  case m0 =>
    refine mle_some ?_
    unfold memM
    (repeat (first | exact mle_nil _ | exact mle_refl _ | refine mle_upd ?_ (by first | rfl | (simp only [upd_app, killM_app, Nat.reduceEqDiff, reduceIte, cMethod, zeroMethod, cStmts, List.map_nil, List.map_cons, List.set_cons_zero, List.set_cons_succ]; done))))
  case round =>
    intro R' l hk' k j kc x1 x2 xL hInv hitem hkc
    repeat (first | refine WI.seq ?_ | refine WI.block ?_ | refine WI.skip ?_ | refine WI.exit ?_ | refine WI.region tab_ok 0 (by decide) (by kernel_rfl) (exec_run (by simp only [exec, stepQ, wantA, yieldA, kind, qv, qv1, qv2, stO, adrId, dataC, replC, eqNil, binNil, shiftInt, A.down, A1.up, downs, toR, ev, putS, rowO, ofConst, cellsA, cellsC, asC, asCs, ld, ldR, bin, binInt, binStr, binBool, sliceOf, bndOf, repl, fillC, zeroC, chunks, ptrIds, tabs, upd_app, mem_nil_app, entry_zero, entry_succ, entry_nil, top_app, maxStr, ByteArray.size, A.kill, O.kill, killS_app, killM_app, Nat.reduceAdd, Nat.reduceLeDiff, Nat.reduceEqDiff, Nat.reduceMul, Int.reduceToNat, reduceIte, wf_i64, Int.reduceLE, Int.reduceNeg, beq_self_eq_true, decide_true, decide_false, ybeq_some, ybeq_none, beqT, beqF, empty_toList, exs, fullM, memM, slotM, cClass]; rfl)) ?_)
    refine ⟨rfl, fun xL' => ?_⟩
    repeat (first | refine WI.seq ?_ | refine WI.block ?_ | refine WI.skip ?_ | refine WI.exit ?_ | refine WI.region tab_ok 0 (by decide) (by kernel_rfl) (exec_run (by simp only [exec, stepQ, wantA, yieldA, kind, qv, qv1, qv2, stO, adrId, dataC, replC, eqNil, binNil, shiftInt, A.down, A1.up, downs, toR, ev, putS, rowO, ofConst, cellsA, cellsC, asC, asCs, ld, ldR, bin, binInt, binStr, binBool, sliceOf, bndOf, repl, fillC, zeroC, chunks, ptrIds, tabs, upd_app, mem_nil_app, entry_zero, entry_succ, entry_nil, top_app, maxStr, ByteArray.size, A.kill, O.kill, killS_app, killM_app, Nat.reduceAdd, Nat.reduceLeDiff, Nat.reduceEqDiff, Nat.reduceMul, Int.reduceToNat, reduceIte, wf_i64, Int.reduceLE, Int.reduceNeg, beq_self_eq_true, decide_true, decide_false, ybeq_some, ybeq_none, beqT, beqF, empty_toList, exs, fullM, memM, slotM, cClass]; rfl)) ?_)
    have hkeepL : ∀ j, R'.keep j → (upd (fullM (memM cs mn n (cMethod zeroMethod) ⟨#[]⟩ false) 1000 1001 1002 1003 x1 x2 xL') 10 (some (.box 37 ((cClass kc).map A.c))) j).isSome = true := fun j hj => by
      rw [hk'] at hj
      unfold upd
      split
      · rfl
      · exact fullM_keep (hG _ _ _) hj
    refine WI.loop (ι := Nat) (fun q => ⟨upd (upd (upd (upd (upd (upd (upd (upd (upd (fun _ => .top) 3 (.ptr 3 0)) 5 (.ptr 5 0)) 6 (.ptr 6 0)) 7 (.ptr 7 0)) 8 (.ptr 8 0)) 10 (.ptr 10 0)) 23 (.c (.sl (kc.methods.map cMethod)))) 24 (.c (.int .i64 kc.methods.length))) 25 (.c (.int .i64 q)),
      upd (fullM (memM cs mn n (cMethod zeroMethod) ⟨#[]⟩ false) 1000 1001 1002 1003 x1 x2 xL') 10 (some (.box 37 ((cClass kc).map A.c)))⟩) (fun q => q ≤ kc.methods.length ∧ (kc.methods.take q).find? (methIs n) = none) (fun q => kc.methods.length - q) 0 ?start ⟨Nat.zero_le _, rfl⟩ ?round
    case start =>
      simp only [fullM, memM]
      refine le_mk ?sle ?mle ?swf ?mwf hkeepL (by rfl)
      case swf => repeat (first | exact swf_top _ | refine swf_upd ?_ (by simp [A.ids, upd_app, cClass, fullM, memM]))
      case mwf => repeat (first | exact mwf_nil _ | refine mwf_upd ?_ (by simp [A.ids, O.ids, upd_app, cClass, fullM, memM]))
      case mle => repeat (first | exact mle_nil _ | exact mle_refl _ | refine mle_upd ?_ (by first | rfl | (simp only [upd_app, killM_app, O.kill, A.kill, Nat.reduceEqDiff, reduceIte, Option.map_some, Option.map_none, List.map_cons, List.map_nil, cClass, fullM, memM]; done)))
      case sle => repeat (first | exact sle_top _ | exact sle_refl _ | refine sle_upd ?_ (by first | rfl | (simp only [upd_app, killS_app, A.kill, entry_zero, entry_succ, Nat.reduceEqDiff, reduceIte, cClass, fullM, memM]; done)))
    case round =>
      rintro q ⟨hq, hno⟩
      repeat (first | refine WI.seq ?_ | refine WI.block ?_ | refine WI.skip ?_ | refine WI.exit ?_ | refine WI.region tab_ok 0 (by decide) (by kernel_rfl) (exec_run (by simp only [exec, stepQ, wantA, yieldA, kind, qv, qv1, qv2, stO, adrId, dataC, replC, eqNil, binNil, shiftInt, A.down, A1.up, downs, toR, ev, putS, rowO, ofConst, cellsA, cellsC, asC, asCs, ld, ldR, bin, binInt, binStr, binBool, sliceOf, bndOf, repl, fillC, zeroC, chunks, ptrIds, tabs, upd_app, mem_nil_app, entry_zero, entry_succ, entry_nil, top_app, maxStr, ByteArray.size, A.kill, O.kill, killS_app, killM_app, Nat.reduceAdd, Nat.reduceLeDiff, Nat.reduceEqDiff, Nat.reduceMul, Int.reduceToNat, reduceIte, wf_i64, Int.reduceLE, Int.reduceNeg, beq_self_eq_true, decide_true, decide_false, ybeq_some, ybeq_none, beqT, beqF, empty_toList, exs, fullM, memM, slotM, cClass]; rfl)) ?_)
      refine WI.cond rfl ?_ ?_
      · intro hlt
        simp only [decide_eq_true_eq, Int.ofNat_lt] at hlt
        obtain ⟨y, hy⟩ : ∃ y, kc.methods[q]? = some y := ⟨_, List.getElem?_eq_getElem hlt⟩
        repeat (first | refine WI.seq ?_ | refine WI.block ?_ | refine WI.skip ?_ | refine WI.exit ?_ | refine WI.region tab_ok 0 (by decide) (by kernel_rfl) (exec_run (by simp only [exec, stepQ, wantA, yieldA, kind, qv, qv1, qv2, stO, adrId, dataC, replC, eqNil, binNil, shiftInt, A.down, A1.up, downs, toR, ev, putS, rowO, ofConst, cellsA, cellsC, asC, asCs, ld, ldR, bin, binInt, binStr, binBool, sliceOf, bndOf, repl, fillC, zeroC, chunks, ptrIds, tabs, upd_app, mem_nil_app, entry_zero, entry_succ, entry_nil, top_app, maxStr, ByteArray.size, A.kill, O.kill, killS_app, killM_app, Nat.reduceAdd, Nat.reduceLeDiff, Nat.reduceEqDiff, Nat.reduceMul, Int.reduceToNat, reduceIte, wf_i64, Int.reduceLE, Int.reduceNeg, beq_self_eq_true, decide_true, decide_false, ybeq_some, ybeq_none, beqT, beqF, empty_toList, exs, fullM, memM, slotM, cClass, at_map hy, cMethod]; rfl)) ?_)
        refine WI.cond rfl ?_ ?_
        · intro heq
          have hyb := hB kc (List.mem_of_getElem? hkc) y (List.mem_of_getElem? hy)
          have hyp := (hS kc (List.mem_of_getElem? hkc)).2.2 y (List.mem_of_getElem? hy)
          have hfm : kc.methods.find? (methIs n) = some y := find_at hno hy heq
          have hres : methodR 0 cs cn n = some (y, kc.name) := by
            unfold methodR methUp
            rw [if_pos rfl]
            exact findSome_at hInv hitem (by simp [methAt, hkc, hfm])
          repeat (first | refine WI.seq ?_ | refine WI.block ?_ | refine WI.skip ?_ | refine WI.exit ?_ | refine WI.region tab_ok 0 (by decide) (by kernel_rfl) (exec_run (by simp only [exec, stepQ, wantA, yieldA, kind, qv, qv1, qv2, stO, adrId, dataC, replC, eqNil, binNil, shiftInt, A.down, A1.up, downs, toR, ev, putS, rowO, ofConst, cellsA, cellsC, asC, asCs, ld, ldR, bin, binInt, binStr, binBool, sliceOf, bndOf, repl, fillC, zeroC, chunks, ptrIds, tabs, upd_app, mem_nil_app, entry_zero, entry_succ, entry_nil, top_app, maxStr, ByteArray.size, A.kill, O.kill, killS_app, killM_app, Nat.reduceAdd, Nat.reduceLeDiff, Nat.reduceEqDiff, Nat.reduceMul, Int.reduceToNat, reduceIte, wf_i64, Int.reduceLE, Int.reduceNeg, beq_self_eq_true, decide_true, decide_false, ybeq_some, ybeq_none, beqT, beqF, empty_toList, exs, fullM, memM, slotM, cClass, cMethod]; rfl)) ?_)
          refine WI.regionK tab_ok 0 (by decide) (by kernel_rfl) ?_
          refine runk_split 2 (by simp only [exec, stepQ, wantA, yieldA, kind, qv, qv1, qv2, stO, adrId, dataC, replC, eqNil, binNil, shiftInt, A.down, A1.up, downs, toR, ev, putS, rowO, ofConst, cellsA, cellsC, asC, asCs, ld, ldR, bin, binInt, binStr, binBool, sliceOf, bndOf, repl, fillC, zeroC, chunks, ptrIds, tabs, upd_app, mem_nil_app, entry_zero, entry_succ, entry_nil, top_app, maxStr, ByteArray.size, A.kill, O.kill, killS_app, killM_app, Nat.reduceAdd, Nat.reduceLeDiff, Nat.reduceEqDiff, Nat.reduceMul, Int.reduceToNat, reduceIte, wf_i64, Int.reduceLE, Int.reduceNeg, beq_self_eq_true, decide_true, decide_false, ybeq_some, ybeq_none, beqT, beqF, empty_toList, exs, fullM, memM, slotM, cClass, cMethod, List.set_cons_zero, List.set_cons_succ]; rfl) ?_
          refine runk_call rfl rfl rfl rfl rfl (by simp) (cvs_cons cv_refl cvs_nil) (clonePar y.params hyp _) ?_
          refine runk_exec (by simp only [exec, stepQ, wantA, yieldA, kind, qv, qv1, qv2, stO, adrId, dataC, replC, eqNil, binNil, shiftInt, A.down, A1.up, downs, toR, ev, putS, rowO, ofConst, cellsA, cellsC, asC, asCs, ld, ldR, bin, binInt, binStr, binBool, sliceOf, bndOf, repl, fillC, zeroC, chunks, ptrIds, tabs, upd_app, mem_nil_app, entry_zero, entry_succ, entry_nil, top_app, maxStr, ByteArray.size, A.kill, O.kill, killS_app, killM_app, Nat.reduceAdd, Nat.reduceLeDiff, Nat.reduceEqDiff, Nat.reduceMul, Int.reduceToNat, reduceIte, wf_i64, Int.reduceLE, Int.reduceNeg, beq_self_eq_true, decide_true, decide_false, ybeq_some, ybeq_none, beqT, beqF, empty_toList, exs, fullM, memM, slotM, cClass, cMethod, List.set_cons_zero, List.set_cons_succ]; rfl) ?_
          repeat (first | refine WI.seq ?_ | refine WI.block ?_ | refine WI.skip ?_ | refine WI.exit ?_ | refine WI.region tab_ok 0 (by decide) (by kernel_rfl) (exec_run (by simp only [exec, stepQ, wantA, yieldA, kind, qv, qv1, qv2, stO, adrId, dataC, replC, eqNil, binNil, shiftInt, A.down, A1.up, downs, toR, ev, putS, rowO, ofConst, cellsA, cellsC, asC, asCs, ld, ldR, bin, binInt, binStr, binBool, sliceOf, bndOf, repl, fillC, zeroC, chunks, ptrIds, tabs, upd_app, mem_nil_app, entry_zero, entry_succ, entry_nil, top_app, maxStr, ByteArray.size, A.kill, O.kill, killS_app, killM_app, Nat.reduceAdd, Nat.reduceLeDiff, Nat.reduceEqDiff, Nat.reduceMul, Int.reduceToNat, reduceIte, wf_i64, Int.reduceLE, Int.reduceNeg, beq_self_eq_true, decide_true, decide_false, ybeq_some, ybeq_none, beqT, beqF, empty_toList, exs, fullM, memM, slotM, cClass, cMethod, cStmts_map]; rfl)) ?_)
          refine WI.regionK tab_ok 0 (by decide) (by kernel_rfl) ?_
          refine runk_split 2 (by simp only [exec, stepQ, wantA, yieldA, kind, qv, qv1, qv2, stO, adrId, dataC, replC, eqNil, binNil, shiftInt, A.down, A1.up, downs, toR, ev, putS, rowO, ofConst, cellsA, cellsC, asC, asCs, ld, ldR, bin, binInt, binStr, binBool, sliceOf, bndOf, repl, fillC, zeroC, chunks, ptrIds, tabs, upd_app, mem_nil_app, entry_zero, entry_succ, entry_nil, top_app, maxStr, ByteArray.size, A.kill, O.kill, killS_app, killM_app, Nat.reduceAdd, Nat.reduceLeDiff, Nat.reduceEqDiff, Nat.reduceMul, Int.reduceToNat, reduceIte, wf_i64, Int.reduceLE, Int.reduceNeg, beq_self_eq_true, decide_true, decide_false, ybeq_some, ybeq_none, beqT, beqF, empty_toList, exs, fullM, memM, slotM, cClass, cMethod, cStmts_map]; rfl) ?_
          refine runk_call rfl rfl rfl rfl rfl (by simp) (cvs_cons cv_refl cvs_nil) (F.stmts_ok (dStmts y.body) y.body (Nat.le_refl _) hyb.1 hyb.2 _) ?_
          refine runk_exec (by simp only [exec, stepQ, wantA, yieldA, kind, qv, qv1, qv2, stO, adrId, dataC, replC, eqNil, binNil, shiftInt, A.down, A1.up, downs, toR, ev, putS, rowO, ofConst, cellsA, cellsC, asC, asCs, ld, ldR, bin, binInt, binStr, binBool, sliceOf, bndOf, repl, fillC, zeroC, chunks, ptrIds, tabs, upd_app, mem_nil_app, entry_zero, entry_succ, entry_nil, top_app, maxStr, ByteArray.size, A.kill, O.kill, killS_app, killM_app, Nat.reduceAdd, Nat.reduceLeDiff, Nat.reduceEqDiff, Nat.reduceMul, Int.reduceToNat, reduceIte, wf_i64, Int.reduceLE, Int.reduceNeg, beq_self_eq_true, decide_true, decide_false, ybeq_some, ybeq_none, beqT, beqF, empty_toList, exs, fullM, memM, slotM, cClass, cMethod, cStmts_map]; rfl) ?_
          refine WI.seq ?_
          refine WI.regionT tab_ok 0 follows_mixed (by decide) (by kernel_rfl) ?_
          repeat' (first | refine Exists.intro _ (And.intro (by simp only [exec, stepQ, wantA, yieldA, kind, qv, qv1, qv2, stO, adrId, dataC, replC, eqNil, binNil, shiftInt, A.down, A1.up, downs, toR, ev, putS, rowO, ofConst, cellsA, cellsC, asC, asCs, ld, ldR, bin, binInt, binStr, binBool, sliceOf, bndOf, repl, fillC, zeroC, chunks, ptrIds, tabs, upd_app, mem_nil_app, entry_zero, entry_succ, entry_nil, top_app, maxStr, ByteArray.size, A.kill, O.kill, killS_app, killM_app, Nat.reduceAdd, Nat.reduceLeDiff, Nat.reduceEqDiff, Nat.reduceMul, Int.reduceToNat, reduceIte, wf_i64, Int.reduceLE, Int.reduceNeg, beq_self_eq_true, decide_true, decide_false, ybeq_some, ybeq_none, beqT, beqF, empty_toList, exs, fullM, memM, slotM, cClass, cMethod, cStmts_map]; rfl) ?_) | refine runs_two (i := 0) (j := 1) (by decide +kernel) rfl rfl ?_ ?_ | refine runs_two (i := 1) (j := 3) (by decide +kernel) rfl rfl ?_ ?_ | refine runs_two (i := 0) (j := 2) (by decide +kernel) rfl rfl ?_ ?_ | refine runs_two (i := 2) (j := 3) (by decide +kernel) rfl rfl ?_ ?_ | refine runs_one (i := 4) (by decide +kernel) rfl ?_ | refine runs_one (i := 5) (by decide +kernel) rfl ?_ | refine runs_one (i := 0) (by decide +kernel) rfl ?_ | refine runs_one (i := 1) (by decide +kernel) rfl ?_ | refine runs_one (i := 2) (by decide +kernel) rfl ?_ | refine runs_one (i := 3) (by decide +kernel) rfl ?_ | refine runs_end (by decide +kernel) ?_)
          all_goals
            repeat (first | refine WI.seq ?_ | refine WI.block ?_ | refine WI.skip ?_ | refine WI.exit ?_ | refine WI.region tab_ok 0 (by decide) (by kernel_rfl) (exec_run (by simp only [exec, stepQ, wantA, yieldA, kind, qv, qv1, qv2, stO, adrId, dataC, replC, eqNil, binNil, shiftInt, A.down, A1.up, downs, toR, ev, putS, rowO, ofConst, cellsA, cellsC, asC, asCs, ld, ldR, bin, binInt, binStr, binBool, sliceOf, bndOf, repl, fillC, zeroC, chunks, ptrIds, tabs, upd_app, mem_nil_app, entry_zero, entry_succ, entry_nil, top_app, maxStr, ByteArray.size, A.kill, O.kill, killS_app, killM_app, Nat.reduceAdd, Nat.reduceLeDiff, Nat.reduceEqDiff, Nat.reduceMul, Int.reduceToNat, reduceIte, wf_i64, Int.reduceLE, Int.reduceNeg, beq_self_eq_true, decide_true, decide_false, ybeq_some, ybeq_none, beqT, beqF, empty_toList, exs, fullM, memM, slotM, cClass, cMethod, cStmts_map]; rfl)) ?_)
            refine WI.ret ⟨fun j => j, memM cs mn n (cMethod y) kc.name true, Le.toT ?_, hG _ _ _, fun b => ⟨.inr rfl, .inr ⟨b, 1002, rfl, rfl, rfl, ?_⟩⟩⟩
            · simp only [fullM, memM]
              refine le_mk ?sle ?mle ?swf ?mwf (fun j hj => fullM_keep (hG _ _ _) hj) (by rfl)
              case swf => repeat (first | exact swf_top _ | refine swf_upd ?_ (by simp [A.ids, upd_app, cClass, fullM, memM, cMethod, cStmts_map]))
              case mwf => repeat (first | exact mwf_nil _ | refine mwf_upd ?_ (by simp [A.ids, O.ids, upd_app, cClass, fullM, memM, cMethod, cStmts_map]))
              case mle => repeat (first | exact mle_nil _ | exact mle_refl _ | refine mle_upd ?_ (by first | rfl | (simp only [upd_app, killM_app, O.kill, A.kill, Nat.reduceEqDiff, reduceIte, Option.map_some, Option.map_none, List.map_cons, List.map_nil, cClass, fullM, memM, cMethod, cStmts_map]; done)))
              case sle => repeat (first | exact sle_top _ | exact sle_refl _ | refine sle_upd ?_ (by first | rfl | (simp only [upd_app, killS_app, A.kill, entry_zero, entry_succ, Nat.reduceEqDiff, reduceIte, cClass, fullM, memM, cMethod, cStmts_map]; done)))
            · simp only [Try.f16, resA, resOne, toT, fin, doneS, doneM, DID, exec, stepQ, wantA, yieldA, kind, qv, qv1, qv2, stO, adrId, dataC, replC, eqNil, binNil, shiftInt, A.down, A1.up, downs, toR, ev, putS, rowO, ofConst, cellsA, cellsC, asC, asCs, ld, ldR, bin, binInt, binStr, binBool, sliceOf, bndOf, repl, fillC, zeroC, chunks, ptrIds, tabs, upd_app, mem_nil_app, entry_zero, entry_succ, entry_nil, top_app, maxStr, ByteArray.size, A.kill, O.kill, killS_app, killM_app, Nat.reduceAdd, Nat.reduceLeDiff, Nat.reduceEqDiff, Nat.reduceMul, Int.reduceToNat, reduceIte, wf_i64, Int.reduceLE, Int.reduceNeg, beq_self_eq_true, decide_true, decide_false, ybeq_some, ybeq_none, beqT, beqF, empty_toList, exs, memM, slotM, hres, methodC, cMethod]
        · intro hneq
          repeat (first | refine WI.seq ?_ | refine WI.block ?_ | refine WI.skip ?_ | refine WI.exit ?_ | refine WI.region tab_ok 0 (by decide) (by kernel_rfl) (exec_run (by simp only [exec, stepQ, wantA, yieldA, kind, qv, qv1, qv2, stO, adrId, dataC, replC, eqNil, binNil, shiftInt, A.down, A1.up, downs, toR, ev, putS, rowO, ofConst, cellsA, cellsC, asC, asCs, ld, ldR, bin, binInt, binStr, binBool, sliceOf, bndOf, repl, fillC, zeroC, chunks, ptrIds, tabs, upd_app, mem_nil_app, entry_zero, entry_succ, entry_nil, top_app, maxStr, ByteArray.size, A.kill, O.kill, killS_app, killM_app, Nat.reduceAdd, Nat.reduceLeDiff, Nat.reduceEqDiff, Nat.reduceMul, Int.reduceToNat, reduceIte, wf_i64, Int.reduceLE, Int.reduceNeg, beq_self_eq_true, decide_true, decide_false, ybeq_some, ybeq_none, beqT, beqF, empty_toList, exs, fullM, memM, slotM, cClass]; rfl)) ?_)
          refine ⟨q + 1, ⟨hlt, ?_⟩, by omega, ?_⟩
          · rw [List.take_add_one, hy, List.find?_append, hno]
            simpa [methIs] using hneq
          simp only [fullM, memM]
          refine le_mk ?sle ?mle ?swf ?mwf hkeepL (by rfl)
          case swf => repeat (first | exact swf_top _ | refine swf_upd ?_ (by simp [A.ids, upd_app, cClass, fullM, memM, wrap_succ (show q + 1 < 9223372036854775808 by have := (hS kc (List.mem_of_getElem? hkc)).2.1; omega)]))
          case mwf => repeat (first | exact mwf_nil _ | refine mwf_upd ?_ (by simp [A.ids, O.ids, upd_app, cClass, fullM, memM, wrap_succ (show q + 1 < 9223372036854775808 by have := (hS kc (List.mem_of_getElem? hkc)).2.1; omega)]))
          case mle => repeat (first | exact mle_nil _ | exact mle_refl _ | refine mle_upd ?_ (by first | rfl | (simp only [upd_app, killM_app, O.kill, A.kill, Nat.reduceEqDiff, reduceIte, Option.map_some, Option.map_none, List.map_cons, List.map_nil, cClass, fullM, memM, wrap_succ (show q + 1 < 9223372036854775808 by have := (hS kc (List.mem_of_getElem? hkc)).2.1; omega)]; done)))
          case sle => repeat (first | exact sle_top _ | exact sle_refl _ | refine sle_upd ?_ (by first | rfl | (simp only [upd_app, killS_app, A.kill, entry_zero, entry_succ, Nat.reduceEqDiff, reduceIte, cClass, fullM, memM, wrap_succ (show q + 1 < 9223372036854775808 by have := (hS kc (List.mem_of_getElem? hkc)).2.1; omega)]; done)))
      · intro hge
        simp only [decide_eq_false_iff_not, Int.ofNat_lt] at hge
        obtain rfl : q = kc.methods.length := by omega
        rw [List.take_length] at hno
        repeat (first | refine WI.seq ?_ | refine WI.block ?_ | refine WI.skip ?_ | refine WI.exit ?_ | refine WI.region tab_ok 0 (by decide) (by kernel_rfl) (exec_run (by simp only [exec, stepQ, wantA, yieldA, kind, qv, qv1, qv2, stO, adrId, dataC, replC, eqNil, binNil, shiftInt, A.down, A1.up, downs, toR, ev, putS, rowO, ofConst, cellsA, cellsC, asC, asCs, ld, ldR, bin, binInt, binStr, binBool, sliceOf, bndOf, repl, fillC, zeroC, chunks, ptrIds, tabs, upd_app, mem_nil_app, entry_zero, entry_succ, entry_nil, top_app, maxStr, ByteArray.size, A.kill, O.kill, killS_app, killM_app, Nat.reduceAdd, Nat.reduceLeDiff, Nat.reduceEqDiff, Nat.reduceMul, Int.reduceToNat, reduceIte, wf_i64, Int.reduceLE, Int.reduceNeg, beq_self_eq_true, decide_true, decide_false, ybeq_some, ybeq_none, beqT, beqF, empty_toList, exs, fullM, memM, slotM, cClass]; rfl)) ?_)
        refine ⟨?_, fun j => j, Le.toT ?_⟩
        · show methUp cs n ((upX cs (cs.length + 1) 0 cn).take (k + 1)) = none
          unfold methUp at *
          rw [List.take_add_one, hitem, List.findSome?_append, hInv]
          simp [methAt, hkc, hno]
        · simp only [fullM, memM]
          refine le_mk ?sle ?mle ?swf ?mwf (fun j hj => fullM_keep (hG _ _ _) hj) (by rfl)
          case swf => repeat (first | exact swf_top _ | refine swf_upd ?_ (by simp [A.ids, upd_app, fullM, memM]))
          case mwf => repeat (first | exact mwf_nil _ | refine mwf_upd ?_ (by simp [A.ids, O.ids, upd_app, fullM, memM]))
          case mle => repeat (first | exact mle_nil _ | exact mle_refl _ | refine mle_upd ?_ (by first | rfl | (simp only [upd_app, killM_app, O.kill, A.kill, Nat.reduceEqDiff, reduceIte, Option.map_some, Option.map_none, List.map_cons, List.map_nil, fullM, memM]; done)))
          case sle => repeat (first | exact sle_top _ | exact sle_refl _ | refine sle_upd ?_ (by first | rfl | (simp only [upd_app, killS_app, A.kill, entry_zero, entry_succ, Nat.reduceEqDiff, reduceIte, fullM, memM]; done)))
  case done =>
    intro hI b
    rw [List.take_length] at hI
    repeat (first | refine W.seq ?_ | refine W.block ?_ | refine W.skip ?_ | refine W.exit ?_ | refine W.region tab_ok 0 (by decide) (exec_run (by simp only [exec, stepQ, wantA, yieldA, kind, qv, qv1, qv2, stO, adrId, dataC, replC, eqNil, binNil, shiftInt, A.down, A1.up, downs, toR, ev, putS, rowO, ofConst, cellsA, cellsC, asC, asCs, ld, ldR, bin, binInt, binStr, binBool, sliceOf, bndOf, repl, fillC, zeroC, chunks, ptrIds, tabs, upd_app, mem_nil_app, entry_zero, entry_succ, entry_nil, top_app, maxStr, ByteArray.size, A.kill, O.kill, killS_app, killM_app, Nat.reduceAdd, Nat.reduceLeDiff, Nat.reduceEqDiff, Nat.reduceMul, Int.reduceToNat, reduceIte, wf_i64, Int.reduceLE, Int.reduceNeg, beq_self_eq_true, decide_true, decide_false, ybeq_some, ybeq_none, beqT, beqF, empty_toList, exs, doneS, doneM, DID, memM, slotM]; rfl)) ?_)
    refine W.ret ⟨.inr rfl, .inr ⟨b, 1002, rfl, rfl, rfl, ?_⟩⟩
    simp only [Try.f16, resA, resOne, toT, fin, doneS, doneM, DID, exec, stepQ, wantA, yieldA, kind, qv, qv1, qv2, stO, adrId, dataC, replC, eqNil, binNil, shiftInt, A.down, A1.up, downs, toR, ev, putS, rowO, ofConst, cellsA, cellsC, asC, asCs, ld, ldR, bin, binInt, binStr, binBool, sliceOf, bndOf, repl, fillC, zeroC, chunks, ptrIds, tabs, upd_app, mem_nil_app, entry_zero, entry_succ, entry_nil, top_app, maxStr, ByteArray.size, A.kill, O.kill, killS_app, killM_app, Nat.reduceAdd, Nat.reduceLeDiff, Nat.reduceEqDiff, Nat.reduceMul, Int.reduceToNat, reduceIte, wf_i64, Int.reduceLE, Int.reduceNeg, beq_self_eq_true, decide_true, decide_false, ybeq_some, ybeq_none, beqT, beqF, empty_toList, exs, memM]
    simp [methodR, hI, methodC, cMethod, zeroMethod, cStmts]
end V
end Go.Proofs.Ytjciafpihdbedaa
end
section
set_option linter.unusedVariables false
set_option linter.unusedSimpArgs false
namespace Go.Proofs.Ytjciafpihdbedaa
namespace V
theorem upX_map {β : Type} (cs : List Class) (g : Class → β) (h : Nat × Nat → β) (hg : ∀ x k, cs[x.2]? = some k → h x = g k) (k m : Nat) (name : ByteArray) : (upX cs k m name).map h = (chainC cs k name).map g := by
  obtain ⟨f, h1, h2⟩ := upX_chain cs k m name
  rw [h1, List.map_map]
  refine List.ext_getElem? fun i => ?_
  by_cases hi : i < (chainC cs k name).length
  · simp only [List.getElem?_map, List.getElem?_range hi, Option.map_some, Function.comp]
    rw [List.getElem?_eq_getElem hi, Option.map_some]
    rw [hg (m + i, f i) _ ((h2 i hi).trans (List.getElem?_eq_getElem hi))]
  · rw [List.getElem?_eq_none (by simpa using Nat.not_lt.1 hi), List.getElem?_eq_none (by simpa using Nat.not_lt.1 hi)]
theorem slotsUp_chain (cs : List Class) (k m : Nat) (name : ByteArray) : slotsUp cs (upX cs k m name) = (chainC cs k name).reverse.flatMap (·.fields) := by
  have e := upX_map cs (·.fields) (slotsAt cs) (fun x k h => by simp [slotsAt, h]) k m name
  unfold slotsUp
  rw [List.flatMap_def, List.flatMap_def, List.map_reverse, List.map_reverse, e]
theorem fields_prefix {cs : List Class} {a b : ByteArray} (h : Same0 cs) (hb : belowR 0 cs a b = true) : ∃ r, fieldsR 0 cs a = fieldsR 0 cs b ++ r := by
  obtain ⟨i, d, hd, rfl⟩ := belowR_iff.1 hb
  have hc := chain_from h hd
  unfold fieldsR
  rw [if_pos rfl, if_pos rfl, slotsUp_chain, slotsUp_chain, hc]
  refine ⟨((chainC cs (cs.length + 1) a).take i).reverse.flatMap (·.fields), ?_⟩
  rw [← List.flatMap_append, ← List.reverse_append, List.take_append_drop]
def methC (n : ByteArray) (c : Class) : Option (Method × ByteArray) := (c.methods.find? (methIs n)).map (·, c.name)
theorem findSome_map {α β : Type} (f : α → Option β) : ∀ l : List α, l.findSome? f = (l.map f).findSome? id
  | [] => rfl
  | x :: l => by
    simp only [List.findSome?_cons, List.map_cons, id]
    cases f x with
    | none => exact findSome_map f l
    | some y => rfl
theorem methodR_chain (cs : List Class) (cn n : ByteArray) : methodR 0 cs cn n = (chainC cs (cs.length + 1) cn).findSome? (methC n) := by
  unfold methodR methUp
  rw [if_pos rfl, findSome_map, findSome_map (methC n), upX_map cs (methC n) (methAt cs n) (fun x k h => by simp [methAt, methC, h])]
theorem findSome_first {α β : Type} {f : α → Option β} : ∀ {l : List α} {r : β}, l.findSome? f = some r → ∃ (i : Nat) (x : α), l[i]? = some x ∧ f x = some r ∧ ∀ j y, j < i → l[j]? = some y → f y = none
  | [], r, h => by cases h
  | x :: l, r, h => by
    rw [List.findSome?_cons] at h
    cases hx : f x with
    | some y => rw [hx] at h; cases h; exact ⟨0, x, rfl, hx, fun j y hj => absurd hj (Nat.not_lt_zero _)⟩
    | none =>
      rw [hx] at h
      obtain ⟨i, y, h1, h2, h3⟩ := findSome_first h
      refine ⟨i + 1, y, by simpa using h1, h2, fun j z hj hz => ?_⟩
      cases j with
      | zero => simp at hz; subst hz; exact hx
      | succ j => exact h3 j z (by omega) (by simpa using hz)
theorem findSome_some {α β : Type} {f : α → Option β} : ∀ {l : List α} {i : Nat} {x : α} {r : β}, l[i]? = some x → f x = some r → ∃ r', l.findSome? f = some r'
  | [], i, x, r, h, _ => by simp at h
  | y :: l, 0, x, r, h, k => by simp at h; subst h; exact ⟨r, by rw [List.findSome?_cons, k]⟩
  | y :: l, i + 1, x, r, h, k => by
    rw [List.findSome?_cons]
    cases f y with
    | some z => exact ⟨z, rfl⟩
    | none => exact findSome_some (by simpa using h) k
theorem method_have {cs : List Class} {a b n : ByteArray} (h : Same0 cs) (hP : ProgM cs) (hb : belowR 0 cs a b = true) {m : Method} {d : ByteArray} (hm : methodR 0 cs b n = some (m, d)) : ∃ m' d', methodR 0 cs a n = some (m', d') ∧ alikeB m' m = true := by
  obtain ⟨i, c, hc, rfl⟩ := belowR_iff.1 hb
  rw [methodR_chain, chain_from h hc] at hm
  obtain ⟨j, x, hx, hfx, -⟩ := findSome_first hm
  rw [List.getElem?_drop] at hx
  rw [methodR_chain]
  obtain ⟨⟨m', d'⟩, hr⟩ := findSome_some hx hfx
  refine ⟨m', d', hr, ?_⟩
  obtain ⟨q, y, hy, hfy, hbefore⟩ := findSome_first hr
  have hq : q ≤ i + j := by
    rcases Nat.lt_or_ge (i + j) q with hl | hl
    · have := hbefore (i + j) x hl hx
      rw [hfx] at this; cases this
    · exact hl
  have fy : y.methods.find? (methIs n) = some m' := by
    unfold methC at hfy
    cases hf : y.methods.find? (methIs n) with
    | none => rw [hf] at hfy; cases hfy
    | some z => rw [hf] at hfy; simp at hfy; rw [hfy.1]
  have fx : x.methods.find? (methIs n) = some m := by
    unfold methC at hfx
    cases hf : x.methods.find? (methIs n) with
    | none => rw [hf] at hfx; cases hfx
    | some z => rw [hf] at hfx; simp at hfx; rw [hfx.1]
  obtain ⟨hmem, hname⟩ := meth_of fy
  have hymem := (chainC_mem cs _ _ y (List.mem_of_getElem? hy)).1
  have hx2 : (chainC cs (cs.length + 1) y.name)[i + j - q]? = some x := by
    rw [chain_from h hy, List.getElem?_drop]
    rw [show q + (i + j - q) = i + j by omega]
    exact hx
  have := hP y hymem m' hmem _ x hx2
  rw [fits_iff, hname] at this
  exact this m fx
end V
end Go.Proofs.Ytjciafpihdbedaa
end
section
set_option linter.unusedVariables false
set_option linter.unusedSimpArgs false
namespace Go.Proofs.Ytjciafpihdbedaa
open Go.RowKit
theorem bdrewS {B : Nat} {a w : World} (h : Below B a w) (n : Nat) : Below B a (w.drewN n) := ⟨h.os, h.tape, h.output, h.size, h.block⟩
theorem inSlot : Try.prog.stoodInHeld 45 = false := by kernel_rfl
theorem gdSlot : Try.prog.eqGuardType Try.prog.depth 45 = false := by kernel_rfl
theorem sameSlots_any (w : World) (u v : Value) (l : List Slot) (hu : RSlots w (· < w.heap.size) u l) (hv : RSlots w (· < w.heap.size) v l) :
    Calls Try.prog 21 #[u, v] w fun e w' => e = .returned (.bool true) ∧ Below w.heap.size w w' := by
  obtain ⟨a, n, cap, rfl, hn, hcap, hmax, hel⟩ := hu
  obtain ⟨a', n', cap', rfl, hn', hcap', hmax', hel'⟩ := hv
  have e : n' = n := hn'.symm.trans hn
  subst e
  have H := Lib.hid hel
  have H' := Lib.hid hel'
  have HN := Lib.hid hn
  unfold maxC at hmax hmax'
  clear hel hel' hn hn'
  go_enter Try.func21, Try.ntmps21
  go_wp2
  go_loopw [13] (fun v13 wr => ∃ k : Nat, k ≤ n' ∧ v13 = .int .i64 k ∧ Hid (Below w.heap.size w wr)) (fun v13 _ => n' - (intOf v13).toNat)
  case atStart => exact ⟨0, by omega, rfl, Below.refl _ _⟩
  case round =>
    obtain ⟨k, hk, rfl, HB⟩ := hrel
    by_cases hlt : k < n'
    · obtain ⟨x, hx⟩ : ∃ x, l[k]? = some x := ⟨_, List.getElem?_eq_getElem (by rw [HN.out]; exact hlt)⟩
      have HX := Lib.hid hx
      clear hx
      obtain ⟨b, off, cs, rfl, hb, hc, ⟨rfl, -, -⟩⟩ := H.out k _ HX.out
      obtain ⟨b', off', cs', rfl, hb', hc', ⟨rfl, -, -⟩⟩ := H'.out k _ HX.out
      have hc := cellsAt_of_block (HB.out.block b hb) hc
      have hc' := cellsAt_of_block (HB.out.block b' hb') hc'
      simp only [cellsAt, and_true] at hc hc'
      obtain ⟨c1, c2⟩ := hc
      obtain ⟨c3, c4⟩ := hc'
      have hkn : (k : Int) < (n' : Int) := by omega
      have hin := inSlot
      have hgd := gdSlot
      obtain ⟨ty, nm⟩ := x
      go_wp2
      go_quiet (fail)
      go_wp2
      refine ⟨⟨k + 1, by omega, by go_num, ?_⟩, by simp [intOf]; omega⟩
      exact bdrewS HB.out _
    · have hge : ¬ ((k : Int) < (n' : Int)) := by omega
      go_wp2
      go_ret
      exact ⟨rfl, HB.out⟩
namespace V
theorem sameSlots_ok (l : List Slot) (m : Mem) : COk Try.prog 21 [.c (.sl (l.map cSlot)), .c (.sl (l.map cSlot))] m (.c (.bool true)) := by
  refine ⟨enters_of Try.func21 (by kernel_rfl) rfl, rfl, fun m' _ => ?_⟩
  intro w0 I0 B I w vals hm hv
  match vals, hv with
  | [u, v], ⟨h1, h2, _⟩ =>
    refine (sameSlots_any w u v l (rc_slots hm.there h1) (rc_slots hm.there h2)).mono ?_
    rintro e w' ⟨rfl, hb⟩
    exact ⟨_, I, rfl, hb, fun _ _ k => k, fun _ _ k => .inl k, .bool⟩
end V
end Go.Proofs.Ytjciafpihdbedaa
end
section
set_option linter.unusedVariables false
set_option linter.unusedSimpArgs false
namespace Go.Proofs.Ytjciafpihdbedaa
namespace V
open Go.RowKit
theorem chk_len {e : Int} {cs : List Class} (h : chkErr e cs = 0) : cs.length ≤ 16 := by
  unfold chkErr at h
  split at h
  · split at h
    · exact absurd h (by decide)
    · omega
  · exact absurd h (by assumption)
theorem below_err' {E : Int} {cs : List Class} {a b : ByteArray} (h : belowR E cs a b = true) : E = 0 := by
  unfold belowR chainR at h
  split at h
  · assumption
  · simp at h
theorem chk_prog {e : Int} {cs : List Class} (h : chkErr e cs = 0) : ProgM cs := by
  unfold chkErr at h
  split at h
  · split at h
    · exact absurd h (by decide)
    · split at h
      · exact absurd h (by decide)
      · split at h
        · exact absurd h (by decide)
        · rename_i h1 h2
          refine (prog_iff.1 ⟨by simpa using h1, fun c hc => ?_⟩).2
          cases hk : okClassB cs c with
          | true => rfl
          | false => exact absurd (List.any_eq_true.2 ⟨c, hc, by rw [hk]; rfl⟩) h2
  · rename_i h1; exact absurd h h1
theorem method_small {cs : List Class} (hS : SmallC cs) {cn n : ByteArray} {m : Method} {d : ByteArray} (h : methodR 0 cs cn n = some (m, d)) : m.params.length ≤ 1048576 := by
  rw [methodR_chain] at h
  obtain ⟨i, x, hx, hf, -⟩ := findSome_first h
  have hxm := (chainC_mem cs _ _ x (List.mem_of_getElem? hx)).1
  unfold methC at hf
  cases hq : x.methods.find? (methIs n) with
  | none => rw [hq] at hf; cases hf
  | some z =>
    rw [hq] at hf
    simp at hf
    rw [← hf.1]
    exact (hS x hxm).2.2 z (meth_of hq).1
theorem types_at {a b : List Slot} (h : typesOf a = typesOf b) {k : Nat} {x : Slot} (hx : a[k]? = some x) : ∃ y, b[k]? = some y ∧ x.type.toList = y.type.toList := by
  have := congrArg (fun l => l[k]?) h
  simp only [typesOf, List.getElem?_map, hx, Option.map_some] at this
  cases hy : b[k]? with
  | none => rw [hy] at this; simp at this
  | some y => rw [hy] at this; exact ⟨y, rfl, by simpa using this⟩
set_option maxHeartbeats 4000000 in
theorem lawHave_ok (p : Program) (a b n : ByteArray) (hS : SmallC p.classes) (hB : SmallB p.classes) (hlen : p.classes.length ≤ 1048576) (m : Mem) : COk Try.prog 7 [.agg (cProg p), .c (.str a), .c (.str b), .c (.str n)] m (.c (.bool true)) := by
  have h1 := chk_ok p hS hlen
  have hBe := fun (x y : ByteArray) m => below_ok p (chkErr (errP p) p.classes) x y (by omega) h1 m
  have hF := fun (x : ByteArray) m => E.fieldsP_ok p (chkErr (errP p) p.classes) x hS (by omega) chk_len h1 m
  have hM := fun (x y : ByteArray) m => methodP_ok p (chkErr (errP p) p.classes) x y hS hB (by omega) h1 m
  have hE : chkErr (errP p) p.classes = 0 → Same0 p.classes := chkErr_zero
  have hPr : chkErr (errP p) p.classes = 0 → ProgM p.classes := chk_prog
  generalize chkErr (errP p) p.classes = E at h1 hBe hF hM hE hPr
  refine (ok_pure tab_ok Try.func7 (by kernel_rfl) rfl rfl (by rfl) (by rfl) (by rfl) (fun R hkeep => ?_) m)
  repeat (first | refine W.seq ?_ | refine W.block ?_ | refine W.skip ?_ | refine W.exit ?_ | refine W.region tab_ok 0 (by decide) (exec_run (by simp only [exec, stepQ, wantA, yieldA, kind, qv, qv1, qv2, stO, adrId, dataC, replC, eqNil, binNil, shiftInt, A.down, A1.up, downs, toR, ev, putS, rowO, ofConst, cellsA, cellsC, asC, asCs, ld, ldR, bin, binInt, binStr, binBool, sliceOf, bndOf, repl, fillC, zeroC, chunks, ptrIds, tabs, upd_app, mem_nil_app, entry_zero, entry_succ, entry_nil, top_app, maxStr, ByteArray.size, A.kill, O.kill, killS_app, killM_app, Nat.reduceAdd, Nat.reduceLeDiff, Nat.reduceEqDiff, Nat.reduceMul, Int.reduceToNat, reduceIte, wf_i64, Int.reduceLE, Int.reduceNeg, beq_self_eq_true, decide_true, decide_false, ybeq_some, ybeq_none, beqT, beqF, empty_toList, exs, cProg]; rfl)) ?_)
  refine W.regionK tab_ok 0 (by decide) ?_
  refine runk_split 0 (by simp only [exec, stepQ, wantA, yieldA, kind, qv, qv1, qv2, stO, adrId, dataC, replC, eqNil, binNil, shiftInt, A.down, A1.up, downs, toR, ev, putS, rowO, ofConst, cellsA, cellsC, asC, asCs, ld, ldR, bin, binInt, binStr, binBool, sliceOf, bndOf, repl, fillC, zeroC, chunks, ptrIds, tabs, upd_app, mem_nil_app, entry_zero, entry_succ, entry_nil, top_app, maxStr, ByteArray.size, A.kill, O.kill, killS_app, killM_app, Nat.reduceAdd, Nat.reduceLeDiff, Nat.reduceEqDiff, Nat.reduceMul, Int.reduceToNat, reduceIte, wf_i64, Int.reduceLE, Int.reduceNeg, beq_self_eq_true, decide_true, decide_false, ybeq_some, ybeq_none, beqT, beqF, empty_toList, exs]; rfl) ?_
  refine runk_call rfl rfl rfl rfl rfl (by simp) cvs_nil (live_ok _) ?_
  refine runk_exec (by simp only [exec, stepQ, wantA, yieldA, kind, qv, qv1, qv2, stO, adrId, dataC, replC, eqNil, binNil, shiftInt, A.down, A1.up, downs, toR, ev, putS, rowO, ofConst, cellsA, cellsC, asC, asCs, ld, ldR, bin, binInt, binStr, binBool, sliceOf, bndOf, repl, fillC, zeroC, chunks, ptrIds, tabs, upd_app, mem_nil_app, entry_zero, entry_succ, entry_nil, top_app, maxStr, ByteArray.size, A.kill, O.kill, killS_app, killM_app, Nat.reduceAdd, Nat.reduceLeDiff, Nat.reduceEqDiff, Nat.reduceMul, Int.reduceToNat, reduceIte, wf_i64, Int.reduceLE, Int.reduceNeg, beq_self_eq_true, decide_true, decide_false, ybeq_some, ybeq_none, beqT, beqF, empty_toList, exs]; rfl) ?_
  repeat (first | refine W.seq ?_ | refine W.block ?_ | refine W.skip ?_ | refine W.exit ?_ | refine W.region tab_ok 0 (by decide) (exec_run (by simp only [exec, stepQ, wantA, yieldA, kind, qv, qv1, qv2, stO, adrId, dataC, replC, eqNil, binNil, shiftInt, A.down, A1.up, downs, toR, ev, putS, rowO, ofConst, cellsA, cellsC, asC, asCs, ld, ldR, bin, binInt, binStr, binBool, sliceOf, bndOf, repl, fillC, zeroC, chunks, ptrIds, tabs, upd_app, mem_nil_app, entry_zero, entry_succ, entry_nil, top_app, maxStr, ByteArray.size, A.kill, O.kill, killS_app, killM_app, Nat.reduceAdd, Nat.reduceLeDiff, Nat.reduceEqDiff, Nat.reduceMul, Int.reduceToNat, reduceIte, wf_i64, Int.reduceLE, Int.reduceNeg, beq_self_eq_true, decide_true, decide_false, ybeq_some, ybeq_none, beqT, beqF, empty_toList, exs]; rfl)) ?_)
  refine W.regionK tab_ok 0 (by decide) ?_
  refine runk_split 3 (by simp only [exec, stepQ, wantA, yieldA, kind, qv, qv1, qv2, stO, adrId, dataC, replC, eqNil, binNil, shiftInt, A.down, A1.up, downs, toR, ev, putS, rowO, ofConst, cellsA, cellsC, asC, asCs, ld, ldR, bin, binInt, binStr, binBool, sliceOf, bndOf, repl, fillC, zeroC, chunks, ptrIds, tabs, upd_app, mem_nil_app, entry_zero, entry_succ, entry_nil, top_app, maxStr, ByteArray.size, A.kill, O.kill, killS_app, killM_app, Nat.reduceAdd, Nat.reduceLeDiff, Nat.reduceEqDiff, Nat.reduceMul, Int.reduceToNat, reduceIte, wf_i64, Int.reduceLE, Int.reduceNeg, beq_self_eq_true, decide_true, decide_false, ybeq_some, ybeq_none, beqT, beqF, empty_toList, exs, cProg]; rfl) ?_
  refine runk_call rfl rfl rfl rfl rfl (by simp) (cvs_cons cv_refl (cvs_cons cv_refl (cvs_cons cv_refl cvs_nil))) (hBe a b _) ?_
  refine runk_exec (by simp only [exec, stepQ, wantA, yieldA, kind, qv, qv1, qv2, stO, adrId, dataC, replC, eqNil, binNil, shiftInt, A.down, A1.up, downs, toR, ev, putS, rowO, ofConst, cellsA, cellsC, asC, asCs, ld, ldR, bin, binInt, binStr, binBool, sliceOf, bndOf, repl, fillC, zeroC, chunks, ptrIds, tabs, upd_app, mem_nil_app, entry_zero, entry_succ, entry_nil, top_app, maxStr, ByteArray.size, A.kill, O.kill, killS_app, killM_app, Nat.reduceAdd, Nat.reduceLeDiff, Nat.reduceEqDiff, Nat.reduceMul, Int.reduceToNat, reduceIte, wf_i64, Int.reduceLE, Int.reduceNeg, beq_self_eq_true, decide_true, decide_false, ybeq_some, ybeq_none, beqT, beqF, empty_toList, exs]; rfl) ?_
  refine W.cond rfl ?_ ?_
  · intro h
    repeat (first | refine W.seq ?_ | refine W.block ?_ | refine W.skip ?_ | refine W.exit ?_ | refine W.region tab_ok 0 (by decide) (exec_run (by simp only [exec, stepQ, wantA, yieldA, kind, qv, qv1, qv2, stO, adrId, dataC, replC, eqNil, binNil, shiftInt, A.down, A1.up, downs, toR, ev, putS, rowO, ofConst, cellsA, cellsC, asC, asCs, ld, ldR, bin, binInt, binStr, binBool, sliceOf, bndOf, repl, fillC, zeroC, chunks, ptrIds, tabs, upd_app, mem_nil_app, entry_zero, entry_succ, entry_nil, top_app, maxStr, ByteArray.size, A.kill, O.kill, killS_app, killM_app, Nat.reduceAdd, Nat.reduceLeDiff, Nat.reduceEqDiff, Nat.reduceMul, Int.reduceToNat, reduceIte, wf_i64, Int.reduceLE, Int.reduceNeg, beq_self_eq_true, decide_true, decide_false, ybeq_some, ybeq_none, beqT, beqF, empty_toList, exs]; rfl)) ?_)
    refine W.ret ⟨.inr rfl, by rfl, ?_⟩
    simp only [Try.f7, resA, resOne, toT, fin, exec, stepQ, wantA, yieldA, kind, qv, qv1, qv2, stO, adrId, dataC, replC, eqNil, binNil, shiftInt, A.down, A1.up, downs, toR, ev, putS, rowO, ofConst, cellsA, cellsC, asC, asCs, ld, ldR, bin, binInt, binStr, binBool, sliceOf, bndOf, repl, fillC, zeroC, chunks, ptrIds, tabs, upd_app, mem_nil_app, entry_zero, entry_succ, entry_nil, top_app, maxStr, ByteArray.size, A.kill, O.kill, killS_app, killM_app, Nat.reduceAdd, Nat.reduceLeDiff, Nat.reduceEqDiff, Nat.reduceMul, Int.reduceToNat, reduceIte, wf_i64, Int.reduceLE, Int.reduceNeg, beq_self_eq_true, decide_true, decide_false, ybeq_some, ybeq_none, beqT, beqF, empty_toList, exs]
  intro h
  have hb : belowR E p.classes a b = true := by simpa using h
  obtain rfl := below_err' hb
  have hsame := hE rfl
  obtain ⟨r, hr⟩ := fields_prefix hsame hb
  repeat (first | refine W.seq ?_ | refine W.block ?_ | refine W.skip ?_ | refine W.exit ?_ | refine W.region tab_ok 0 (by decide) (exec_run (by simp only [exec, stepQ, wantA, yieldA, kind, qv, qv1, qv2, stO, adrId, dataC, replC, eqNil, binNil, shiftInt, A.down, A1.up, downs, toR, ev, putS, rowO, ofConst, cellsA, cellsC, asC, asCs, ld, ldR, bin, binInt, binStr, binBool, sliceOf, bndOf, repl, fillC, zeroC, chunks, ptrIds, tabs, upd_app, mem_nil_app, entry_zero, entry_succ, entry_nil, top_app, maxStr, ByteArray.size, A.kill, O.kill, killS_app, killM_app, Nat.reduceAdd, Nat.reduceLeDiff, Nat.reduceEqDiff, Nat.reduceMul, Int.reduceToNat, reduceIte, wf_i64, Int.reduceLE, Int.reduceNeg, beq_self_eq_true, decide_true, decide_false, ybeq_some, ybeq_none, beqT, beqF, empty_toList, exs]; rfl)) ?_)
  refine W.regionK tab_ok 0 (by decide) ?_
  refine runk_split 2 (by simp only [exec, stepQ, wantA, yieldA, kind, qv, qv1, qv2, stO, adrId, dataC, replC, eqNil, binNil, shiftInt, A.down, A1.up, downs, toR, ev, putS, rowO, ofConst, cellsA, cellsC, asC, asCs, ld, ldR, bin, binInt, binStr, binBool, sliceOf, bndOf, repl, fillC, zeroC, chunks, ptrIds, tabs, upd_app, mem_nil_app, entry_zero, entry_succ, entry_nil, top_app, maxStr, ByteArray.size, A.kill, O.kill, killS_app, killM_app, Nat.reduceAdd, Nat.reduceLeDiff, Nat.reduceEqDiff, Nat.reduceMul, Int.reduceToNat, reduceIte, wf_i64, Int.reduceLE, Int.reduceNeg, beq_self_eq_true, decide_true, decide_false, ybeq_some, ybeq_none, beqT, beqF, empty_toList, exs, cProg]; rfl) ?_
  refine runk_call rfl rfl rfl rfl rfl (by simp) (cvs_cons cv_refl (cvs_cons cv_refl cvs_nil)) (hF a _) ?_
  refine runk_exec (by simp only [exec, stepQ, wantA, yieldA, kind, qv, qv1, qv2, stO, adrId, dataC, replC, eqNil, binNil, shiftInt, A.down, A1.up, downs, toR, ev, putS, rowO, ofConst, cellsA, cellsC, asC, asCs, ld, ldR, bin, binInt, binStr, binBool, sliceOf, bndOf, repl, fillC, zeroC, chunks, ptrIds, tabs, upd_app, mem_nil_app, entry_zero, entry_succ, entry_nil, top_app, maxStr, ByteArray.size, A.kill, O.kill, killS_app, killM_app, Nat.reduceAdd, Nat.reduceLeDiff, Nat.reduceEqDiff, Nat.reduceMul, Int.reduceToNat, reduceIte, wf_i64, Int.reduceLE, Int.reduceNeg, beq_self_eq_true, decide_true, decide_false, ybeq_some, ybeq_none, beqT, beqF, empty_toList, exs]; rfl) ?_
  repeat (first | refine W.seq ?_ | refine W.block ?_ | refine W.skip ?_ | refine W.exit ?_ | refine W.region tab_ok 0 (by decide) (exec_run (by simp only [exec, stepQ, wantA, yieldA, kind, qv, qv1, qv2, stO, adrId, dataC, replC, eqNil, binNil, shiftInt, A.down, A1.up, downs, toR, ev, putS, rowO, ofConst, cellsA, cellsC, asC, asCs, ld, ldR, bin, binInt, binStr, binBool, sliceOf, bndOf, repl, fillC, zeroC, chunks, ptrIds, tabs, upd_app, mem_nil_app, entry_zero, entry_succ, entry_nil, top_app, maxStr, ByteArray.size, A.kill, O.kill, killS_app, killM_app, Nat.reduceAdd, Nat.reduceLeDiff, Nat.reduceEqDiff, Nat.reduceMul, Int.reduceToNat, reduceIte, wf_i64, Int.reduceLE, Int.reduceNeg, beq_self_eq_true, decide_true, decide_false, ybeq_some, ybeq_none, beqT, beqF, empty_toList, exs]; rfl)) ?_)
  refine W.regionK tab_ok 0 (by decide) ?_
  refine runk_split 2 (by simp only [exec, stepQ, wantA, yieldA, kind, qv, qv1, qv2, stO, adrId, dataC, replC, eqNil, binNil, shiftInt, A.down, A1.up, downs, toR, ev, putS, rowO, ofConst, cellsA, cellsC, asC, asCs, ld, ldR, bin, binInt, binStr, binBool, sliceOf, bndOf, repl, fillC, zeroC, chunks, ptrIds, tabs, upd_app, mem_nil_app, entry_zero, entry_succ, entry_nil, top_app, maxStr, ByteArray.size, A.kill, O.kill, killS_app, killM_app, Nat.reduceAdd, Nat.reduceLeDiff, Nat.reduceEqDiff, Nat.reduceMul, Int.reduceToNat, reduceIte, wf_i64, Int.reduceLE, Int.reduceNeg, beq_self_eq_true, decide_true, decide_false, ybeq_some, ybeq_none, beqT, beqF, empty_toList, exs, cProg]; rfl) ?_
  refine runk_call rfl rfl rfl rfl rfl (by simp) (cvs_cons cv_refl (cvs_cons cv_refl cvs_nil)) (hF b _) ?_
  refine runk_exec (by simp only [exec, stepQ, wantA, yieldA, kind, qv, qv1, qv2, stO, adrId, dataC, replC, eqNil, binNil, shiftInt, A.down, A1.up, downs, toR, ev, putS, rowO, ofConst, cellsA, cellsC, asC, asCs, ld, ldR, bin, binInt, binStr, binBool, sliceOf, bndOf, repl, fillC, zeroC, chunks, ptrIds, tabs, upd_app, mem_nil_app, entry_zero, entry_succ, entry_nil, top_app, maxStr, ByteArray.size, A.kill, O.kill, killS_app, killM_app, Nat.reduceAdd, Nat.reduceLeDiff, Nat.reduceEqDiff, Nat.reduceMul, Int.reduceToNat, reduceIte, wf_i64, Int.reduceLE, Int.reduceNeg, beq_self_eq_true, decide_true, decide_false, ybeq_some, ybeq_none, beqT, beqF, empty_toList, exs]; rfl) ?_
  repeat (first | refine W.seq ?_ | refine W.block ?_ | refine W.skip ?_ | refine W.exit ?_ | refine W.region tab_ok 0 (by decide) (exec_run (by simp only [exec, stepQ, wantA, yieldA, kind, qv, qv1, qv2, stO, adrId, dataC, replC, eqNil, binNil, shiftInt, A.down, A1.up, downs, toR, ev, putS, rowO, ofConst, cellsA, cellsC, asC, asCs, ld, ldR, bin, binInt, binStr, binBool, sliceOf, bndOf, repl, fillC, zeroC, chunks, ptrIds, tabs, upd_app, mem_nil_app, entry_zero, entry_succ, entry_nil, top_app, maxStr, ByteArray.size, A.kill, O.kill, killS_app, killM_app, Nat.reduceAdd, Nat.reduceLeDiff, Nat.reduceEqDiff, Nat.reduceMul, Int.reduceToNat, reduceIte, wf_i64, Int.reduceLE, Int.reduceNeg, beq_self_eq_true, decide_true, decide_false, ybeq_some, ybeq_none, beqT, beqF, empty_toList, exs]; rfl)) ?_)
  have hmp : ∀ m d, methodR 0 p.classes b n = some (m, d) → m.params.length ≤ 1048576 := fun m d h => method_small hS h
  have hme := fun m d h => method_have (n := n) (m := m) (d := d) hsame (hPr rfl) hb h
  generalize fieldsR 0 p.classes b = FB at hr ⊢
  rw [hr]
  have hlt : decide (((FB ++ r).length : Int) < (FB.length : Int)) = false := by rw [List.length_append]; simp; omega
  have hle : FB.length ≤ (FB ++ r).length := by rw [List.length_append]; exact Nat.le_add_right _ _
  have htk : List.take FB.length (List.map cSlot (FB ++ r)) = List.map cSlot FB := by rw [← List.map_take, List.take_left]
  refine W.regionK tab_ok 0 (by decide) ?_
  refine runk_split 11 (by simp only [exec, stepQ, wantA, yieldA, kind, qv, qv1, qv2, stO, adrId, dataC, replC, eqNil, binNil, shiftInt, A.down, A1.up, downs, toR, ev, putS, rowO, ofConst, cellsA, cellsC, asC, asCs, ld, ldR, bin, binInt, binStr, binBool, sliceOf, bndOf, repl, fillC, zeroC, chunks, ptrIds, tabs, upd_app, mem_nil_app, entry_zero, entry_succ, entry_nil, top_app, maxStr, ByteArray.size, A.kill, O.kill, killS_app, killM_app, Nat.reduceAdd, Nat.reduceLeDiff, Nat.reduceEqDiff, Nat.reduceMul, Int.reduceToNat, reduceIte, wf_i64, Int.reduceLE, Int.reduceNeg, beq_self_eq_true, decide_true, decide_false, ybeq_some, ybeq_none, beqT, beqF, empty_toList, exs, hlt, hle, htk, Nat.sub_zero, Nat.zero_le]; rfl) ?_
  refine runk_call rfl rfl rfl rfl rfl (by simp) (cvs_cons cv_refl (cvs_cons cv_refl cvs_nil)) (sameSlots_ok FB _) ?_
  refine runk_exec (by simp only [exec, stepQ, wantA, yieldA, kind, qv, qv1, qv2, stO, adrId, dataC, replC, eqNil, binNil, shiftInt, A.down, A1.up, downs, toR, ev, putS, rowO, ofConst, cellsA, cellsC, asC, asCs, ld, ldR, bin, binInt, binStr, binBool, sliceOf, bndOf, repl, fillC, zeroC, chunks, ptrIds, tabs, upd_app, mem_nil_app, entry_zero, entry_succ, entry_nil, top_app, maxStr, ByteArray.size, A.kill, O.kill, killS_app, killM_app, Nat.reduceAdd, Nat.reduceLeDiff, Nat.reduceEqDiff, Nat.reduceMul, Int.reduceToNat, reduceIte, wf_i64, Int.reduceLE, Int.reduceNeg, beq_self_eq_true, decide_true, decide_false, ybeq_some, ybeq_none, beqT, beqF, empty_toList, exs, hlt]; rfl) ?_
  refine W.cond rfl (fun h => by simp at h) (fun _ => ?_)
  repeat (first | refine W.seq ?_ | refine W.block ?_ | refine W.skip ?_ | refine W.exit ?_ | refine W.region tab_ok 0 (by decide) (exec_run (by simp only [exec, stepQ, wantA, yieldA, kind, qv, qv1, qv2, stO, adrId, dataC, replC, eqNil, binNil, shiftInt, A.down, A1.up, downs, toR, ev, putS, rowO, ofConst, cellsA, cellsC, asC, asCs, ld, ldR, bin, binInt, binStr, binBool, sliceOf, bndOf, repl, fillC, zeroC, chunks, ptrIds, tabs, upd_app, mem_nil_app, entry_zero, entry_succ, entry_nil, top_app, maxStr, ByteArray.size, A.kill, O.kill, killS_app, killM_app, Nat.reduceAdd, Nat.reduceLeDiff, Nat.reduceEqDiff, Nat.reduceMul, Int.reduceToNat, reduceIte, wf_i64, Int.reduceLE, Int.reduceNeg, beq_self_eq_true, decide_true, decide_false, ybeq_some, ybeq_none, beqT, beqF, empty_toList, exs]; rfl)) ?_)
  refine W.regionK tab_ok 0 (by decide) ?_
  refine runk_split 3 (by simp only [exec, stepQ, wantA, yieldA, kind, qv, qv1, qv2, stO, adrId, dataC, replC, eqNil, binNil, shiftInt, A.down, A1.up, downs, toR, ev, putS, rowO, ofConst, cellsA, cellsC, asC, asCs, ld, ldR, bin, binInt, binStr, binBool, sliceOf, bndOf, repl, fillC, zeroC, chunks, ptrIds, tabs, upd_app, mem_nil_app, entry_zero, entry_succ, entry_nil, top_app, maxStr, ByteArray.size, A.kill, O.kill, killS_app, killM_app, Nat.reduceAdd, Nat.reduceLeDiff, Nat.reduceEqDiff, Nat.reduceMul, Int.reduceToNat, reduceIte, wf_i64, Int.reduceLE, Int.reduceNeg, beq_self_eq_true, decide_true, decide_false, ybeq_some, ybeq_none, beqT, beqF, empty_toList, exs, cProg]; rfl) ?_
  refine runk_call rfl rfl rfl rfl rfl (by simp) (cvs_cons cv_refl (cvs_cons cv_refl (cvs_cons cv_refl cvs_nil))) (hM b n _) ?_
  have hMa := hM a n
  cases hmb : methodR 0 p.classes b n with
  | none =>
    refine runk_exec (by simp only [exec, stepQ, wantA, yieldA, kind, qv, qv1, qv2, stO, adrId, dataC, replC, eqNil, binNil, shiftInt, A.down, A1.up, downs, toR, ev, putS, rowO, ofConst, cellsA, cellsC, asC, asCs, ld, ldR, bin, binInt, binStr, binBool, sliceOf, bndOf, repl, fillC, zeroC, chunks, ptrIds, tabs, upd_app, mem_nil_app, entry_zero, entry_succ, entry_nil, top_app, maxStr, ByteArray.size, A.kill, O.kill, killS_app, killM_app, Nat.reduceAdd, Nat.reduceLeDiff, Nat.reduceEqDiff, Nat.reduceMul, Int.reduceToNat, reduceIte, wf_i64, Int.reduceLE, Int.reduceNeg, beq_self_eq_true, decide_true, decide_false, ybeq_some, ybeq_none, beqT, beqF, empty_toList, exs, methodC, cMethod]; rfl) ?_
    repeat (first | refine W.seq ?_ | refine W.block ?_ | refine W.skip ?_ | refine W.exit ?_ | refine W.region tab_ok 0 (by decide) (exec_run (by simp only [exec, stepQ, wantA, yieldA, kind, qv, qv1, qv2, stO, adrId, dataC, replC, eqNil, binNil, shiftInt, A.down, A1.up, downs, toR, ev, putS, rowO, ofConst, cellsA, cellsC, asC, asCs, ld, ldR, bin, binInt, binStr, binBool, sliceOf, bndOf, repl, fillC, zeroC, chunks, ptrIds, tabs, upd_app, mem_nil_app, entry_zero, entry_succ, entry_nil, top_app, maxStr, ByteArray.size, A.kill, O.kill, killS_app, killM_app, Nat.reduceAdd, Nat.reduceLeDiff, Nat.reduceEqDiff, Nat.reduceMul, Int.reduceToNat, reduceIte, wf_i64, Int.reduceLE, Int.reduceNeg, beq_self_eq_true, decide_true, decide_false, ybeq_some, ybeq_none, beqT, beqF, empty_toList, exs, cProg]; rfl)) ?_)
    refine W.regionK tab_ok 0 (by decide) ?_
    refine runk_split 3 (by simp only [exec, stepQ, wantA, yieldA, kind, qv, qv1, qv2, stO, adrId, dataC, replC, eqNil, binNil, shiftInt, A.down, A1.up, downs, toR, ev, putS, rowO, ofConst, cellsA, cellsC, asC, asCs, ld, ldR, bin, binInt, binStr, binBool, sliceOf, bndOf, repl, fillC, zeroC, chunks, ptrIds, tabs, upd_app, mem_nil_app, entry_zero, entry_succ, entry_nil, top_app, maxStr, ByteArray.size, A.kill, O.kill, killS_app, killM_app, Nat.reduceAdd, Nat.reduceLeDiff, Nat.reduceEqDiff, Nat.reduceMul, Int.reduceToNat, reduceIte, wf_i64, Int.reduceLE, Int.reduceNeg, beq_self_eq_true, decide_true, decide_false, ybeq_some, ybeq_none, beqT, beqF, empty_toList, exs, cProg]; rfl) ?_
    refine runk_call rfl rfl rfl rfl rfl (by simp) (cvs_cons cv_refl (cvs_cons cv_refl (cvs_cons cv_refl cvs_nil))) (hMa _) ?_
    cases hma : methodR 0 p.classes a n with
    | none =>
      refine runk_exec (by simp only [exec, stepQ, wantA, yieldA, kind, qv, qv1, qv2, stO, adrId, dataC, replC, eqNil, binNil, shiftInt, A.down, A1.up, downs, toR, ev, putS, rowO, ofConst, cellsA, cellsC, asC, asCs, ld, ldR, bin, binInt, binStr, binBool, sliceOf, bndOf, repl, fillC, zeroC, chunks, ptrIds, tabs, upd_app, mem_nil_app, entry_zero, entry_succ, entry_nil, top_app, maxStr, ByteArray.size, A.kill, O.kill, killS_app, killM_app, Nat.reduceAdd, Nat.reduceLeDiff, Nat.reduceEqDiff, Nat.reduceMul, Int.reduceToNat, reduceIte, wf_i64, Int.reduceLE, Int.reduceNeg, beq_self_eq_true, decide_true, decide_false, ybeq_some, ybeq_none, beqT, beqF, empty_toList, exs, methodC, cMethod]; rfl) ?_
      repeat (first | refine W.seq ?_ | refine W.block ?_ | refine W.skip ?_ | refine W.exit ?_ | refine W.region tab_ok 0 (by decide) (exec_run (by simp only [exec, stepQ, wantA, yieldA, kind, qv, qv1, qv2, stO, adrId, dataC, replC, eqNil, binNil, shiftInt, A.down, A1.up, downs, toR, ev, putS, rowO, ofConst, cellsA, cellsC, asC, asCs, ld, ldR, bin, binInt, binStr, binBool, sliceOf, bndOf, repl, fillC, zeroC, chunks, ptrIds, tabs, upd_app, mem_nil_app, entry_zero, entry_succ, entry_nil, top_app, maxStr, ByteArray.size, A.kill, O.kill, killS_app, killM_app, Nat.reduceAdd, Nat.reduceLeDiff, Nat.reduceEqDiff, Nat.reduceMul, Int.reduceToNat, reduceIte, wf_i64, Int.reduceLE, Int.reduceNeg, beq_self_eq_true, decide_true, decide_false, ybeq_some, ybeq_none, beqT, beqF, empty_toList, exs, methodC]; rfl)) ?_)
      refine W.cond rfl (fun _ => ?_) (fun h => by simp at h)
      repeat (first | refine W.seq ?_ | refine W.block ?_ | refine W.skip ?_ | refine W.exit ?_ | refine W.region tab_ok 0 (by decide) (exec_run (by simp only [exec, stepQ, wantA, yieldA, kind, qv, qv1, qv2, stO, adrId, dataC, replC, eqNil, binNil, shiftInt, A.down, A1.up, downs, toR, ev, putS, rowO, ofConst, cellsA, cellsC, asC, asCs, ld, ldR, bin, binInt, binStr, binBool, sliceOf, bndOf, repl, fillC, zeroC, chunks, ptrIds, tabs, upd_app, mem_nil_app, entry_zero, entry_succ, entry_nil, top_app, maxStr, ByteArray.size, A.kill, O.kill, killS_app, killM_app, Nat.reduceAdd, Nat.reduceLeDiff, Nat.reduceEqDiff, Nat.reduceMul, Int.reduceToNat, reduceIte, wf_i64, Int.reduceLE, Int.reduceNeg, beq_self_eq_true, decide_true, decide_false, ybeq_some, ybeq_none, beqT, beqF, empty_toList, exs]; rfl)) ?_)
      refine W.ret ⟨.inr rfl, by rfl, ?_⟩
      simp only [Try.f7, resA, resOne, toT, fin, exec, stepQ, wantA, yieldA, kind, qv, qv1, qv2, stO, adrId, dataC, replC, eqNil, binNil, shiftInt, A.down, A1.up, downs, toR, ev, putS, rowO, ofConst, cellsA, cellsC, asC, asCs, ld, ldR, bin, binInt, binStr, binBool, sliceOf, bndOf, repl, fillC, zeroC, chunks, ptrIds, tabs, upd_app, mem_nil_app, entry_zero, entry_succ, entry_nil, top_app, maxStr, ByteArray.size, A.kill, O.kill, killS_app, killM_app, Nat.reduceAdd, Nat.reduceLeDiff, Nat.reduceEqDiff, Nat.reduceMul, Int.reduceToNat, reduceIte, wf_i64, Int.reduceLE, Int.reduceNeg, beq_self_eq_true, decide_true, decide_false, ybeq_some, ybeq_none, beqT, beqF, empty_toList, exs]
    | some q =>
      obtain ⟨ma, da⟩ := q
      refine runk_exec (by simp only [exec, stepQ, wantA, yieldA, kind, qv, qv1, qv2, stO, adrId, dataC, replC, eqNil, binNil, shiftInt, A.down, A1.up, downs, toR, ev, putS, rowO, ofConst, cellsA, cellsC, asC, asCs, ld, ldR, bin, binInt, binStr, binBool, sliceOf, bndOf, repl, fillC, zeroC, chunks, ptrIds, tabs, upd_app, mem_nil_app, entry_zero, entry_succ, entry_nil, top_app, maxStr, ByteArray.size, A.kill, O.kill, killS_app, killM_app, Nat.reduceAdd, Nat.reduceLeDiff, Nat.reduceEqDiff, Nat.reduceMul, Int.reduceToNat, reduceIte, wf_i64, Int.reduceLE, Int.reduceNeg, beq_self_eq_true, decide_true, decide_false, ybeq_some, ybeq_none, beqT, beqF, empty_toList, exs, methodC, cMethod]; rfl) ?_
      repeat (first | refine W.seq ?_ | refine W.block ?_ | refine W.skip ?_ | refine W.exit ?_ | refine W.region tab_ok 0 (by decide) (exec_run (by simp only [exec, stepQ, wantA, yieldA, kind, qv, qv1, qv2, stO, adrId, dataC, replC, eqNil, binNil, shiftInt, A.down, A1.up, downs, toR, ev, putS, rowO, ofConst, cellsA, cellsC, asC, asCs, ld, ldR, bin, binInt, binStr, binBool, sliceOf, bndOf, repl, fillC, zeroC, chunks, ptrIds, tabs, upd_app, mem_nil_app, entry_zero, entry_succ, entry_nil, top_app, maxStr, ByteArray.size, A.kill, O.kill, killS_app, killM_app, Nat.reduceAdd, Nat.reduceLeDiff, Nat.reduceEqDiff, Nat.reduceMul, Int.reduceToNat, reduceIte, wf_i64, Int.reduceLE, Int.reduceNeg, beq_self_eq_true, decide_true, decide_false, ybeq_some, ybeq_none, beqT, beqF, empty_toList, exs, methodC]; rfl)) ?_)
      refine W.cond rfl (fun _ => ?_) (fun h => by simp at h)
      repeat (first | refine W.seq ?_ | refine W.block ?_ | refine W.skip ?_ | refine W.exit ?_ | refine W.region tab_ok 0 (by decide) (exec_run (by simp only [exec, stepQ, wantA, yieldA, kind, qv, qv1, qv2, stO, adrId, dataC, replC, eqNil, binNil, shiftInt, A.down, A1.up, downs, toR, ev, putS, rowO, ofConst, cellsA, cellsC, asC, asCs, ld, ldR, bin, binInt, binStr, binBool, sliceOf, bndOf, repl, fillC, zeroC, chunks, ptrIds, tabs, upd_app, mem_nil_app, entry_zero, entry_succ, entry_nil, top_app, maxStr, ByteArray.size, A.kill, O.kill, killS_app, killM_app, Nat.reduceAdd, Nat.reduceLeDiff, Nat.reduceEqDiff, Nat.reduceMul, Int.reduceToNat, reduceIte, wf_i64, Int.reduceLE, Int.reduceNeg, beq_self_eq_true, decide_true, decide_false, ybeq_some, ybeq_none, beqT, beqF, empty_toList, exs]; rfl)) ?_)
      refine W.ret ⟨.inr rfl, by rfl, ?_⟩
      simp only [Try.f7, resA, resOne, toT, fin, exec, stepQ, wantA, yieldA, kind, qv, qv1, qv2, stO, adrId, dataC, replC, eqNil, binNil, shiftInt, A.down, A1.up, downs, toR, ev, putS, rowO, ofConst, cellsA, cellsC, asC, asCs, ld, ldR, bin, binInt, binStr, binBool, sliceOf, bndOf, repl, fillC, zeroC, chunks, ptrIds, tabs, upd_app, mem_nil_app, entry_zero, entry_succ, entry_nil, top_app, maxStr, ByteArray.size, A.kill, O.kill, killS_app, killM_app, Nat.reduceAdd, Nat.reduceLeDiff, Nat.reduceEqDiff, Nat.reduceMul, Int.reduceToNat, reduceIte, wf_i64, Int.reduceLE, Int.reduceNeg, beq_self_eq_true, decide_true, decide_false, ybeq_some, ybeq_none, beqT, beqF, empty_toList, exs]
  | some q =>
    obtain ⟨mb, db⟩ := q
    obtain ⟨ma, da, hma, hal⟩ := hme mb db hmb
    have hmpl := hmp mb db hmb
    rw [hma] at hMa
    rw [alike_iff] at hal
    obtain ⟨hty, hts⟩ := hal
    have hln : mb.params.length = ma.params.length := by have := congrArg List.length hts; simpa [typesOf] using this.symm
    have hty' : (mb.type.toList == ma.type.toList) = true := by simp [hty]
    refine runk_exec (by simp only [exec, stepQ, wantA, yieldA, kind, qv, qv1, qv2, stO, adrId, dataC, replC, eqNil, binNil, shiftInt, A.down, A1.up, downs, toR, ev, putS, rowO, ofConst, cellsA, cellsC, asC, asCs, ld, ldR, bin, binInt, binStr, binBool, sliceOf, bndOf, repl, fillC, zeroC, chunks, ptrIds, tabs, upd_app, mem_nil_app, entry_zero, entry_succ, entry_nil, top_app, maxStr, ByteArray.size, A.kill, O.kill, killS_app, killM_app, Nat.reduceAdd, Nat.reduceLeDiff, Nat.reduceEqDiff, Nat.reduceMul, Int.reduceToNat, reduceIte, wf_i64, Int.reduceLE, Int.reduceNeg, beq_self_eq_true, decide_true, decide_false, ybeq_some, ybeq_none, beqT, beqF, empty_toList, exs, methodC, cMethod]; rfl) ?_
    repeat (first | refine W.seq ?_ | refine W.block ?_ | refine W.skip ?_ | refine W.exit ?_ | refine W.region tab_ok 0 (by decide) (exec_run (by simp only [exec, stepQ, wantA, yieldA, kind, qv, qv1, qv2, stO, adrId, dataC, replC, eqNil, binNil, shiftInt, A.down, A1.up, downs, toR, ev, putS, rowO, ofConst, cellsA, cellsC, asC, asCs, ld, ldR, bin, binInt, binStr, binBool, sliceOf, bndOf, repl, fillC, zeroC, chunks, ptrIds, tabs, upd_app, mem_nil_app, entry_zero, entry_succ, entry_nil, top_app, maxStr, ByteArray.size, A.kill, O.kill, killS_app, killM_app, Nat.reduceAdd, Nat.reduceLeDiff, Nat.reduceEqDiff, Nat.reduceMul, Int.reduceToNat, reduceIte, wf_i64, Int.reduceLE, Int.reduceNeg, beq_self_eq_true, decide_true, decide_false, ybeq_some, ybeq_none, beqT, beqF, empty_toList, exs, cProg]; rfl)) ?_)
    refine W.regionK tab_ok 0 (by decide) ?_
    refine runk_split 3 (by simp only [exec, stepQ, wantA, yieldA, kind, qv, qv1, qv2, stO, adrId, dataC, replC, eqNil, binNil, shiftInt, A.down, A1.up, downs, toR, ev, putS, rowO, ofConst, cellsA, cellsC, asC, asCs, ld, ldR, bin, binInt, binStr, binBool, sliceOf, bndOf, repl, fillC, zeroC, chunks, ptrIds, tabs, upd_app, mem_nil_app, entry_zero, entry_succ, entry_nil, top_app, maxStr, ByteArray.size, A.kill, O.kill, killS_app, killM_app, Nat.reduceAdd, Nat.reduceLeDiff, Nat.reduceEqDiff, Nat.reduceMul, Int.reduceToNat, reduceIte, wf_i64, Int.reduceLE, Int.reduceNeg, beq_self_eq_true, decide_true, decide_false, ybeq_some, ybeq_none, beqT, beqF, empty_toList, exs, cProg]; rfl) ?_
    refine runk_call rfl rfl rfl rfl rfl (by simp) (cvs_cons cv_refl (cvs_cons cv_refl (cvs_cons cv_refl cvs_nil))) (hMa _) ?_
    refine runk_exec (by simp only [exec, stepQ, wantA, yieldA, kind, qv, qv1, qv2, stO, adrId, dataC, replC, eqNil, binNil, shiftInt, A.down, A1.up, downs, toR, ev, putS, rowO, ofConst, cellsA, cellsC, asC, asCs, ld, ldR, bin, binInt, binStr, binBool, sliceOf, bndOf, repl, fillC, zeroC, chunks, ptrIds, tabs, upd_app, mem_nil_app, entry_zero, entry_succ, entry_nil, top_app, maxStr, ByteArray.size, A.kill, O.kill, killS_app, killM_app, Nat.reduceAdd, Nat.reduceLeDiff, Nat.reduceEqDiff, Nat.reduceMul, Int.reduceToNat, reduceIte, wf_i64, Int.reduceLE, Int.reduceNeg, beq_self_eq_true, decide_true, decide_false, ybeq_some, ybeq_none, beqT, beqF, empty_toList, exs, methodC, cMethod]; rfl) ?_
    repeat (first | refine W.seq ?_ | refine W.block ?_ | refine W.skip ?_ | refine W.exit ?_ | refine W.region tab_ok 0 (by decide) (exec_run (by simp only [exec, stepQ, wantA, yieldA, kind, qv, qv1, qv2, stO, adrId, dataC, replC, eqNil, binNil, shiftInt, A.down, A1.up, downs, toR, ev, putS, rowO, ofConst, cellsA, cellsC, asC, asCs, ld, ldR, bin, binInt, binStr, binBool, sliceOf, bndOf, repl, fillC, zeroC, chunks, ptrIds, tabs, upd_app, mem_nil_app, entry_zero, entry_succ, entry_nil, top_app, maxStr, ByteArray.size, A.kill, O.kill, killS_app, killM_app, Nat.reduceAdd, Nat.reduceLeDiff, Nat.reduceEqDiff, Nat.reduceMul, Int.reduceToNat, reduceIte, wf_i64, Int.reduceLE, Int.reduceNeg, beq_self_eq_true, decide_true, decide_false, ybeq_some, ybeq_none, beqT, beqF, empty_toList, exs, methodC]; rfl)) ?_)
    refine W.cond rfl (fun h => by simp at h) (fun _ => ?_)
    repeat (first | refine W.seq ?_ | refine W.block ?_ | refine W.skip ?_ | refine W.exit ?_ | refine W.region tab_ok 0 (by decide) (exec_run (by simp only [exec, stepQ, wantA, yieldA, kind, qv, qv1, qv2, stO, adrId, dataC, replC, eqNil, binNil, shiftInt, A.down, A1.up, downs, toR, ev, putS, rowO, ofConst, cellsA, cellsC, asC, asCs, ld, ldR, bin, binInt, binStr, binBool, sliceOf, bndOf, repl, fillC, zeroC, chunks, ptrIds, tabs, upd_app, mem_nil_app, entry_zero, entry_succ, entry_nil, top_app, maxStr, ByteArray.size, A.kill, O.kill, killS_app, killM_app, Nat.reduceAdd, Nat.reduceLeDiff, Nat.reduceEqDiff, Nat.reduceMul, Int.reduceToNat, reduceIte, wf_i64, Int.reduceLE, Int.reduceNeg, beq_self_eq_true, decide_true, decide_false, ybeq_some, ybeq_none, beqT, beqF, empty_toList, exs, hty', hln]; rfl)) ?_)
    refine W.cond rfl (fun h => by simp at h) (fun _ => ?_)
    repeat (first | refine W.seq ?_ | refine W.block ?_ | refine W.skip ?_ | refine W.exit ?_ | refine W.region tab_ok 0 (by decide) (exec_run (by simp only [exec, stepQ, wantA, yieldA, kind, qv, qv1, qv2, stO, adrId, dataC, replC, eqNil, binNil, shiftInt, A.down, A1.up, downs, toR, ev, putS, rowO, ofConst, cellsA, cellsC, asC, asCs, ld, ldR, bin, binInt, binStr, binBool, sliceOf, bndOf, repl, fillC, zeroC, chunks, ptrIds, tabs, upd_app, mem_nil_app, entry_zero, entry_succ, entry_nil, top_app, maxStr, ByteArray.size, A.kill, O.kill, killS_app, killM_app, Nat.reduceAdd, Nat.reduceLeDiff, Nat.reduceEqDiff, Nat.reduceMul, Int.reduceToNat, reduceIte, wf_i64, Int.reduceLE, Int.reduceNeg, beq_self_eq_true, decide_true, decide_false, ybeq_some, ybeq_none, beqT, beqF, empty_toList, exs]; rfl)) ?_)
    refine W.loop (ι := Nat) (fun k => ⟨upd (upd (upd (upd (upd (upd (fun _ => .top) 9 (.c (.bool true))) 12 (.ptr 12 0)) 15 (.ptr 15 0)) 84 (.c (.sl (mb.params.map cSlot)))) 85 (.c (.int .i64 mb.params.length))) 86 (.c (.int .i64 k)),
      upd (upd Mem.nil 12 (some (.box 40 [.c (.str mb.type), .c (.str mb.name), .c (.sl (mb.params.map cSlot)), .c (.sl (cStmts mb.body))]))) 15 (some (.box 40 [.c (.str ma.type), .c (.str ma.name), .c (.sl (ma.params.map cSlot)), .c (.sl (cStmts ma.body))]))⟩)
      (fun k => k ≤ mb.params.length) (fun k => mb.params.length - k) 0 ?start (Nat.zero_le _) ?round
    case start =>
      refine le_mk ?sle ?mle ?swf ?mwf ?kept (by rfl)
      case kept => exact kept_not hkeep
      case swf => repeat (first | exact swf_top _ | refine swf_upd ?_ (by simp [A.ids, upd_app]))
      case mwf => repeat (first | exact mwf_nil _ | refine mwf_upd ?_ (by simp [A.ids, O.ids, upd_app]))
      case mle => repeat (first | exact mle_nil _ | exact mle_refl _ | refine mle_upd ?_ (by first | rfl | (simp only [upd_app, killM_app, Nat.reduceEqDiff, reduceIte, hln]; done)))
      case sle => repeat (first | exact sle_top _ | exact sle_refl _ | refine sle_upd ?_ (by first | rfl | (simp only [upd_app, entry_zero, entry_succ, Nat.reduceEqDiff, reduceIte, hln]; done)))
    case round =>
      intro k hk
      repeat (first | refine W.seq ?_ | refine W.block ?_ | refine W.skip ?_ | refine W.exit ?_ | refine W.region tab_ok 0 (by decide) (exec_run (by simp only [exec, stepQ, wantA, yieldA, kind, qv, qv1, qv2, stO, adrId, dataC, replC, eqNil, binNil, shiftInt, A.down, A1.up, downs, toR, ev, putS, rowO, ofConst, cellsA, cellsC, asC, asCs, ld, ldR, bin, binInt, binStr, binBool, sliceOf, bndOf, repl, fillC, zeroC, chunks, ptrIds, tabs, upd_app, mem_nil_app, entry_zero, entry_succ, entry_nil, top_app, maxStr, ByteArray.size, A.kill, O.kill, killS_app, killM_app, Nat.reduceAdd, Nat.reduceLeDiff, Nat.reduceEqDiff, Nat.reduceMul, Int.reduceToNat, reduceIte, wf_i64, Int.reduceLE, Int.reduceNeg, beq_self_eq_true, decide_true, decide_false, ybeq_some, ybeq_none, beqT, beqF, empty_toList, exs]; rfl)) ?_)
      refine W.cond rfl ?_ ?_
      · intro hlt
        simp only [decide_eq_true_eq, Int.ofNat_lt] at hlt
        obtain ⟨x, hx⟩ : ∃ x, mb.params[k]? = some x := ⟨_, List.getElem?_eq_getElem hlt⟩
        obtain ⟨y, hy, hxy⟩ := types_at hts.symm hx
        have hxy' : (x.type.toList == y.type.toList) = true := by simp [hxy]
        repeat (first | refine W.seq ?_ | refine W.block ?_ | refine W.skip ?_ | refine W.exit ?_ | refine W.region tab_ok 0 (by decide) (exec_run (by simp only [exec, stepQ, wantA, yieldA, kind, qv, qv1, qv2, stO, adrId, dataC, replC, eqNil, binNil, shiftInt, A.down, A1.up, downs, toR, ev, putS, rowO, ofConst, cellsA, cellsC, asC, asCs, ld, ldR, bin, binInt, binStr, binBool, sliceOf, bndOf, repl, fillC, zeroC, chunks, ptrIds, tabs, upd_app, mem_nil_app, entry_zero, entry_succ, entry_nil, top_app, maxStr, ByteArray.size, A.kill, O.kill, killS_app, killM_app, Nat.reduceAdd, Nat.reduceLeDiff, Nat.reduceEqDiff, Nat.reduceMul, Int.reduceToNat, reduceIte, wf_i64, Int.reduceLE, Int.reduceNeg, beq_self_eq_true, decide_true, decide_false, ybeq_some, ybeq_none, beqT, beqF, empty_toList, exs]; rfl)) ?_)
        refine W.regionDK tab_ok 0 follows_mixed (by kernel_rfl) (by decide) ?_
        refine runk_exec (by simp only [exec, stepQ, wantA, yieldA, kind, qv, qv1, qv2, stO, adrId, dataC, replC, eqNil, binNil, shiftInt, A.down, A1.up, downs, toR, ev, putS, rowO, ofConst, cellsA, cellsC, asC, asCs, ld, ldR, bin, binInt, binStr, binBool, sliceOf, bndOf, repl, fillC, zeroC, chunks, ptrIds, tabs, upd_app, mem_nil_app, entry_zero, entry_succ, entry_nil, top_app, maxStr, ByteArray.size, A.kill, O.kill, killS_app, killM_app, Nat.reduceAdd, Nat.reduceLeDiff, Nat.reduceEqDiff, Nat.reduceMul, Int.reduceToNat, reduceIte, wf_i64, Int.reduceLE, Int.reduceNeg, beq_self_eq_true, decide_true, decide_false, ybeq_some, ybeq_none, beqT, beqF, empty_toList, exs, at_map hx, at_map hy, cSlot, hxy']; rfl) ?_
        refine W.cond rfl (fun h => by simp at h) (fun _ => ?_)
        repeat (first | refine W.seq ?_ | refine W.block ?_ | refine W.skip ?_ | refine W.exit ?_ | refine W.region tab_ok 0 (by decide) (exec_run (by simp only [exec, stepQ, wantA, yieldA, kind, qv, qv1, qv2, stO, adrId, dataC, replC, eqNil, binNil, shiftInt, A.down, A1.up, downs, toR, ev, putS, rowO, ofConst, cellsA, cellsC, asC, asCs, ld, ldR, bin, binInt, binStr, binBool, sliceOf, bndOf, repl, fillC, zeroC, chunks, ptrIds, tabs, upd_app, mem_nil_app, entry_zero, entry_succ, entry_nil, top_app, maxStr, ByteArray.size, A.kill, O.kill, killS_app, killM_app, Nat.reduceAdd, Nat.reduceLeDiff, Nat.reduceEqDiff, Nat.reduceMul, Int.reduceToNat, reduceIte, wf_i64, Int.reduceLE, Int.reduceNeg, beq_self_eq_true, decide_true, decide_false, ybeq_some, ybeq_none, beqT, beqF, empty_toList, exs]; rfl)) ?_)
        refine ⟨k + 1, hlt, by omega, ?_⟩
        refine le_mk ?sle ?mle ?swf ?mwf ?kept (by rfl)
        case kept => exact kept_not hkeep
        case swf => repeat (first | exact swf_top _ | refine swf_upd ?_ (by simp [A.ids, upd_app]))
        case mwf => repeat (first | exact mwf_nil _ | refine mwf_upd ?_ (by simp [A.ids, O.ids, upd_app]))
        case mle => repeat (first | exact mle_nil _ | exact mle_refl _ | refine mle_upd ?_ (by first | rfl | (simp only [upd_app, killM_app, Nat.reduceEqDiff, reduceIte, wrap_succ (show k + 1 < 9223372036854775808 by omega)]; done)))
        case sle => repeat (first | exact sle_top _ | exact sle_refl _ | refine sle_upd ?_ (by first | rfl | (simp only [upd_app, entry_zero, entry_succ, Nat.reduceEqDiff, reduceIte, wrap_succ (show k + 1 < 9223372036854775808 by omega)]; done)))
      · intro hge
        repeat (first | refine W.seq ?_ | refine W.block ?_ | refine W.skip ?_ | refine W.exit ?_ | refine W.region tab_ok 0 (by decide) (exec_run (by simp only [exec, stepQ, wantA, yieldA, kind, qv, qv1, qv2, stO, adrId, dataC, replC, eqNil, binNil, shiftInt, A.down, A1.up, downs, toR, ev, putS, rowO, ofConst, cellsA, cellsC, asC, asCs, ld, ldR, bin, binInt, binStr, binBool, sliceOf, bndOf, repl, fillC, zeroC, chunks, ptrIds, tabs, upd_app, mem_nil_app, entry_zero, entry_succ, entry_nil, top_app, maxStr, ByteArray.size, A.kill, O.kill, killS_app, killM_app, Nat.reduceAdd, Nat.reduceLeDiff, Nat.reduceEqDiff, Nat.reduceMul, Int.reduceToNat, reduceIte, wf_i64, Int.reduceLE, Int.reduceNeg, beq_self_eq_true, decide_true, decide_false, ybeq_some, ybeq_none, beqT, beqF, empty_toList, exs]; rfl)) ?_)
        refine W.ret ⟨.inr rfl, by rfl, ?_⟩
        simp only [Try.f7, resA, resOne, toT, fin, exec, stepQ, wantA, yieldA, kind, qv, qv1, qv2, stO, adrId, dataC, replC, eqNil, binNil, shiftInt, A.down, A1.up, downs, toR, ev, putS, rowO, ofConst, cellsA, cellsC, asC, asCs, ld, ldR, bin, binInt, binStr, binBool, sliceOf, bndOf, repl, fillC, zeroC, chunks, ptrIds, tabs, upd_app, mem_nil_app, entry_zero, entry_succ, entry_nil, top_app, maxStr, ByteArray.size, A.kill, O.kill, killS_app, killM_app, Nat.reduceAdd, Nat.reduceLeDiff, Nat.reduceEqDiff, Nat.reduceMul, Int.reduceToNat, reduceIte, wf_i64, Int.reduceLE, Int.reduceNeg, beq_self_eq_true, decide_true, decide_false, ybeq_some, ybeq_none, beqT, beqF, empty_toList, exs]
end V
end Go.Proofs.Ytjciafpihdbedaa
end
section
set_option linter.unusedVariables false
set_option linter.unusedSimpArgs false
namespace Go.Proofs.Ytjciafpihdbedaa
namespace V
open Go.RowKit
section
variable {H : Type} {enc : TypeId × Value → H} {w : World} {held : Bool}
theorem smallEs_of {N : Nat} : ∀ {l : List Expr}, (∀ x ∈ l, SmallE N x) → SmallEs N l
  | [], _ => by simp only [SmallEs]
  | x :: l, h => by simp only [SmallEs]; exact ⟨h x (by simp), smallEs_of fun y hy => h y (List.mem_cons_of_mem _ hy)⟩
theorem smallSs_of {N : Nat} : ∀ {l : List Stmt}, (∀ x ∈ l, SmallS N x) → SmallSs N l
  | [], _ => by simp only [SmallSs]
  | x :: l, h => by simp only [SmallSs]; exact ⟨h x (by simp), smallSs_of fun y hy => h y (List.mem_cons_of_mem _ hy)⟩
theorem expr_small {N : Nat} : ∀ (d n : Nat) (cs : List Value) (x : Expr) (z : DataW H × List MemPlace), RExpr d w (· < w.heap.size) cs x → DataW.trod enc Try.prog w 0 (fun _ => true) held n 50 cs = some z → Rows.uptoBulk z.1 ≤ N → SmallE N x
  | 0, _, _, _, _, h, _, _ => h.elim
  | d + 1, n, cs, ⟨k, nn, nm, kids⟩, z, ⟨kv, e1, _, _, _, h5⟩, h, hN => by
    subst e1
    obtain ⟨n3, y3, k3, b3⟩ := struct_bulk fieldsExpr (by simp) h (46, 3) (by simp)
    rw [cellsOf_one _ c_exprs _ _ _ rfl] at k3
    obtain ⟨l3, hall⟩ := slice_bulk Try.underlying46 c_expr (by decide) (fun cs y hy => by cases d with | zero => exact hy.elim | succ d => obtain ⟨_, rfl, -⟩ := hy; rfl) k3 h5
    simp only [SmallE]
    refine ⟨Nat.le_trans l3 (Nat.le_trans b3 hN), smallEs_of fun y hy => ?_⟩
    obtain ⟨n4, cs4, z4, q1, q2, q3⟩ := hall y hy
    exact expr_small d n4 cs4 y z4 q1 q2 (by omega)
theorem exprs_small {N d n : Nat} {v : Value} {l : List Expr} {z : DataW H × List MemPlace} (h : RSl 4 (RExpr d w (· < w.heap.size)) w (· < w.heap.size) v l) (k : DataW.trod enc Try.prog w 0 (fun _ => true) held n 46 [v] = some z) (hN : Rows.uptoBulk z.1 ≤ N) : l.length ≤ N ∧ SmallEs N l := by
  obtain ⟨l3, hall⟩ := slice_bulk Try.underlying46 c_expr (by decide) (fun cs y hy => by cases d with | zero => exact hy.elim | succ d => obtain ⟨_, rfl, -⟩ := hy; rfl) k h
  refine ⟨by omega, smallEs_of fun y hy => ?_⟩
  obtain ⟨n4, cs4, z4, q1, q2, q3⟩ := hall y hy
  exact expr_small d n4 cs4 y z4 q1 q2 (by omega)
theorem stmt_small {N : Nat} : ∀ (d n : Nat) (cs : List Value) (x : Stmt) (z : DataW H × List MemPlace), RStmt d w (· < w.heap.size) cs x → DataW.trod enc Try.prog w 0 (fun _ => true) held n 48 cs = some z → Rows.uptoBulk z.1 ≤ N → SmallS N x
  | 0, _, _, _, _, h, _, _ => h.elim
  | d + 1, n, cs, ⟨k, nn, ty, nm, es, th, el⟩, z, ⟨ev, tv, fv, e1, _, _, _, _, h6, h7, h8⟩, h, hN => by
    subst e1
    have hlen : ∀ cs y, RStmt d w (· < w.heap.size) cs y → cs.length = 7 := fun cs y hy => by cases d with | zero => exact hy.elim | succ d => obtain ⟨_, _, _, rfl, -⟩ := hy; rfl
    obtain ⟨n4, y4, k4, b4⟩ := struct_bulk fieldsStmt (by simp) h (46, 4) (by simp)
    obtain ⟨n5, y5, k5, b5⟩ := struct_bulk fieldsStmt (by simp) h (23, 5) (by simp)
    obtain ⟨n6, y6, k6, b6⟩ := struct_bulk fieldsStmt (by simp) h (23, 6) (by simp)
    rw [cellsOf_one _ c_exprs _ _ _ rfl] at k4
    rw [cellsOf_one _ c_stmts _ _ _ rfl] at k5 k6
    obtain ⟨q1, q2⟩ := exprs_small h6 k4 (Nat.le_trans b4 hN)
    obtain ⟨l5, a5⟩ := slice_bulk Try.underlying23 c_stmt (by decide) hlen k5 h7
    obtain ⟨l6, a6⟩ := slice_bulk Try.underlying23 c_stmt (by decide) hlen k6 h8
    simp only [SmallS]
    refine ⟨q1, q2, Nat.le_trans l5 (Nat.le_trans b5 hN), smallSs_of fun y hy => ?_, Nat.le_trans l6 (Nat.le_trans b6 hN), smallSs_of fun y hy => ?_⟩
    · obtain ⟨n7, cs7, z7, r1, r2, r3⟩ := a5 y hy
      exact stmt_small d n7 cs7 y z7 r1 r2 (by omega)
    · obtain ⟨n7, cs7, z7, r1, r2, r3⟩ := a6 y hy
      exact stmt_small d n7 cs7 y z7 r1 r2 (by omega)
theorem smallB_of {d fuel : Nat} {cs : List Value} {x : DataW H × List MemPlace} {p : Program} (hp : RProgram d w (· < w.heap.size) (.agg cs.toArray) p) (h : DataW.trod enc Try.prog w 0 (fun _ => true) held fuel 25 cs = some x) (hN : Rows.uptoBulk x.1 ≤ 1048576) : SmallB p.classes := by
  obtain ⟨cv, mv, e1, h1, -⟩ := hp
  have e2 : cs = [cv, mv] := by simpa using congrArg Array.toList (Value.agg.inj e1)
  subst e2
  obtain ⟨n1, y1, k1, b1⟩ := struct_bulk fieldsProgram (by simp) h (22, 0) (by simp)
  rw [cellsOf_one _ c_classes _ _ _ rfl] at k1
  obtain ⟨l1, hall⟩ := slice_bulk Try.underlying22 c_class (by decide) (fun cs y hy => by obtain ⟨_, _, rfl, -⟩ := hy; rfl) k1 h1
  intro c hc m hm
  obtain ⟨n2, cs2, y2, hc2, k2, b2⟩ := hall c hc
  obtain ⟨fv, mv2, rfl, -, -, hf, hmm⟩ := hc2
  obtain ⟨n4, y4, k4, b4⟩ := struct_bulk fieldsClass (by simp) k2 (35, 3) (by simp)
  rw [cellsOf_one _ c_methods _ _ _ rfl] at k4
  obtain ⟨l4, hall4⟩ := slice_bulk Try.underlying35 c_method (by decide) (fun cs y hy => by obtain ⟨_, _, rfl, -⟩ := hy; rfl) k4 hmm
  obtain ⟨n5, cs5, y5, hc5, k5, b5⟩ := hall4 m hm
  obtain ⟨pv, bv, rfl, -, -, -, hbody⟩ := hc5
  obtain ⟨n6, y6, k6, b6⟩ := struct_bulk fieldsMethod (by simp) k5 (23, 3) (by simp)
  rw [cellsOf_one _ c_stmts _ _ _ rfl] at k6
  obtain ⟨l6, a6⟩ := slice_bulk Try.underlying23 c_stmt (by decide) (fun cs y hy => by cases d with | zero => exact hy.elim | succ d => obtain ⟨_, _, _, rfl, -⟩ := hy; rfl) k6 hbody
  refine ⟨by omega, smallSs_of fun y hy => ?_⟩
  obtain ⟨n7, cs7, z7, r1, r2, r3⟩ := a6 y hy
  exact stmt_small d n7 cs7 y z7 r1 r2 (by omega)
end
end V
end Go.Proofs.Ytjciafpihdbedaa
end
section
set_option linter.unusedVariables false
set_option linter.unusedSimpArgs false
namespace Go.Proofs.Ytjciafpihdbedaa
open Go.ChangeShapes Go.WideShapes Go.ChangeAt Go.RowKit
open Go.ChangeMaps (open_string shut_string)
open V
theorem classesHave_met (os : Os) : laidMet Try.prog Rows.classesHaveUptoRow.laid ((World.holding Try.prog os ⟨#[], #[], []⟩).forCall (fun _ _ => 0) ⟨#[], #[.agg #[.slice none 0 0, .slice none 0 0], .string ⟨#[]⟩, .string ⟨#[]⟩, .string ⟨#[]⟩], []⟩).memory :=
  laidMet_of_run' 8 (by kernel_rfl) (by kernel_rfl)
theorem classesHave_reads (os : Os) {H : Type} (enc : TypeId × Value → H) : ∃ places, DataW.whole enc Try.prog ((World.holding Try.prog os ⟨#[], #[], []⟩).forCall (fun _ _ => 0) ⟨#[], #[.agg #[.slice none 0 0, .slice none 0 0], .string ⟨#[]⟩, .string ⟨#[]⟩, .string ⟨#[]⟩], []⟩).memory Try.f7.params.toList Rows.classesHaveSpec.vars false (#[.agg #[.slice none 0 0, .slice none 0 0], .string ⟨#[]⟩, .string ⟨#[]⟩, .string ⟨#[]⟩] : Array Value).toList 8 = some ([.agg [.nil, .nil], .lit (.string []), .lit (.string []), .lit (.string [])], [], places) :=
  ⟨[], by kernel_rfl⟩
set_option maxRecDepth 100000 in
set_option maxHeartbeats 2000000 in
theorem classesHave_lifted (os : Os) (started : os.Started) (H : Type) (enc : TypeId × Value → H) (F : Stop.Interp) :
    ReturnsInHanded {} Try.checked os 7 .any ((Rows.OpenSpec.upto Rows.classesHaveSpec).preRow enc Try.prog Try.f7 Rows.classesHaveUptoRow.domain false Rows.classesHaveUptoRow.laid) (((Rows.OpenSpec.upto Rows.classesHaveSpec).at F).post enc Try.prog Try.f7 false true false false) := by
  obtain ⟨places, hx⟩ := classesHave_reads os enc
  refine returnsInHanded_of_row (C := Try.checked) (s := Rows.OpenSpec.upto Rows.classesHaveSpec) own started (by kernel_rfl) Try.func7
    (witness_row_at (enc := enc) (C := Try.checked) false (World.holding Try.prog os ⟨#[], #[], []⟩) #[.agg #[.slice none 0 0, .slice none 0 0], .string ⟨#[]⟩, .string ⟨#[]⟩, .string ⟨#[]⟩] rfl (by kernel_rfl) (by kernel_rfl) (by kernel_rfl)
      (OpenSpec.preRow_of_cond 8 hx (by kernel_rfl) (fun k hk => by cases hk; rfl) (by kernel_rfl) (classesHave_met os))) ?_
  intro W base args ds gs before hval0 hW _ hcond hsz0 _ hsh _
  have hbulk : Rows.uptoBulkAll (ds ++ gs) ≤ 1048576 := of_decide_eq_true (hcond _ rfl)
  clear hcond
  have hval : ∀ (j : Nat) t v, Try.f7.params[j]? = some t → args[j]? = some v → Value.okWide Try.prog W .any base t v := hval0
  have hW' := hW
  obtain ⟨p, q, hA0, hV, rfl, hfz, hnd⟩ := hW
  have hA : DataW.TrodAll enc Try.prog W 0 (fun _ => true) true Try.f7.params.toList args.toList ds p := hA0
  have hsz : ∀ n ∈ DataW.weightsEach Try.prog (Try.f7.params.toList ++ Rows.classesHaveSpec.plain.varTypes Try.prog) (ds ++ gs), n ≤ reachBytes := fun n hn => of_decide_eq_true (List.all_eq_true.1 hsz0 n hn)
  rw [Try.params7] at hA hval hsz
  clear hsz0
  obtain ⟨v0, vs0, d0, ds0, p0, q0, hargs, rfl, rfl, h0, r0⟩ := trodAll_cons hA
  obtain ⟨v1, vs1, d1, ds1, p1, q1, rfl, rfl, rfl, h1, r1⟩ := trodAll_cons r0
  obtain ⟨v2, vs2, d2, ds2, p2, q2, rfl, rfl, rfl, h2, r2⟩ := trodAll_cons r1
  obtain ⟨v3, vs3, d3, ds3, p3, q3, rfl, rfl, rfl, h3, r3⟩ := trodAll_cons r2
  obtain ⟨rfl, rfl, rfl⟩ := trodAll_nil r3
  obtain rfl : args = #[v0, v1, v2, v3] := by cases args; simp_all
  obtain ⟨rfl, rfl⟩ := trodVars_none hV
  clear hA0 hval0
  simp only [List.append_nil] at hW'
  have k0 := h0
  have lt0 : ∀ x ∈ p0, x.block < W.heap.size := by obtain ⟨m, hm⟩ := k0; exact DataW.trod_lt m _ _ _ hm
  have k1 := h1
  have lt1 : ∀ x ∈ p1, x.block < W.heap.size := by obtain ⟨m, hm⟩ := k1; exact DataW.trod_lt m _ _ _ hm
  have k2 := h2
  have lt2 : ∀ x ∈ p2, x.block < W.heap.size := by obtain ⟨m, hm⟩ := k2; exact DataW.trod_lt m _ _ _ hm
  have k3 := h3
  have lt3 : ∀ x ∈ p3, x.block < W.heap.size := by obtain ⟨m, hm⟩ := k3; exact DataW.trod_lt m _ _ _ hm
  have fit0 : Fits Try.prog 25 d0 := fun n hn => hsz n (DataW.weights_mem_each (j := 0) rfl rfl n hn)
  have hG : GlobOk W := cell_of_shapedOpen_int (zero := #[.int .i64 0]) (t := 3) hsh (of_decide_eq_true (by kernel_rfl)) (by kernel_rfl) rfl (by kernel_rfl) (by kernel_rfl) Try.underlying3
  obtain ⟨cs0, rfl, -⟩ := okWide_struct Try.underlying25 (hval 0 25 v0 rfl rfl)
  obtain ⟨e0, g0, w0⟩ := read_program fit0 h0 ⟨cs0, rfl⟩
  obtain ⟨n0, hn0⟩ := h0
  obtain ⟨hlen, hS⟩ := small_of (cs := cs0.toList) (N := 1048576) (x := (d0, p0)) (by simpa using w0) hn0 (Nat.le_trans (bulk_mem (by simp)) hbulk)
  have hBo := smallB_of (cs := cs0.toList) (x := (d0, p0)) (by simpa using w0) hn0 (Nat.le_trans (bulk_mem (by simp)) hbulk)
  have fit1 : Fits Try.prog 9 d1 := fun n hn => hsz n (DataW.weights_mem_each (j := 1) rfl rfl n hn)
  obtain ⟨m1, h11⟩ := h1
  obtain ⟨s1, es1, gs1, -⟩ := DataW.trod_string Try.underlying9 h11
  have ls1 : s1.size ≤ maxS := fit_string gs1 fit1
  obtain ⟨u1, rfl⟩ := okWide_string Try.underlying9 (hval 1 9 v1 rfl rfl)
  obtain rfl : u1 = s1 := by simpa [Value.cells] using es1
  have fit2 : Fits Try.prog 9 d2 := fun n hn => hsz n (DataW.weights_mem_each (j := 2) rfl rfl n hn)
  obtain ⟨m2, h22⟩ := h2
  obtain ⟨s2, es2, gs2, -⟩ := DataW.trod_string Try.underlying9 h22
  have ls2 : s2.size ≤ maxS := fit_string gs2 fit2
  obtain ⟨u2, rfl⟩ := okWide_string Try.underlying9 (hval 2 9 v2 rfl rfl)
  obtain rfl : u2 = s2 := by simpa [Value.cells] using es2
  have fit3 : Fits Try.prog 9 d3 := fun n hn => hsz n (DataW.weights_mem_each (j := 3) rfl rfl n hn)
  obtain ⟨m3, h33⟩ := h3
  obtain ⟨s3, es3, gs3, -⟩ := DataW.trod_string Try.underlying9 h33
  have ls3 : s3.size ≤ maxS := fit_string gs3 fit3
  obtain ⟨u3, rfl⟩ := okWide_string Try.underlying9 (hval 3 9 v3 rfl rfl)
  obtain rfl : u3 = s3 := by simpa [Value.cells] using es3
  refine (cok_true (vals := [_, _, _, _]) (lawHave_ok g0 u1 u2 u3 hS hBo hlen _) hG (fun B => ⟨rv_prog w0, rv_str ls1, rv_str ls2, rv_str ls3, trivial⟩)).mono fun e W' ⟨he, bel⟩ => ?_
  subst he
  exact ⟨_, rfl, _, _, _, [], _, [], hW', trodAll_mk1 (shut_bool Try.underlying4 _), trodAll_cons_mk (Below.trod laidOut (by kernel_rfl) (of_decide_eq_true (by kernel_rfl)) k0 bel lt0) (trodAll_cons_mk (Below.trod laidOut (by kernel_rfl) (of_decide_eq_true (by kernel_rfl)) k1 bel lt1) (trodAll_cons_mk (Below.trod laidOut (by kernel_rfl) (of_decide_eq_true (by kernel_rfl)) k2 bel lt2) (trodAll_cons_mk (Below.trod laidOut (by kernel_rfl) (of_decide_eq_true (by kernel_rfl)) k3 bel lt3) trodAll_mk0))), rfl, bel.frame _, fun h => by cases h⟩
theorem classesHave_holds : Rows.ClassesHaveUptoSaid :=
  OpenClaim.holds_of_cond 7 Try.f7 rfl rfl rfl rfl rfl rfl rfl ⟨rfl, rfl, rfl, rfl, rfl⟩ rfl rfl rfl rfl rfl (by kernel_rfl) Try.func7 (by kernel_rfl)
    (of_decide_eq_true (by kernel_rfl)) (by unfold Func.isWrapper; first | (rw [if_pos (by decide +kernel)]; kernel_rfl) | (rw [if_neg (by decide +kernel)]; exact ⟨rfl, rfl⟩))
    (fun os started H enc _ F => by rw [OpenClaim.pre_eq_preRow]; exact classesHave_lifted os started H enc F)
end Go.Proofs.Ytjciafpihdbedaa
end
