/- Joined by my own program, in build order: Cchk, Vy, Vz, Plain, Plain2, Claw, Claw2, Order, GrowS, Clones, Clone, Frz, Cfld, Cexp, Cfld2, Vtree. -/
import Derived.Test.YtjciafpihdbedaaH4
import Derived.Test.YtjciafpihdbedaaH2
import Derived.Test.YtjciafpihdbedaaH3
import Derived.Lib.Walk
import Derived.Lib.SliceRun
import Derived.Lib.AppendZerosOnto
import Derived.Shelf.SlicesE.Clone
import Derived.Test.YtjciafpihdbedaaProg
set_option linter.unusedVariables false
set_option linter.unusedSimpArgs false
section
set_option linter.unusedVariables false
set_option linter.unusedSimpArgs false
namespace Go.Proofs.Ytjciafpihdbedaa
namespace V
open Go.RowKit
set_option linter.unusedSimpArgs false
theorem check1_ok (cs : List Class) (mn : C) (c : Class) (hS : SmallC cs) (hlen : cs.length ≤ 16) (hc : c ∈ cs) (m : Mem) : COk Try.prog 25 [.agg (cClass c), .rptr [.sl (cs.map cClass), mn]] m (.c (.bool (!okClassB cs c))) := by
  refine (ok_pure tab_ok Try.func25 (by kernel_rfl) rfl rfl (by rfl) (by rfl) (by rfl) (fun R hkeep => ?_) m)
  repeat (first | refine W.seq ?_ | refine W.block ?_ | refine W.skip ?_ | refine W.exit ?_ | refine W.region tab_ok 0 (by decide) (exec_run (by simp only [exec, stepQ, wantA, yieldA, kind, qv, qv1, qv2, stO, adrId, dataC, replC, eqNil, binNil, shiftInt, A.down, A1.up, downs, toR, ev, putS, rowO, ofConst, cellsA, cellsC, asC, asCs, ld, ldR, bin, binInt, binStr, binBool, sliceOf, bndOf, repl, fillC, zeroC, chunks, ptrIds, tabs, upd_app, mem_nil_app, entry_zero, entry_succ, entry_nil, top_app, maxStr, ByteArray.size, A.kill, O.kill, killS_app, killM_app, Nat.reduceAdd, Nat.reduceLeDiff, Nat.reduceEqDiff, Nat.reduceMul, Int.reduceToNat, reduceIte, wf_i64, Int.reduceLE, Int.reduceNeg, beq_self_eq_true, decide_true, decide_false, ybeq_some, ybeq_none, beqT, beqF, empty_toList, exs, cClass]; rfl)) ?_)
  refine W.regionK tab_ok 0 (by decide) ?_
  refine runk_split 2 (by simp only [exec, stepQ, wantA, yieldA, kind, qv, qv1, qv2, stO, adrId, dataC, replC, eqNil, binNil, shiftInt, A.down, A1.up, downs, toR, ev, putS, rowO, ofConst, cellsA, cellsC, asC, asCs, ld, ldR, bin, binInt, binStr, binBool, sliceOf, bndOf, repl, fillC, zeroC, chunks, ptrIds, tabs, upd_app, mem_nil_app, entry_zero, entry_succ, entry_nil, top_app, maxStr, ByteArray.size, A.kill, O.kill, killS_app, killM_app, Nat.reduceAdd, Nat.reduceLeDiff, Nat.reduceEqDiff, Nat.reduceMul, Int.reduceToNat, reduceIte, wf_i64, Int.reduceLE, Int.reduceNeg, beq_self_eq_true, decide_true, decide_false, ybeq_some, ybeq_none, beqT, beqF, empty_toList, exs, cClass]; rfl) ?_
  refine runk_call rfl rfl rfl rfl rfl (by simp) (cvs_cons cv_refl (cvs_cons cv_refl cvs_nil)) (class_ok cs mn c hS hlen hc _) ?_
  refine runk_exec (by simp only [exec, stepQ, wantA, yieldA, kind, qv, qv1, qv2, stO, adrId, dataC, replC, eqNil, binNil, shiftInt, A.down, A1.up, downs, toR, ev, putS, rowO, ofConst, cellsA, cellsC, asC, asCs, ld, ldR, bin, binInt, binStr, binBool, sliceOf, bndOf, repl, fillC, zeroC, chunks, ptrIds, tabs, upd_app, mem_nil_app, entry_zero, entry_succ, entry_nil, top_app, maxStr, ByteArray.size, A.kill, O.kill, killS_app, killM_app, Nat.reduceAdd, Nat.reduceLeDiff, Nat.reduceEqDiff, Nat.reduceMul, Int.reduceToNat, reduceIte, wf_i64, Int.reduceLE, Int.reduceNeg, beq_self_eq_true, decide_true, decide_false, ybeq_some, ybeq_none, beqT, beqF, empty_toList, exs]; rfl) ?_
  refine W.ret ⟨.inr rfl, by rfl, ?_⟩
  simp only [Try.f25, resA, resOne, toT, fin, exec, stepQ, wantA, yieldA, kind, qv, qv1, qv2, stO, adrId, dataC, replC, eqNil, binNil, shiftInt, A.down, A1.up, downs, toR, ev, putS, rowO, ofConst, cellsA, cellsC, asC, asCs, ld, ldR, bin, binInt, binStr, binBool, sliceOf, bndOf, repl, fillC, zeroC, chunks, ptrIds, tabs, upd_app, mem_nil_app, entry_zero, entry_succ, entry_nil, top_app, maxStr, ByteArray.size, A.kill, O.kill, killS_app, killM_app, Nat.reduceAdd, Nat.reduceLeDiff, Nat.reduceEqDiff, Nat.reduceMul, Int.reduceToNat, reduceIte, wf_i64, Int.reduceLE, Int.reduceNeg, beq_self_eq_true, decide_true, decide_false, ybeq_some, ybeq_none, beqT, beqF, empty_toList, exs]
def chkErr (e : Int) (cs : List Class) : Int :=
  if e = 0 then (if 16 < cs.length then 6 else if onceB (cs.map (·.name)) = false then 60 else if cs.any (fun c => !okClassB cs c) = true then 60 else 0) else e
set_option maxHeartbeats 1000000 in
theorem check_ok (p : Program) (e : Int) (hS : SmallC p.classes) (hlen : p.classes.length ≤ 1000000000) (hck : ∀ m, COk Try.prog 22 [.agg (cProg p)] m (.c (.int .i64 e))) (m : Mem) :
    COk Try.prog 9 [.agg (cProg p)] m (.c (.int .i64 (chkErr e p.classes))) := by
  obtain ⟨cs, mn⟩ := p
  dsimp only at hS hlen hck ⊢
  refine (ok_pure tab_ok Try.func9 (by kernel_rfl) rfl rfl (by rfl) (by rfl) (by rfl) (fun R hkeep => ?_) m)
  repeat (first | refine W.seq ?_ | refine W.block ?_ | refine W.skip ?_ | refine W.exit ?_ | refine W.region tab_ok 0 (by decide) (exec_run (by simp only [exec, stepQ, wantA, yieldA, kind, qv, qv1, qv2, stO, adrId, dataC, replC, eqNil, binNil, shiftInt, A.down, A1.up, downs, toR, ev, putS, rowO, ofConst, cellsA, cellsC, asC, asCs, ld, ldR, bin, binInt, binStr, binBool, sliceOf, bndOf, repl, fillC, zeroC, chunks, ptrIds, tabs, upd_app, mem_nil_app, entry_zero, entry_succ, entry_nil, top_app, maxStr, ByteArray.size, A.kill, O.kill, killS_app, killM_app, Nat.reduceAdd, Nat.reduceLeDiff, Nat.reduceEqDiff, Nat.reduceMul, Int.reduceToNat, reduceIte, wf_i64, Int.reduceLE, Int.reduceNeg, beq_self_eq_true, decide_true, decide_false, ybeq_some, ybeq_none, beqT, beqF, empty_toList, exs, cProg]; rfl)) ?_)
  refine W.regionK tab_ok 0 (by decide) ?_
  refine runk_split 1 (by simp only [exec, stepQ, wantA, yieldA, kind, qv, qv1, qv2, stO, adrId, dataC, replC, eqNil, binNil, shiftInt, A.down, A1.up, downs, toR, ev, putS, rowO, ofConst, cellsA, cellsC, asC, asCs, ld, ldR, bin, binInt, binStr, binBool, sliceOf, bndOf, repl, fillC, zeroC, chunks, ptrIds, tabs, upd_app, mem_nil_app, entry_zero, entry_succ, entry_nil, top_app, maxStr, ByteArray.size, A.kill, O.kill, killS_app, killM_app, Nat.reduceAdd, Nat.reduceLeDiff, Nat.reduceEqDiff, Nat.reduceMul, Int.reduceToNat, reduceIte, wf_i64, Int.reduceLE, Int.reduceNeg, beq_self_eq_true, decide_true, decide_false, ybeq_some, ybeq_none, beqT, beqF, empty_toList, exs, cProg]; rfl) ?_
  refine runk_call rfl rfl rfl rfl rfl (by simp) (cvs_cons cv_refl cvs_nil) (hck _) ?_
  refine runk_exec (by simp only [exec, stepQ, wantA, yieldA, kind, qv, qv1, qv2, stO, adrId, dataC, replC, eqNil, binNil, shiftInt, A.down, A1.up, downs, toR, ev, putS, rowO, ofConst, cellsA, cellsC, asC, asCs, ld, ldR, bin, binInt, binStr, binBool, sliceOf, bndOf, repl, fillC, zeroC, chunks, ptrIds, tabs, upd_app, mem_nil_app, entry_zero, entry_succ, entry_nil, top_app, maxStr, ByteArray.size, A.kill, O.kill, killS_app, killM_app, Nat.reduceAdd, Nat.reduceLeDiff, Nat.reduceEqDiff, Nat.reduceMul, Int.reduceToNat, reduceIte, wf_i64, Int.reduceLE, Int.reduceNeg, beq_self_eq_true, decide_true, decide_false, ybeq_some, ybeq_none, beqT, beqF, empty_toList, exs]; rfl) ?_
  repeat (first | refine W.seq ?_ | refine W.block ?_ | refine W.skip ?_ | refine W.exit ?_ | refine W.region tab_ok 0 (by decide) (exec_run (by simp only [exec, stepQ, wantA, yieldA, kind, qv, qv1, qv2, stO, adrId, dataC, replC, eqNil, binNil, shiftInt, A.down, A1.up, downs, toR, ev, putS, rowO, ofConst, cellsA, cellsC, asC, asCs, ld, ldR, bin, binInt, binStr, binBool, sliceOf, bndOf, repl, fillC, zeroC, chunks, ptrIds, tabs, upd_app, mem_nil_app, entry_zero, entry_succ, entry_nil, top_app, maxStr, ByteArray.size, A.kill, O.kill, killS_app, killM_app, Nat.reduceAdd, Nat.reduceLeDiff, Nat.reduceEqDiff, Nat.reduceMul, Int.reduceToNat, reduceIte, wf_i64, Int.reduceLE, Int.reduceNeg, beq_self_eq_true, decide_true, decide_false, ybeq_some, ybeq_none, beqT, beqF, empty_toList, exs]; rfl)) ?_)
  refine W.cond rfl ?_ ?_
  · intro h
    have he : e ≠ 0 := by simpa using h
    repeat (first | refine W.seq ?_ | refine W.block ?_ | refine W.skip ?_ | refine W.exit ?_ | refine W.region tab_ok 0 (by decide) (exec_run (by simp only [exec, stepQ, wantA, yieldA, kind, qv, qv1, qv2, stO, adrId, dataC, replC, eqNil, binNil, shiftInt, A.down, A1.up, downs, toR, ev, putS, rowO, ofConst, cellsA, cellsC, asC, asCs, ld, ldR, bin, binInt, binStr, binBool, sliceOf, bndOf, repl, fillC, zeroC, chunks, ptrIds, tabs, upd_app, mem_nil_app, entry_zero, entry_succ, entry_nil, top_app, maxStr, ByteArray.size, A.kill, O.kill, killS_app, killM_app, Nat.reduceAdd, Nat.reduceLeDiff, Nat.reduceEqDiff, Nat.reduceMul, Int.reduceToNat, reduceIte, wf_i64, Int.reduceLE, Int.reduceNeg, beq_self_eq_true, decide_true, decide_false, ybeq_some, ybeq_none, beqT, beqF, empty_toList, exs]; rfl)) ?_)
    refine W.ret ⟨.inr rfl, by rfl, ?_⟩
    simp only [Try.f9, resA, resOne, toT, fin, exec, stepQ, wantA, yieldA, kind, qv, qv1, qv2, stO, adrId, dataC, replC, eqNil, binNil, shiftInt, A.down, A1.up, downs, toR, ev, putS, rowO, ofConst, cellsA, cellsC, asC, asCs, ld, ldR, bin, binInt, binStr, binBool, sliceOf, bndOf, repl, fillC, zeroC, chunks, ptrIds, tabs, upd_app, mem_nil_app, entry_zero, entry_succ, entry_nil, top_app, maxStr, ByteArray.size, A.kill, O.kill, killS_app, killM_app, Nat.reduceAdd, Nat.reduceLeDiff, Nat.reduceEqDiff, Nat.reduceMul, Int.reduceToNat, reduceIte, wf_i64, Int.reduceLE, Int.reduceNeg, beq_self_eq_true, decide_true, decide_false, ybeq_some, ybeq_none, beqT, beqF, empty_toList, exs]
    simp [chkErr, he]
  intro h
  have he : e = 0 := by simpa using h
  subst he
  repeat (first | refine W.seq ?_ | refine W.block ?_ | refine W.skip ?_ | refine W.exit ?_ | refine W.region tab_ok 0 (by decide) (exec_run (by simp only [exec, stepQ, wantA, yieldA, kind, qv, qv1, qv2, stO, adrId, dataC, replC, eqNil, binNil, shiftInt, A.down, A1.up, downs, toR, ev, putS, rowO, ofConst, cellsA, cellsC, asC, asCs, ld, ldR, bin, binInt, binStr, binBool, sliceOf, bndOf, repl, fillC, zeroC, chunks, ptrIds, tabs, upd_app, mem_nil_app, entry_zero, entry_succ, entry_nil, top_app, maxStr, ByteArray.size, A.kill, O.kill, killS_app, killM_app, Nat.reduceAdd, Nat.reduceLeDiff, Nat.reduceEqDiff, Nat.reduceMul, Int.reduceToNat, reduceIte, wf_i64, Int.reduceLE, Int.reduceNeg, beq_self_eq_true, decide_true, decide_false, ybeq_some, ybeq_none, beqT, beqF, empty_toList, exs]; rfl)) ?_)
  refine W.cond rfl ?_ ?_
  · intro h
    have hl : 16 < cs.length := by simp at h; omega
    repeat (first | refine W.seq ?_ | refine W.block ?_ | refine W.skip ?_ | refine W.exit ?_ | refine W.region tab_ok 0 (by decide) (exec_run (by simp only [exec, stepQ, wantA, yieldA, kind, qv, qv1, qv2, stO, adrId, dataC, replC, eqNil, binNil, shiftInt, A.down, A1.up, downs, toR, ev, putS, rowO, ofConst, cellsA, cellsC, asC, asCs, ld, ldR, bin, binInt, binStr, binBool, sliceOf, bndOf, repl, fillC, zeroC, chunks, ptrIds, tabs, upd_app, mem_nil_app, entry_zero, entry_succ, entry_nil, top_app, maxStr, ByteArray.size, A.kill, O.kill, killS_app, killM_app, Nat.reduceAdd, Nat.reduceLeDiff, Nat.reduceEqDiff, Nat.reduceMul, Int.reduceToNat, reduceIte, wf_i64, Int.reduceLE, Int.reduceNeg, beq_self_eq_true, decide_true, decide_false, ybeq_some, ybeq_none, beqT, beqF, empty_toList, exs]; rfl)) ?_)
    refine W.ret ⟨.inr rfl, by rfl, ?_⟩
    simp only [Try.f9, resA, resOne, toT, fin, exec, stepQ, wantA, yieldA, kind, qv, qv1, qv2, stO, adrId, dataC, replC, eqNil, binNil, shiftInt, A.down, A1.up, downs, toR, ev, putS, rowO, ofConst, cellsA, cellsC, asC, asCs, ld, ldR, bin, binInt, binStr, binBool, sliceOf, bndOf, repl, fillC, zeroC, chunks, ptrIds, tabs, upd_app, mem_nil_app, entry_zero, entry_succ, entry_nil, top_app, maxStr, ByteArray.size, A.kill, O.kill, killS_app, killM_app, Nat.reduceAdd, Nat.reduceLeDiff, Nat.reduceEqDiff, Nat.reduceMul, Int.reduceToNat, reduceIte, wf_i64, Int.reduceLE, Int.reduceNeg, beq_self_eq_true, decide_true, decide_false, ybeq_some, ybeq_none, beqT, beqF, empty_toList, exs]
    simp [chkErr, hl]
  intro h
  have hl : ¬ 16 < cs.length := by simp at h; omega
  repeat (first | refine W.seq ?_ | refine W.block ?_ | refine W.skip ?_ | refine W.exit ?_ | refine W.region tab_ok 0 (by decide) (exec_run (by simp only [exec, stepQ, wantA, yieldA, kind, qv, qv1, qv2, stO, adrId, dataC, replC, eqNil, binNil, shiftInt, A.down, A1.up, downs, toR, ev, putS, rowO, ofConst, cellsA, cellsC, asC, asCs, ld, ldR, bin, binInt, binStr, binBool, sliceOf, bndOf, repl, fillC, zeroC, chunks, ptrIds, tabs, upd_app, mem_nil_app, entry_zero, entry_succ, entry_nil, top_app, maxStr, ByteArray.size, A.kill, O.kill, killS_app, killM_app, Nat.reduceAdd, Nat.reduceLeDiff, Nat.reduceEqDiff, Nat.reduceMul, Int.reduceToNat, reduceIte, wf_i64, Int.reduceLE, Int.reduceNeg, beq_self_eq_true, decide_true, decide_false, ybeq_some, ybeq_none, beqT, beqF, empty_toList, exs]; rfl)) ?_)
  refine W.newArr 4 4 9 1 rfl rfl ?_
  repeat (first | refine W.seq ?_ | refine W.block ?_ | refine W.skip ?_ | refine W.exit ?_ | refine W.region tab_ok 0 (by decide) (exec_run (by simp only [exec, stepQ, wantA, yieldA, kind, qv, qv1, qv2, stO, adrId, dataC, replC, eqNil, binNil, shiftInt, A.down, A1.up, downs, toR, ev, putS, rowO, ofConst, cellsA, cellsC, asC, asCs, ld, ldR, bin, binInt, binStr, binBool, sliceOf, bndOf, repl, fillC, zeroC, chunks, ptrIds, tabs, upd_app, mem_nil_app, entry_zero, entry_succ, entry_nil, top_app, maxStr, ByteArray.size, A.kill, O.kill, killS_app, killM_app, Nat.reduceAdd, Nat.reduceLeDiff, Nat.reduceEqDiff, Nat.reduceMul, Int.reduceToNat, reduceIte, wf_i64, Int.reduceLE, Int.reduceNeg, beq_self_eq_true, decide_true, decide_false, ybeq_some, ybeq_none, beqT, beqF, empty_toList, exs]; rfl)) ?_)
  refine W.loop (ι := Nat) (fun k => ⟨upd (upd (upd (upd (upd (fun _ => .top) 1 (.ptr 1 0)) 4 (.own 4)) 17 (.c (.sl (cs.map cClass)))) 18 (.c (.int .i64 cs.length))) 19 (.c (.int .i64 k)),
    upd (upd Mem.nil 1 (some (.box 25 ((cProg ⟨cs, mn⟩).map A.c)))) 4 (some (.arr 9 1 (((cs.take k).map (·.name)).map cStr)))⟩) (fun k => k ≤ cs.length) (fun k => cs.length - k) 0 ?start (Nat.zero_le _) ?round
  case start =>
    refine le_mk ?sle ?mle ?swf ?mwf ?kept (by rfl)
    case kept => exact kept_not hkeep
    case swf => repeat (first | exact swf_top _ | refine swf_upd ?_ (by simp [A.ids, upd_app]))
    case mwf => repeat (first | exact mwf_nil _ | refine mwf_upd ?_ (by simp [A.ids, O.ids, upd_app]))
    case mle => repeat (first | exact mle_nil _ | exact mle_refl _ | refine mle_upd ?_ (by first | rfl | (simp only [upd_app, killM_app, Nat.reduceEqDiff, reduceIte, cProg, List.map_cons, List.map_nil, List.take_zero]; done)))
    case sle => repeat (first | exact sle_top _ | exact sle_refl _ | refine sle_upd ?_ (by first | rfl | (simp only [upd_app, entry_zero, entry_succ, Nat.reduceEqDiff, reduceIte, cProg, List.map_cons, List.map_nil, List.take_zero]; done)))
  case round =>
    intro k hk
    repeat (first | refine W.seq ?_ | refine W.block ?_ | refine W.skip ?_ | refine W.exit ?_ | refine W.region tab_ok 0 (by decide) (exec_run (by simp only [exec, stepQ, wantA, yieldA, kind, qv, qv1, qv2, stO, adrId, dataC, replC, eqNil, binNil, shiftInt, A.down, A1.up, downs, toR, ev, putS, rowO, ofConst, cellsA, cellsC, asC, asCs, ld, ldR, bin, binInt, binStr, binBool, sliceOf, bndOf, repl, fillC, zeroC, chunks, ptrIds, tabs, upd_app, mem_nil_app, entry_zero, entry_succ, entry_nil, top_app, maxStr, ByteArray.size, A.kill, O.kill, killS_app, killM_app, Nat.reduceAdd, Nat.reduceLeDiff, Nat.reduceEqDiff, Nat.reduceMul, Int.reduceToNat, reduceIte, wf_i64, Int.reduceLE, Int.reduceNeg, beq_self_eq_true, decide_true, decide_false, ybeq_some, ybeq_none, beqT, beqF, empty_toList, exs, cProg]; rfl)) ?_)
    refine W.cond rfl ?_ ?_
    · intro hlt
      simp only [decide_eq_true_eq, Int.ofNat_lt] at hlt
      obtain ⟨x, hx⟩ : ∃ x, cs[k]? = some x := ⟨_, List.getElem?_eq_getElem hlt⟩
      repeat (first | refine W.seq ?_ | refine W.block ?_ | refine W.skip ?_ | refine W.exit ?_ | refine W.region tab_ok 0 (by decide) (exec_run (by simp only [exec, stepQ, wantA, yieldA, kind, qv, qv1, qv2, stO, adrId, dataC, replC, eqNil, binNil, shiftInt, A.down, A1.up, downs, toR, ev, putS, rowO, ofConst, cellsA, cellsC, asC, asCs, ld, ldR, bin, binInt, binStr, binBool, sliceOf, bndOf, repl, fillC, zeroC, chunks, ptrIds, tabs, upd_app, mem_nil_app, entry_zero, entry_succ, entry_nil, top_app, maxStr, ByteArray.size, A.kill, O.kill, killS_app, killM_app, Nat.reduceAdd, Nat.reduceLeDiff, Nat.reduceEqDiff, Nat.reduceMul, Int.reduceToNat, reduceIte, wf_i64, Int.reduceLE, Int.reduceNeg, beq_self_eq_true, decide_true, decide_false, ybeq_some, ybeq_none, beqT, beqF, empty_toList, exs, cProg, at_map hx, cClass]; rfl)) ?_)
      refine W.regionK tab_ok 0 (by decide) ?_
      refine runk_split 4 (by simp only [exec, stepQ, wantA, yieldA, kind, qv, qv1, qv2, stO, adrId, dataC, replC, eqNil, binNil, shiftInt, A.down, A1.up, downs, toR, ev, putS, rowO, ofConst, cellsA, cellsC, asC, asCs, ld, ldR, bin, binInt, binStr, binBool, sliceOf, bndOf, repl, fillC, zeroC, chunks, ptrIds, tabs, upd_app, mem_nil_app, entry_zero, entry_succ, entry_nil, top_app, maxStr, ByteArray.size, A.kill, O.kill, killS_app, killM_app, Nat.reduceAdd, Nat.reduceLeDiff, Nat.reduceEqDiff, Nat.reduceMul, Int.reduceToNat, reduceIte, wf_i64, Int.reduceLE, Int.reduceNeg, beq_self_eq_true, decide_true, decide_false, ybeq_some, ybeq_none, beqT, beqF, empty_toList, exs, cProg]; rfl) ?_
      refine runk_append tab_ok 4 rfl rfl rfl rfl rfl rfl rfl rfl (by first | rfl | (simp only [exec, stepQ, wantA, yieldA, kind, qv, qv1, qv2, stO, adrId, dataC, replC, eqNil, binNil, shiftInt, A.down, A1.up, downs, toR, ev, putS, rowO, ofConst, cellsA, cellsC, asC, asCs, ld, ldR, bin, binInt, binStr, binBool, sliceOf, bndOf, repl, fillC, zeroC, chunks, ptrIds, tabs, upd_app, mem_nil_app, entry_zero, entry_succ, entry_nil, top_app, maxStr, ByteArray.size, A.kill, O.kill, killS_app, killM_app, Nat.reduceAdd, Nat.reduceLeDiff, Nat.reduceEqDiff, Nat.reduceMul, Int.reduceToNat, reduceIte, wf_i64, Int.reduceLE, Int.reduceNeg, beq_self_eq_true, decide_true, decide_false, ybeq_some, ybeq_none, beqT, beqF, empty_toList, exs, cProg]; rfl)) rfl rfl rfl rfl (nokeep hkeep) (by simp) (by have := List.length_take_le k cs; simp only [List.length_map, List.length_cons, List.length_nil]; omega) (by decide) ?_
      refine runk_exec (by simp only [exec, stepQ, wantA, yieldA, kind, qv, qv1, qv2, stO, adrId, dataC, replC, eqNil, binNil, shiftInt, A.down, A1.up, downs, toR, ev, putS, rowO, ofConst, cellsA, cellsC, asC, asCs, ld, ldR, bin, binInt, binStr, binBool, sliceOf, bndOf, repl, fillC, zeroC, chunks, ptrIds, tabs, upd_app, mem_nil_app, entry_zero, entry_succ, entry_nil, top_app, maxStr, ByteArray.size, A.kill, O.kill, killS_app, killM_app, Nat.reduceAdd, Nat.reduceLeDiff, Nat.reduceEqDiff, Nat.reduceMul, Int.reduceToNat, reduceIte, wf_i64, Int.reduceLE, Int.reduceNeg, beq_self_eq_true, decide_true, decide_false, ybeq_some, ybeq_none, beqT, beqF, empty_toList, exs, cProg]; rfl) ?_
      repeat (first | refine W.seq ?_ | refine W.block ?_ | refine W.skip ?_ | refine W.exit ?_ | refine W.region tab_ok 0 (by decide) (exec_run (by simp only [exec, stepQ, wantA, yieldA, kind, qv, qv1, qv2, stO, adrId, dataC, replC, eqNil, binNil, shiftInt, A.down, A1.up, downs, toR, ev, putS, rowO, ofConst, cellsA, cellsC, asC, asCs, ld, ldR, bin, binInt, binStr, binBool, sliceOf, bndOf, repl, fillC, zeroC, chunks, ptrIds, tabs, upd_app, mem_nil_app, entry_zero, entry_succ, entry_nil, top_app, maxStr, ByteArray.size, A.kill, O.kill, killS_app, killM_app, Nat.reduceAdd, Nat.reduceLeDiff, Nat.reduceEqDiff, Nat.reduceMul, Int.reduceToNat, reduceIte, wf_i64, Int.reduceLE, Int.reduceNeg, beq_self_eq_true, decide_true, decide_false, ybeq_some, ybeq_none, beqT, beqF, empty_toList, exs, cProg]; rfl)) ?_)
      refine ⟨k + 1, hlt, by omega, ?_⟩
      refine le_mk ?sle ?mle ?swf ?mwf ?kept (by rfl)
      case kept => exact kept_not hkeep
      case swf => repeat (first | exact swf_top _ | refine swf_upd ?_ (by simp [A.ids, upd_app]))
      case mwf => repeat (first | exact mwf_nil _ | refine mwf_upd ?_ (by simp [A.ids, O.ids, upd_app]))
      case mle => repeat (first | exact mle_nil _ | exact mle_refl _ | refine mle_upd ?_ (by first | rfl | (simp only [upd_app, killM_app, Nat.reduceEqDiff, reduceIte, cProg, O.kill, A.kill, Option.map_some, wrap_succ (show k + 1 < 9223372036854775808 by omega), List.take_add_one, hx, Option.toList_some, List.map_append, List.map_cons, List.map_nil, cStr]; done)))
      case sle => repeat (first | exact sle_top _ | exact sle_refl _ | refine sle_upd ?_ (by first | rfl | (simp only [upd_app, entry_zero, entry_succ, Nat.reduceEqDiff, reduceIte, cProg, O.kill, A.kill, Option.map_some, wrap_succ (show k + 1 < 9223372036854775808 by omega), List.take_add_one, hx, Option.toList_some, List.map_append, List.map_cons, List.map_nil, cStr]; done)))
    · intro hge
      simp only [decide_eq_false_iff_not, Int.ofNat_lt] at hge
      obtain rfl : k = cs.length := by omega
      repeat (first | refine W.seq ?_ | refine W.block ?_ | refine W.skip ?_ | refine W.exit ?_ | refine W.region tab_ok 0 (by decide) (exec_run (by simp only [exec, stepQ, wantA, yieldA, kind, qv, qv1, qv2, stO, adrId, dataC, replC, eqNil, binNil, shiftInt, A.down, A1.up, downs, toR, ev, putS, rowO, ofConst, cellsA, cellsC, asC, asCs, ld, ldR, bin, binInt, binStr, binBool, sliceOf, bndOf, repl, fillC, zeroC, chunks, ptrIds, tabs, upd_app, mem_nil_app, entry_zero, entry_succ, entry_nil, top_app, maxStr, ByteArray.size, A.kill, O.kill, killS_app, killM_app, Nat.reduceAdd, Nat.reduceLeDiff, Nat.reduceEqDiff, Nat.reduceMul, Int.reduceToNat, reduceIte, wf_i64, Int.reduceLE, Int.reduceNeg, beq_self_eq_true, decide_true, decide_false, ybeq_some, ybeq_none, beqT, beqF, empty_toList, exs, cProg]; rfl)) ?_)
      refine W.regionK tab_ok 0 (by decide) ?_
      refine runk_split 1 (by simp only [exec, stepQ, wantA, yieldA, kind, qv, qv1, qv2, stO, adrId, dataC, replC, eqNil, binNil, shiftInt, A.down, A1.up, downs, toR, ev, putS, rowO, ofConst, cellsA, cellsC, asC, asCs, ld, ldR, bin, binInt, binStr, binBool, sliceOf, bndOf, repl, fillC, zeroC, chunks, ptrIds, tabs, upd_app, mem_nil_app, entry_zero, entry_succ, entry_nil, top_app, maxStr, ByteArray.size, A.kill, O.kill, killS_app, killM_app, Nat.reduceAdd, Nat.reduceLeDiff, Nat.reduceEqDiff, Nat.reduceMul, Int.reduceToNat, reduceIte, wf_i64, Int.reduceLE, Int.reduceNeg, beq_self_eq_true, decide_true, decide_false, ybeq_some, ybeq_none, beqT, beqF, empty_toList, exs, cProg, List.take_length]; rfl) ?_
      refine runk_call rfl rfl rfl rfl rfl (by simp) (cvs_cons (cv_own rfl) cvs_nil) (once_ok (cs.map (·.name)) (by simp; omega) _) ?_
      cases h1 : onceB (cs.map (·.name)) with
      | false =>
        refine runk_exec (by simp only [exec, stepQ, wantA, yieldA, kind, qv, qv1, qv2, stO, adrId, dataC, replC, eqNil, binNil, shiftInt, A.down, A1.up, downs, toR, ev, putS, rowO, ofConst, cellsA, cellsC, asC, asCs, ld, ldR, bin, binInt, binStr, binBool, sliceOf, bndOf, repl, fillC, zeroC, chunks, ptrIds, tabs, upd_app, mem_nil_app, entry_zero, entry_succ, entry_nil, top_app, maxStr, ByteArray.size, A.kill, O.kill, killS_app, killM_app, Nat.reduceAdd, Nat.reduceLeDiff, Nat.reduceEqDiff, Nat.reduceMul, Int.reduceToNat, reduceIte, wf_i64, Int.reduceLE, Int.reduceNeg, beq_self_eq_true, decide_true, decide_false, ybeq_some, ybeq_none, beqT, beqF, empty_toList, exs, cProg]; rfl) ?_
        repeat (first | refine W.seq ?_ | refine W.block ?_ | refine W.skip ?_ | refine W.exit ?_ | refine W.region tab_ok 0 (by decide) (exec_run (by simp only [exec, stepQ, wantA, yieldA, kind, qv, qv1, qv2, stO, adrId, dataC, replC, eqNil, binNil, shiftInt, A.down, A1.up, downs, toR, ev, putS, rowO, ofConst, cellsA, cellsC, asC, asCs, ld, ldR, bin, binInt, binStr, binBool, sliceOf, bndOf, repl, fillC, zeroC, chunks, ptrIds, tabs, upd_app, mem_nil_app, entry_zero, entry_succ, entry_nil, top_app, maxStr, ByteArray.size, A.kill, O.kill, killS_app, killM_app, Nat.reduceAdd, Nat.reduceLeDiff, Nat.reduceEqDiff, Nat.reduceMul, Int.reduceToNat, reduceIte, wf_i64, Int.reduceLE, Int.reduceNeg, beq_self_eq_true, decide_true, decide_false, ybeq_some, ybeq_none, beqT, beqF, empty_toList, exs, cProg]; rfl)) ?_)
        refine W.cond rfl (fun _ => ?_) (fun h => by cases h)
        repeat (first | refine W.seq ?_ | refine W.block ?_ | refine W.skip ?_ | refine W.exit ?_ | refine W.region tab_ok 0 (by decide) (exec_run (by simp only [exec, stepQ, wantA, yieldA, kind, qv, qv1, qv2, stO, adrId, dataC, replC, eqNil, binNil, shiftInt, A.down, A1.up, downs, toR, ev, putS, rowO, ofConst, cellsA, cellsC, asC, asCs, ld, ldR, bin, binInt, binStr, binBool, sliceOf, bndOf, repl, fillC, zeroC, chunks, ptrIds, tabs, upd_app, mem_nil_app, entry_zero, entry_succ, entry_nil, top_app, maxStr, ByteArray.size, A.kill, O.kill, killS_app, killM_app, Nat.reduceAdd, Nat.reduceLeDiff, Nat.reduceEqDiff, Nat.reduceMul, Int.reduceToNat, reduceIte, wf_i64, Int.reduceLE, Int.reduceNeg, beq_self_eq_true, decide_true, decide_false, ybeq_some, ybeq_none, beqT, beqF, empty_toList, exs, cProg]; rfl)) ?_)
        refine W.ret ⟨.inr rfl, by rfl, ?_⟩
        simp only [Try.f9, resA, resOne, toT, fin, exec, stepQ, wantA, yieldA, kind, qv, qv1, qv2, stO, adrId, dataC, replC, eqNil, binNil, shiftInt, A.down, A1.up, downs, toR, ev, putS, rowO, ofConst, cellsA, cellsC, asC, asCs, ld, ldR, bin, binInt, binStr, binBool, sliceOf, bndOf, repl, fillC, zeroC, chunks, ptrIds, tabs, upd_app, mem_nil_app, entry_zero, entry_succ, entry_nil, top_app, maxStr, ByteArray.size, A.kill, O.kill, killS_app, killM_app, Nat.reduceAdd, Nat.reduceLeDiff, Nat.reduceEqDiff, Nat.reduceMul, Int.reduceToNat, reduceIte, wf_i64, Int.reduceLE, Int.reduceNeg, beq_self_eq_true, decide_true, decide_false, ybeq_some, ybeq_none, beqT, beqF, empty_toList, exs]
        simp [chkErr, hl, h1]
      | true =>
        refine runk_split 5 (by simp only [exec, stepQ, wantA, yieldA, kind, qv, qv1, qv2, stO, adrId, dataC, replC, eqNil, binNil, shiftInt, A.down, A1.up, downs, toR, ev, putS, rowO, ofConst, cellsA, cellsC, asC, asCs, ld, ldR, bin, binInt, binStr, binBool, sliceOf, bndOf, repl, fillC, zeroC, chunks, ptrIds, tabs, upd_app, mem_nil_app, entry_zero, entry_succ, entry_nil, top_app, maxStr, ByteArray.size, A.kill, O.kill, killS_app, killM_app, Nat.reduceAdd, Nat.reduceLeDiff, Nat.reduceEqDiff, Nat.reduceMul, Int.reduceToNat, reduceIte, wf_i64, Int.reduceLE, Int.reduceNeg, beq_self_eq_true, decide_true, decide_false, ybeq_some, ybeq_none, beqT, beqF, empty_toList, exs, cProg]; rfl) ?_
        refine runk_callR rfl rfl rfl rfl rfl (by simp) (cvrs_cons cvr_refl (cvrs_cons (cvr_fn (caps_one rfl rfl)) cvrs_nil)) (by rfl) (by rfl) (anyClass_ok cs 25 [[.sl (cs.map cClass), .sl (cStmts mn)]] (fun c => !okClassB cs c) (by omega) (fun x hx m => check1_ok cs (.sl (cStmts mn)) x hS (by omega) hx m)) ?_
        refine runk_exec (by simp only [exec, stepQ, wantA, yieldA, kind, qv, qv1, qv2, stO, adrId, dataC, replC, eqNil, binNil, shiftInt, A.down, A1.up, downs, toR, ev, putS, rowO, ofConst, cellsA, cellsC, asC, asCs, ld, ldR, bin, binInt, binStr, binBool, sliceOf, bndOf, repl, fillC, zeroC, chunks, ptrIds, tabs, upd_app, mem_nil_app, entry_zero, entry_succ, entry_nil, top_app, maxStr, ByteArray.size, A.kill, O.kill, killS_app, killM_app, Nat.reduceAdd, Nat.reduceLeDiff, Nat.reduceEqDiff, Nat.reduceMul, Int.reduceToNat, reduceIte, wf_i64, Int.reduceLE, Int.reduceNeg, beq_self_eq_true, decide_true, decide_false, ybeq_some, ybeq_none, beqT, beqF, empty_toList, exs, cProg]; rfl) ?_
        refine W.cond rfl ?_ ?_
        · intro hb
          have hb : cs.any (fun c => !okClassB cs c) = true := hb
          repeat (first | refine W.seq ?_ | refine W.block ?_ | refine W.skip ?_ | refine W.exit ?_ | refine W.region tab_ok 0 (by decide) (exec_run (by simp only [exec, stepQ, wantA, yieldA, kind, qv, qv1, qv2, stO, adrId, dataC, replC, eqNil, binNil, shiftInt, A.down, A1.up, downs, toR, ev, putS, rowO, ofConst, cellsA, cellsC, asC, asCs, ld, ldR, bin, binInt, binStr, binBool, sliceOf, bndOf, repl, fillC, zeroC, chunks, ptrIds, tabs, upd_app, mem_nil_app, entry_zero, entry_succ, entry_nil, top_app, maxStr, ByteArray.size, A.kill, O.kill, killS_app, killM_app, Nat.reduceAdd, Nat.reduceLeDiff, Nat.reduceEqDiff, Nat.reduceMul, Int.reduceToNat, reduceIte, wf_i64, Int.reduceLE, Int.reduceNeg, beq_self_eq_true, decide_true, decide_false, ybeq_some, ybeq_none, beqT, beqF, empty_toList, exs, cProg]; rfl)) ?_)
          refine W.ret ⟨.inr rfl, by rfl, ?_⟩
          simp only [Try.f9, resA, resOne, toT, fin, exec, stepQ, wantA, yieldA, kind, qv, qv1, qv2, stO, adrId, dataC, replC, eqNil, binNil, shiftInt, A.down, A1.up, downs, toR, ev, putS, rowO, ofConst, cellsA, cellsC, asC, asCs, ld, ldR, bin, binInt, binStr, binBool, sliceOf, bndOf, repl, fillC, zeroC, chunks, ptrIds, tabs, upd_app, mem_nil_app, entry_zero, entry_succ, entry_nil, top_app, maxStr, ByteArray.size, A.kill, O.kill, killS_app, killM_app, Nat.reduceAdd, Nat.reduceLeDiff, Nat.reduceEqDiff, Nat.reduceMul, Int.reduceToNat, reduceIte, wf_i64, Int.reduceLE, Int.reduceNeg, beq_self_eq_true, decide_true, decide_false, ybeq_some, ybeq_none, beqT, beqF, empty_toList, exs]
          simp only [chkErr, if_true, if_neg hl, h1, hb]; rfl
        · intro hb
          have hb : cs.any (fun c => !okClassB cs c) = false := hb
          repeat (first | refine W.seq ?_ | refine W.block ?_ | refine W.skip ?_ | refine W.exit ?_ | refine W.region tab_ok 0 (by decide) (exec_run (by simp only [exec, stepQ, wantA, yieldA, kind, qv, qv1, qv2, stO, adrId, dataC, replC, eqNil, binNil, shiftInt, A.down, A1.up, downs, toR, ev, putS, rowO, ofConst, cellsA, cellsC, asC, asCs, ld, ldR, bin, binInt, binStr, binBool, sliceOf, bndOf, repl, fillC, zeroC, chunks, ptrIds, tabs, upd_app, mem_nil_app, entry_zero, entry_succ, entry_nil, top_app, maxStr, ByteArray.size, A.kill, O.kill, killS_app, killM_app, Nat.reduceAdd, Nat.reduceLeDiff, Nat.reduceEqDiff, Nat.reduceMul, Int.reduceToNat, reduceIte, wf_i64, Int.reduceLE, Int.reduceNeg, beq_self_eq_true, decide_true, decide_false, ybeq_some, ybeq_none, beqT, beqF, empty_toList, exs, cProg]; rfl)) ?_)
          refine W.ret ⟨.inr rfl, by rfl, ?_⟩
          simp only [Try.f9, resA, resOne, toT, fin, exec, stepQ, wantA, yieldA, kind, qv, qv1, qv2, stO, adrId, dataC, replC, eqNil, binNil, shiftInt, A.down, A1.up, downs, toR, ev, putS, rowO, ofConst, cellsA, cellsC, asC, asCs, ld, ldR, bin, binInt, binStr, binBool, sliceOf, bndOf, repl, fillC, zeroC, chunks, ptrIds, tabs, upd_app, mem_nil_app, entry_zero, entry_succ, entry_nil, top_app, maxStr, ByteArray.size, A.kill, O.kill, killS_app, killM_app, Nat.reduceAdd, Nat.reduceLeDiff, Nat.reduceEqDiff, Nat.reduceMul, Int.reduceToNat, reduceIte, wf_i64, Int.reduceLE, Int.reduceNeg, beq_self_eq_true, decide_true, decide_false, ybeq_some, ybeq_none, beqT, beqF, empty_toList, exs]
          simp only [chkErr, if_true, if_neg hl, h1, hb]; rfl
def nameAt (cs : List Class) (x : Nat × Nat) : List ByteArray := match cs[x.2]? with | some k => [k.name] | none => []
def upNames (cs : List Class) (l : List (Nat × Nat)) : List ByteArray := l.flatMap (nameAt cs)
theorem upNames_len (cs : List Class) : ∀ l : List (Nat × Nat), (upNames cs l).length ≤ l.length
  | [] => by simp [upNames]
  | x :: l => by
    have ih := upNames_len cs l
    unfold upNames at *
    rw [List.flatMap_cons, List.length_append, List.length_cons]
    have : (nameAt cs x).length ≤ 1 := by unfold nameAt; split <;> simp
    omega
def chainR (E : Int) (cs : List Class) (n : ByteArray) : List ByteArray := if E = 0 then upNames cs (upX cs (cs.length + 1) 0 n) else []
def memH (cs : List Class) (mn : C) (l : List ByteArray) : Mem :=
  upd (upd (upd Mem.nil 2 (some (.box 25 [.c (.sl (cs.map cClass)), .c mn]))) 4 (some (.box 30 [.own 50]))) 50 (some (.arr 9 1 (l.map cStr)))
def slotH : Nat → A := upd (upd (fun _ => .top) 2 (.ptr 2 0)) 4 (.ptr 4 0)
theorem slotH_ids : ∀ t, ∀ j ∈ (slotH t).ids, j ≤ 5 := by
  intro t j hj
  unfold slotH upd at hj
  repeat' (split at hj)
  all_goals (simp [A.ids] at hj)
  all_goals omega
set_option maxHeartbeats 1000000 in
theorem chainP_ok (p : Program) (E : Int) (name : ByteArray) (hlen : p.classes.length ≤ 1000000000) (hchk : ∀ m, COk Try.prog 9 [.agg (cProg p)] m (.c (.int .i64 E))) (m : Mem) :
    COk Try.prog 11 [.agg (cProg p), .c (.str name)] m (.c (.sl ((chainR E p.classes name).map cStr))) := by
  obtain ⟨cs, mn'⟩ := p
  dsimp only at hlen hchk ⊢
  generalize hmn : C.sl (cStmts mn') = mn
  have hpr : cProg ⟨cs, mn'⟩ = [.sl (cs.map cClass), mn] := by rw [← hmn]; rfl
  rw [hpr] at hchk ⊢
  refine (ok_pureM tab_ok Try.func11 (by kernel_rfl) rfl rfl (by rfl) (by rfl) (by rfl) (fun R hkeep => ?_) m)
  repeat (first | refine W.seq ?_ | refine W.block ?_ | refine W.skip ?_ | refine W.exit ?_ | refine W.region tab_ok 0 (by decide) (exec_run (by simp only [exec, stepQ, wantA, yieldA, kind, qv, qv1, qv2, stO, adrId, dataC, replC, eqNil, binNil, shiftInt, A.down, A1.up, downs, toR, ev, putS, rowO, ofConst, cellsA, cellsC, asC, asCs, ld, ldR, bin, binInt, binStr, binBool, sliceOf, bndOf, repl, fillC, zeroC, chunks, ptrIds, tabs, upd_app, mem_nil_app, entry_zero, entry_succ, entry_nil, top_app, maxStr, ByteArray.size, A.kill, O.kill, killS_app, killM_app, Nat.reduceAdd, Nat.reduceLeDiff, Nat.reduceEqDiff, Nat.reduceMul, Int.reduceToNat, reduceIte, wf_i64, Int.reduceLE, Int.reduceNeg, beq_self_eq_true, decide_true, decide_false, ybeq_some, ybeq_none, beqT, beqF, empty_toList, exs]; rfl)) ?_)
  refine W.regionK tab_ok 0 (by decide) ?_
  refine runk_split 1 (by simp only [exec, stepQ, wantA, yieldA, kind, qv, qv1, qv2, stO, adrId, dataC, replC, eqNil, binNil, shiftInt, A.down, A1.up, downs, toR, ev, putS, rowO, ofConst, cellsA, cellsC, asC, asCs, ld, ldR, bin, binInt, binStr, binBool, sliceOf, bndOf, repl, fillC, zeroC, chunks, ptrIds, tabs, upd_app, mem_nil_app, entry_zero, entry_succ, entry_nil, top_app, maxStr, ByteArray.size, A.kill, O.kill, killS_app, killM_app, Nat.reduceAdd, Nat.reduceLeDiff, Nat.reduceEqDiff, Nat.reduceMul, Int.reduceToNat, reduceIte, wf_i64, Int.reduceLE, Int.reduceNeg, beq_self_eq_true, decide_true, decide_false, ybeq_some, ybeq_none, beqT, beqF, empty_toList, exs]; rfl) ?_
  refine runk_call rfl rfl rfl rfl rfl (by simp) (cvs_cons cv_refl cvs_nil) (hchk _) ?_
  refine runk_exec (by simp only [exec, stepQ, wantA, yieldA, kind, qv, qv1, qv2, stO, adrId, dataC, replC, eqNil, binNil, shiftInt, A.down, A1.up, downs, toR, ev, putS, rowO, ofConst, cellsA, cellsC, asC, asCs, ld, ldR, bin, binInt, binStr, binBool, sliceOf, bndOf, repl, fillC, zeroC, chunks, ptrIds, tabs, upd_app, mem_nil_app, entry_zero, entry_succ, entry_nil, top_app, maxStr, ByteArray.size, A.kill, O.kill, killS_app, killM_app, Nat.reduceAdd, Nat.reduceLeDiff, Nat.reduceEqDiff, Nat.reduceMul, Int.reduceToNat, reduceIte, wf_i64, Int.reduceLE, Int.reduceNeg, beq_self_eq_true, decide_true, decide_false, ybeq_some, ybeq_none, beqT, beqF, empty_toList, exs]; rfl) ?_
  refine W.cond rfl ?_ ?_
  · intro h
    have he : E ≠ 0 := by simpa using h
    repeat (first | refine W.seq ?_ | refine W.block ?_ | refine W.skip ?_ | refine W.exit ?_ | refine W.region tab_ok 0 (by decide) (exec_run (by simp only [exec, stepQ, wantA, yieldA, kind, qv, qv1, qv2, stO, adrId, dataC, replC, eqNil, binNil, shiftInt, A.down, A1.up, downs, toR, ev, putS, rowO, ofConst, cellsA, cellsC, asC, asCs, ld, ldR, bin, binInt, binStr, binBool, sliceOf, bndOf, repl, fillC, zeroC, chunks, ptrIds, tabs, upd_app, mem_nil_app, entry_zero, entry_succ, entry_nil, top_app, maxStr, ByteArray.size, A.kill, O.kill, killS_app, killM_app, Nat.reduceAdd, Nat.reduceLeDiff, Nat.reduceEqDiff, Nat.reduceMul, Int.reduceToNat, reduceIte, wf_i64, Int.reduceLE, Int.reduceNeg, beq_self_eq_true, decide_true, decide_false, ybeq_some, ybeq_none, beqT, beqF, empty_toList, exs]; rfl)) ?_)
    refine W.ret ⟨.inr rfl, .inl ⟨rfl, ?_⟩⟩
    simp only [Try.f11, resA, resOne, toT, fin, exec, stepQ, wantA, yieldA, kind, qv, qv1, qv2, stO, adrId, dataC, replC, eqNil, binNil, shiftInt, A.down, A1.up, downs, toR, ev, putS, rowO, ofConst, cellsA, cellsC, asC, asCs, ld, ldR, bin, binInt, binStr, binBool, sliceOf, bndOf, repl, fillC, zeroC, chunks, ptrIds, tabs, upd_app, mem_nil_app, entry_zero, entry_succ, entry_nil, top_app, maxStr, ByteArray.size, A.kill, O.kill, killS_app, killM_app, Nat.reduceAdd, Nat.reduceLeDiff, Nat.reduceEqDiff, Nat.reduceMul, Int.reduceToNat, reduceIte, wf_i64, Int.reduceLE, Int.reduceNeg, beq_self_eq_true, decide_true, decide_false, ybeq_some, ybeq_none, beqT, beqF, empty_toList, exs]
    simp [chainR, he]
  intro h
  have he : E = 0 := by simpa using h
  subst he
  repeat (first | refine W.seq ?_ | refine W.block ?_ | refine W.skip ?_ | refine W.exit ?_ | refine W.region tab_ok 0 (by decide) (exec_run (by simp only [exec, stepQ, wantA, yieldA, kind, qv, qv1, qv2, stO, adrId, dataC, replC, eqNil, binNil, shiftInt, A.down, A1.up, downs, toR, ev, putS, rowO, ofConst, cellsA, cellsC, asC, asCs, ld, ldR, bin, binInt, binStr, binBool, sliceOf, bndOf, repl, fillC, zeroC, chunks, ptrIds, tabs, upd_app, mem_nil_app, entry_zero, entry_succ, entry_nil, top_app, maxStr, ByteArray.size, A.kill, O.kill, killS_app, killM_app, Nat.reduceAdd, Nat.reduceLeDiff, Nat.reduceEqDiff, Nat.reduceMul, Int.reduceToNat, reduceIte, wf_i64, Int.reduceLE, Int.reduceNeg, beq_self_eq_true, decide_true, decide_false, ybeq_some, ybeq_none, beqT, beqF, empty_toList, exs]; rfl)) ?_)
  refine W.newRowBox true 4 0 50 9 1 rfl rfl rfl ?_
  repeat (first | refine W.seq ?_ | refine W.block ?_ | refine W.skip ?_ | refine W.exit ?_ | refine W.region tab_ok 0 (by decide) (exec_run (by simp only [exec, stepQ, wantA, yieldA, kind, qv, qv1, qv2, stO, adrId, dataC, replC, eqNil, binNil, shiftInt, A.down, A1.up, downs, toR, ev, putS, rowO, ofConst, cellsA, cellsC, asC, asCs, ld, ldR, bin, binInt, binStr, binBool, sliceOf, bndOf, repl, fillC, zeroC, chunks, ptrIds, tabs, upd_app, mem_nil_app, entry_zero, entry_succ, entry_nil, top_app, maxStr, ByteArray.size, A.kill, O.kill, killS_app, killM_app, Nat.reduceAdd, Nat.reduceLeDiff, Nat.reduceEqDiff, Nat.reduceMul, Int.reduceToNat, reduceIte, wf_i64, Int.reduceLE, Int.reduceNeg, beq_self_eq_true, decide_true, decide_false, ybeq_some, ybeq_none, beqT, beqF, empty_toList, exs]; rfl)) ?_)
  refine W.regionK tab_ok 0 (by decide) ?_
  refine runk_split 2 (by simp only [exec, stepQ, wantA, yieldA, kind, qv, qv1, qv2, stO, adrId, dataC, replC, eqNil, binNil, shiftInt, A.down, A1.up, downs, toR, ev, putS, rowO, ofConst, cellsA, cellsC, asC, asCs, ld, ldR, bin, binInt, binStr, binBool, sliceOf, bndOf, repl, fillC, zeroC, chunks, ptrIds, tabs, upd_app, mem_nil_app, entry_zero, entry_succ, entry_nil, top_app, maxStr, ByteArray.size, A.kill, O.kill, killS_app, killM_app, Nat.reduceAdd, Nat.reduceLeDiff, Nat.reduceEqDiff, Nat.reduceMul, Int.reduceToNat, reduceIte, wf_i64, Int.reduceLE, Int.reduceNeg, beq_self_eq_true, decide_true, decide_false, ybeq_some, ybeq_none, beqT, beqF, empty_toList, exs]; rfl) ?_
  refine runk_call0 rfl rfl rfl rfl rfl rfl (by simp) (cvs_cons cv_refl (cvs_cons cv_refl cvs_nil)) (up_ok (cs.map cClass) mn name _ 1000 1001 rfl rfl (by decide)) ?_
  refine runk_exec (by simp only [exec, stepQ, wantA, yieldA, kind, qv, qv1, qv2, stO, adrId, dataC, replC, eqNil, binNil, shiftInt, A.down, A1.up, downs, toR, ev, putS, rowO, ofConst, cellsA, cellsC, asC, asCs, ld, ldR, bin, binInt, binStr, binBool, sliceOf, bndOf, repl, fillC, zeroC, chunks, ptrIds, tabs, upd_app, mem_nil_app, entry_zero, entry_succ, entry_nil, top_app, maxStr, ByteArray.size, A.kill, O.kill, killS_app, killM_app, Nat.reduceAdd, Nat.reduceLeDiff, Nat.reduceEqDiff, Nat.reduceMul, Int.reduceToNat, reduceIte, wf_i64, Int.reduceLE, Int.reduceNeg, beq_self_eq_true, decide_true, decide_false, ybeq_some, ybeq_none, beqT, beqF, empty_toList, exs]; rfl) ?_
  repeat (first | refine W.seq ?_ | refine W.block ?_ | refine W.skip ?_ | refine W.exit ?_ | refine W.region tab_ok 0 (by decide) (exec_run (by simp only [exec, stepQ, wantA, yieldA, kind, qv, qv1, qv2, stO, adrId, dataC, replC, eqNil, binNil, shiftInt, A.down, A1.up, downs, toR, ev, putS, rowO, ofConst, cellsA, cellsC, asC, asCs, ld, ldR, bin, binInt, binStr, binBool, sliceOf, bndOf, repl, fillC, zeroC, chunks, ptrIds, tabs, upd_app, mem_nil_app, entry_zero, entry_succ, entry_nil, top_app, maxStr, ByteArray.size, A.kill, O.kill, killS_app, killM_app, Nat.reduceAdd, Nat.reduceLeDiff, Nat.reduceEqDiff, Nat.reduceMul, Int.reduceToNat, reduceIte, wf_i64, Int.reduceLE, Int.reduceNeg, beq_self_eq_true, decide_true, decide_false, ybeq_some, ybeq_none, beqT, beqF, empty_toList, exs]; rfl)) ?_)
  have hG : ∀ l, GoodM R.keep slotH 1000 1001 1002 1003 (memH cs mn l) := fun l => by
    refine ⟨?_, rfl, rfl, rfl, rfl, ?_, kept_not hkeep⟩
    · unfold memH
      show MWf _ _
      (repeat (first | exact mwf_nil _ | refine mwf_upd ?_ (by simp [A.ids, O.ids, upd_app])))
    · show SWf _ _
      unfold memH slotH
      (repeat (first | exact swf_top _ | refine swf_upd ?_ (by simp [A.ids, upd_app])))
  have hul := upX_len cs (cs.length + 1) 0 name
  refine W.rangeUp cs name mn 1000 1001 1002 1003 slotH (fun k => memH cs mn (upNames cs ((upX cs (cs.length + 1) 0 name).take k))) (fun _ => True) (by omega) rfl rfl rfl (by decide) rfl rfl (by decide) trivial rfl ?sle ?sn ?m0 (fun k _ => hG _) ?round ?done
  case sle =>
    unfold slotH
    (repeat (first | exact sle_top _ | exact sle_refl _ | refine sle_upd ?_ (by first | rfl | (simp only [upd_app, entry_zero, entry_succ, Nat.reduceEqDiff, reduceIte]; done))))
  case sn =>
    unfold slotH
    (repeat (first | exact sn_top | refine sn_upd ?_ (by decide)))
  case m0 =>
    refine mle_some ?_
    unfold memH
    (repeat (first | exact mle_nil _ | exact mle_refl _ | refine mle_upd ?_ (by first | rfl | (simp only [upd_app, killM_app, Nat.reduceEqDiff, reduceIte, List.take_zero, upNames, List.flatMap_nil, List.map_nil]; done))))
  case round =>
    intro R' l hk' k j kc x1 x2 xL _ hitem hkc
    have hn50 : ¬ R'.keep 50 := fun h => by
      rw [hk', hkeep] at h
      rcases h with h | ⟨t, h⟩ | h
      · exact h
      · have := slotH_ids t 50 h; omega
      · omega
    have hF : List.map cStr (upNames cs ((upX cs (cs.length + 1) 0 name).take k)) ++ [cStr kc.name] = List.map cStr (upNames cs ((upX cs (cs.length + 1) 0 name).take (k + 1))) := by
      rw [List.take_add_one, hitem]
      simp [upNames, nameAt, hkc]
    repeat (first | refine WI.seq ?_ | refine WI.block ?_ | refine WI.skip ?_ | refine WI.exit ?_ | refine WI.region tab_ok 0 (by decide) (by kernel_rfl) (exec_run (by simp only [exec, stepQ, wantA, yieldA, kind, qv, qv1, qv2, stO, adrId, dataC, replC, eqNil, binNil, shiftInt, A.down, A1.up, downs, toR, ev, putS, rowO, ofConst, cellsA, cellsC, asC, asCs, ld, ldR, bin, binInt, binStr, binBool, sliceOf, bndOf, repl, fillC, zeroC, chunks, ptrIds, tabs, upd_app, mem_nil_app, entry_zero, entry_succ, entry_nil, top_app, maxStr, ByteArray.size, A.kill, O.kill, killS_app, killM_app, Nat.reduceAdd, Nat.reduceLeDiff, Nat.reduceEqDiff, Nat.reduceMul, Int.reduceToNat, reduceIte, wf_i64, Int.reduceLE, Int.reduceNeg, beq_self_eq_true, decide_true, decide_false, ybeq_some, ybeq_none, beqT, beqF, empty_toList, exs, fullM, memH, slotH, cClass]; rfl)) ?_)
    refine ⟨rfl, fun xL' => ?_⟩
    repeat (first | refine WI.seq ?_ | refine WI.block ?_ | refine WI.skip ?_ | refine WI.exit ?_ | refine WI.region tab_ok 0 (by decide) (by kernel_rfl) (exec_run (by simp only [exec, stepQ, wantA, yieldA, kind, qv, qv1, qv2, stO, adrId, dataC, replC, eqNil, binNil, shiftInt, A.down, A1.up, downs, toR, ev, putS, rowO, ofConst, cellsA, cellsC, asC, asCs, ld, ldR, bin, binInt, binStr, binBool, sliceOf, bndOf, repl, fillC, zeroC, chunks, ptrIds, tabs, upd_app, mem_nil_app, entry_zero, entry_succ, entry_nil, top_app, maxStr, ByteArray.size, A.kill, O.kill, killS_app, killM_app, Nat.reduceAdd, Nat.reduceLeDiff, Nat.reduceEqDiff, Nat.reduceMul, Int.reduceToNat, reduceIte, wf_i64, Int.reduceLE, Int.reduceNeg, beq_self_eq_true, decide_true, decide_false, ybeq_some, ybeq_none, beqT, beqF, empty_toList, exs, fullM, memH, slotH, cClass]; rfl)) ?_)
    refine WI.regionK tab_ok 0 (by decide) (by kernel_rfl) ?_
    refine runk_split 4 (by simp only [exec, stepQ, wantA, yieldA, kind, qv, qv1, qv2, stO, adrId, dataC, replC, eqNil, binNil, shiftInt, A.down, A1.up, downs, toR, ev, putS, rowO, ofConst, cellsA, cellsC, asC, asCs, ld, ldR, bin, binInt, binStr, binBool, sliceOf, bndOf, repl, fillC, zeroC, chunks, ptrIds, tabs, upd_app, mem_nil_app, entry_zero, entry_succ, entry_nil, top_app, maxStr, ByteArray.size, A.kill, O.kill, killS_app, killM_app, Nat.reduceAdd, Nat.reduceLeDiff, Nat.reduceEqDiff, Nat.reduceMul, Int.reduceToNat, reduceIte, wf_i64, Int.reduceLE, Int.reduceNeg, beq_self_eq_true, decide_true, decide_false, ybeq_some, ybeq_none, beqT, beqF, empty_toList, exs, fullM, memH, slotH]; rfl) ?_
    refine runk_append tab_ok 50 rfl rfl rfl rfl rfl rfl rfl rfl (by first | rfl | (simp only [exec, stepQ, wantA, yieldA, kind, qv, qv1, qv2, stO, adrId, dataC, replC, eqNil, binNil, shiftInt, A.down, A1.up, downs, toR, ev, putS, rowO, ofConst, cellsA, cellsC, asC, asCs, ld, ldR, bin, binInt, binStr, binBool, sliceOf, bndOf, repl, fillC, zeroC, chunks, ptrIds, tabs, upd_app, mem_nil_app, entry_zero, entry_succ, entry_nil, top_app, maxStr, ByteArray.size, A.kill, O.kill, killS_app, killM_app, Nat.reduceAdd, Nat.reduceLeDiff, Nat.reduceEqDiff, Nat.reduceMul, Int.reduceToNat, reduceIte, wf_i64, Int.reduceLE, Int.reduceNeg, beq_self_eq_true, decide_true, decide_false, ybeq_some, ybeq_none, beqT, beqF, empty_toList, exs, fullM, memH, slotH]; rfl)) rfl rfl rfl rfl hn50 (by simp) (by have h1 := upNames_len cs ((upX cs (cs.length + 1) 0 name).take k); have h3 := List.length_take_le k (upX cs (cs.length + 1) 0 name); have h4 := (List.getElem?_eq_some_iff.1 hitem).1; simp only [List.length_map, List.length_cons, List.length_nil, List.length_take] at *; omega) (by decide) ?_
    refine runk_exec (by simp only [exec, stepQ, wantA, yieldA, kind, qv, qv1, qv2, stO, adrId, dataC, replC, eqNil, binNil, shiftInt, A.down, A1.up, downs, toR, ev, putS, rowO, ofConst, cellsA, cellsC, asC, asCs, ld, ldR, bin, binInt, binStr, binBool, sliceOf, bndOf, repl, fillC, zeroC, chunks, ptrIds, tabs, upd_app, mem_nil_app, entry_zero, entry_succ, entry_nil, top_app, maxStr, ByteArray.size, A.kill, O.kill, killS_app, killM_app, Nat.reduceAdd, Nat.reduceLeDiff, Nat.reduceEqDiff, Nat.reduceMul, Int.reduceToNat, reduceIte, wf_i64, Int.reduceLE, Int.reduceNeg, beq_self_eq_true, decide_true, decide_false, ybeq_some, ybeq_none, beqT, beqF, empty_toList, exs, fullM, memH, slotH]; rfl) ?_
    repeat (first | refine WI.seq ?_ | refine WI.block ?_ | refine WI.skip ?_ | refine WI.exit ?_ | refine WI.region tab_ok 0 (by decide) (by kernel_rfl) (exec_run (by simp only [exec, stepQ, wantA, yieldA, kind, qv, qv1, qv2, stO, adrId, dataC, replC, eqNil, binNil, shiftInt, A.down, A1.up, downs, toR, ev, putS, rowO, ofConst, cellsA, cellsC, asC, asCs, ld, ldR, bin, binInt, binStr, binBool, sliceOf, bndOf, repl, fillC, zeroC, chunks, ptrIds, tabs, upd_app, mem_nil_app, entry_zero, entry_succ, entry_nil, top_app, maxStr, ByteArray.size, A.kill, O.kill, killS_app, killM_app, Nat.reduceAdd, Nat.reduceLeDiff, Nat.reduceEqDiff, Nat.reduceMul, Int.reduceToNat, reduceIte, wf_i64, Int.reduceLE, Int.reduceNeg, beq_self_eq_true, decide_true, decide_false, ybeq_some, ybeq_none, beqT, beqF, empty_toList, exs, fullM, memH, slotH]; rfl)) ?_)
    refine ⟨trivial, fun j => j, Le.toT ?_⟩
    simp only [fullM, memH, ← hF]
    refine le_mk ?sle ?mle ?swf ?mwf (fun j hj => fullM_keep (hF ▸ hG _) hj) (by rfl)
    case swf => repeat (first | exact swf_top _ | refine swf_upd ?_ (by simp [A.ids, upd_app, fullM, memH, cStr]))
    case mwf => repeat (first | exact mwf_nil _ | refine mwf_upd ?_ (by simp [A.ids, O.ids, upd_app, fullM, memH, cStr]))
    case mle => repeat (first | exact mle_nil _ | exact mle_refl _ | refine mle_upd ?_ (by first | rfl | (simp only [upd_app, killM_app, O.kill, A.kill, Nat.reduceEqDiff, reduceIte, Option.map_some, Option.map_none, List.map_cons, List.map_nil, fullM, memH, cStr]; done)))
    case sle => repeat (first | exact sle_top _ | exact sle_refl _ | refine sle_upd ?_ (by first | rfl | (simp only [upd_app, killS_app, A.kill, entry_zero, entry_succ, Nat.reduceEqDiff, reduceIte, fullM, memH, cStr]; done)))
  case done =>
    intro _ b
    rw [List.take_length]
    repeat (first | refine W.seq ?_ | refine W.block ?_ | refine W.skip ?_ | refine W.exit ?_ | refine W.region tab_ok 0 (by decide) (exec_run (by simp only [exec, stepQ, wantA, yieldA, kind, qv, qv1, qv2, stO, adrId, dataC, replC, eqNil, binNil, shiftInt, A.down, A1.up, downs, toR, ev, putS, rowO, ofConst, cellsA, cellsC, asC, asCs, ld, ldR, bin, binInt, binStr, binBool, sliceOf, bndOf, repl, fillC, zeroC, chunks, ptrIds, tabs, upd_app, mem_nil_app, entry_zero, entry_succ, entry_nil, top_app, maxStr, ByteArray.size, A.kill, O.kill, killS_app, killM_app, Nat.reduceAdd, Nat.reduceLeDiff, Nat.reduceEqDiff, Nat.reduceMul, Int.reduceToNat, reduceIte, wf_i64, Int.reduceLE, Int.reduceNeg, beq_self_eq_true, decide_true, decide_false, ybeq_some, ybeq_none, beqT, beqF, empty_toList, exs, doneS, doneM, DID, memH, slotH]; rfl)) ?_)
    refine W.ret ⟨.inr rfl, .inr ⟨b, 1002, rfl, rfl, rfl, ?_⟩⟩
    simp only [Try.f11, resA, resOne, toT, fin, doneS, doneM, DID, exec, stepQ, wantA, yieldA, kind, qv, qv1, qv2, stO, adrId, dataC, replC, eqNil, binNil, shiftInt, A.down, A1.up, downs, toR, ev, putS, rowO, ofConst, cellsA, cellsC, asC, asCs, ld, ldR, bin, binInt, binStr, binBool, sliceOf, bndOf, repl, fillC, zeroC, chunks, ptrIds, tabs, upd_app, mem_nil_app, entry_zero, entry_succ, entry_nil, top_app, maxStr, ByteArray.size, A.kill, O.kill, killS_app, killM_app, Nat.reduceAdd, Nat.reduceLeDiff, Nat.reduceEqDiff, Nat.reduceMul, Int.reduceToNat, reduceIte, wf_i64, Int.reduceLE, Int.reduceNeg, beq_self_eq_true, decide_true, decide_false, ybeq_some, ybeq_none, beqT, beqF, empty_toList, exs, memH]
    simp [chainR]
theorem index_ok (l : List ByteArray) (s : ByteArray) (hlen : l.length ≤ 1000000000000) (m : Mem) : COk Try.prog 59 [.c (.sl (l.map cStr)), .c (.str s)] m (.c (.int .i64 (idxB (fun x => s.toList == x.toList) l))) := by
  refine (ok_pure tab_ok Try.func59 (by kernel_rfl) rfl rfl (by rfl) (by rfl) (by rfl) (fun R hkeep => ?_) m)
  repeat (first | refine W.seq ?_ | refine W.block ?_ | refine W.skip ?_ | refine W.exit ?_ | refine W.region tab_ok 0 (by decide) (exec_run (by simp only [exec, stepQ, wantA, yieldA, kind, qv, qv1, qv2, stO, adrId, dataC, replC, eqNil, binNil, shiftInt, A.down, A1.up, downs, toR, ev, putS, rowO, ofConst, cellsA, cellsC, asC, asCs, ld, ldR, bin, binInt, binStr, binBool, sliceOf, bndOf, repl, fillC, zeroC, chunks, ptrIds, tabs, upd_app, mem_nil_app, entry_zero, entry_succ, entry_nil, top_app, maxStr, ByteArray.size, A.kill, O.kill, killS_app, killM_app, Nat.reduceAdd, Nat.reduceLeDiff, Nat.reduceEqDiff, Nat.reduceMul, Int.reduceToNat, reduceIte, wf_i64, Int.reduceLE, Int.reduceNeg, beq_self_eq_true, decide_true, decide_false, ybeq_some, ybeq_none, beqT, beqF, empty_toList, exs]; rfl)) ?_)
  refine W.loop (ι := Nat) (fun k => ⟨upd (upd (upd (upd (upd (fun _ => .top) 0 (.c (.sl (l.map cStr)))) 1 (.c (.str s))) 4 (.c (.int .i64 0))) 7 (.c (.int .i64 l.length))) 8 (.c (.int .i64 k)), Mem.nil⟩) (fun k => k ≤ l.length ∧ (l.take k).any (fun x => s.toList == x.toList) = false) (fun k => l.length - k) 0 ?start ⟨Nat.zero_le _, rfl⟩ ?round
  case start =>
    refine le_mk ?sle ?mle ?swf ?mwf ?kept (by rfl)
    case kept => exact kept_not hkeep
    case swf => repeat (first | exact swf_top _ | refine swf_upd ?_ (by simp [A.ids, upd_app]))
    case mwf => repeat (first | exact mwf_nil _ | refine mwf_upd ?_ (by simp [A.ids, O.ids, upd_app]))
    case mle => repeat (first | exact mle_nil _ | exact mle_refl _ | refine mle_upd ?_ (by first | rfl | (simp only [upd_app, killM_app, Nat.reduceEqDiff, reduceIte]; done)))
    case sle => repeat (first | exact sle_top _ | exact sle_refl _ | refine sle_upd ?_ (by first | rfl | (simp only [upd_app, entry_zero, entry_succ, Nat.reduceEqDiff, reduceIte]; done)))
  case round =>
    rintro k ⟨hkl, hno⟩
    repeat (first | refine W.seq ?_ | refine W.block ?_ | refine W.skip ?_ | refine W.exit ?_ | refine W.region tab_ok 0 (by decide) (exec_run (by simp only [exec, stepQ, wantA, yieldA, kind, qv, qv1, qv2, stO, adrId, dataC, replC, eqNil, binNil, shiftInt, A.down, A1.up, downs, toR, ev, putS, rowO, ofConst, cellsA, cellsC, asC, asCs, ld, ldR, bin, binInt, binStr, binBool, sliceOf, bndOf, repl, fillC, zeroC, chunks, ptrIds, tabs, upd_app, mem_nil_app, entry_zero, entry_succ, entry_nil, top_app, maxStr, ByteArray.size, A.kill, O.kill, killS_app, killM_app, Nat.reduceAdd, Nat.reduceLeDiff, Nat.reduceEqDiff, Nat.reduceMul, Int.reduceToNat, reduceIte, wf_i64, Int.reduceLE, Int.reduceNeg, beq_self_eq_true, decide_true, decide_false, ybeq_some, ybeq_none, beqT, beqF, empty_toList, exs]; rfl)) ?_)
    refine W.cond rfl ?_ ?_
    · intro hlt
      simp only [decide_eq_true_eq, Int.ofNat_lt] at hlt
      obtain ⟨x, hx⟩ : ∃ x, l[k]? = some x := ⟨_, List.getElem?_eq_getElem hlt⟩
      repeat (first | refine W.seq ?_ | refine W.block ?_ | refine W.skip ?_ | refine W.exit ?_ | refine W.region tab_ok 0 (by decide) (exec_run (by simp only [exec, stepQ, wantA, yieldA, kind, qv, qv1, qv2, stO, adrId, dataC, replC, eqNil, binNil, shiftInt, A.down, A1.up, downs, toR, ev, putS, rowO, ofConst, cellsA, cellsC, asC, asCs, ld, ldR, bin, binInt, binStr, binBool, sliceOf, bndOf, repl, fillC, zeroC, chunks, ptrIds, tabs, upd_app, mem_nil_app, entry_zero, entry_succ, entry_nil, top_app, maxStr, ByteArray.size, A.kill, O.kill, killS_app, killM_app, Nat.reduceAdd, Nat.reduceLeDiff, Nat.reduceEqDiff, Nat.reduceMul, Int.reduceToNat, reduceIte, wf_i64, Int.reduceLE, Int.reduceNeg, beq_self_eq_true, decide_true, decide_false, ybeq_some, ybeq_none, beqT, beqF, empty_toList, exs, at_map hx, cStr]; rfl)) ?_)
      refine W.cond rfl ?_ ?_
      · intro hp
        repeat (first | refine W.seq ?_ | refine W.block ?_ | refine W.skip ?_ | refine W.exit ?_ | refine W.region tab_ok 0 (by decide) (exec_run (by simp only [exec, stepQ, wantA, yieldA, kind, qv, qv1, qv2, stO, adrId, dataC, replC, eqNil, binNil, shiftInt, A.down, A1.up, downs, toR, ev, putS, rowO, ofConst, cellsA, cellsC, asC, asCs, ld, ldR, bin, binInt, binStr, binBool, sliceOf, bndOf, repl, fillC, zeroC, chunks, ptrIds, tabs, upd_app, mem_nil_app, entry_zero, entry_succ, entry_nil, top_app, maxStr, ByteArray.size, A.kill, O.kill, killS_app, killM_app, Nat.reduceAdd, Nat.reduceLeDiff, Nat.reduceEqDiff, Nat.reduceMul, Int.reduceToNat, reduceIte, wf_i64, Int.reduceLE, Int.reduceNeg, beq_self_eq_true, decide_true, decide_false, ybeq_some, ybeq_none, beqT, beqF, empty_toList, exs]; rfl)) ?_)
        refine W.ret ⟨.inr rfl, by rfl, ?_⟩
        simp only [Try.f59, resA, resOne, toT, fin, exec, stepQ, wantA, yieldA, kind, qv, qv1, qv2, stO, adrId, dataC, replC, eqNil, binNil, shiftInt, A.down, A1.up, downs, toR, ev, putS, rowO, ofConst, cellsA, cellsC, asC, asCs, ld, ldR, bin, binInt, binStr, binBool, sliceOf, bndOf, repl, fillC, zeroC, chunks, ptrIds, tabs, upd_app, mem_nil_app, entry_zero, entry_succ, entry_nil, top_app, maxStr, ByteArray.size, A.kill, O.kill, killS_app, killM_app, Nat.reduceAdd, Nat.reduceLeDiff, Nat.reduceEqDiff, Nat.reduceMul, Int.reduceToNat, reduceIte, wf_i64, Int.reduceLE, Int.reduceNeg, beq_self_eq_true, decide_true, decide_false, ybeq_some, ybeq_none, beqT, beqF, empty_toList, exs]
        rw [idxB_at hno hx hp]
      · intro hp
        repeat (first | refine W.seq ?_ | refine W.block ?_ | refine W.skip ?_ | refine W.exit ?_ | refine W.region tab_ok 0 (by decide) (exec_run (by simp only [exec, stepQ, wantA, yieldA, kind, qv, qv1, qv2, stO, adrId, dataC, replC, eqNil, binNil, shiftInt, A.down, A1.up, downs, toR, ev, putS, rowO, ofConst, cellsA, cellsC, asC, asCs, ld, ldR, bin, binInt, binStr, binBool, sliceOf, bndOf, repl, fillC, zeroC, chunks, ptrIds, tabs, upd_app, mem_nil_app, entry_zero, entry_succ, entry_nil, top_app, maxStr, ByteArray.size, A.kill, O.kill, killS_app, killM_app, Nat.reduceAdd, Nat.reduceLeDiff, Nat.reduceEqDiff, Nat.reduceMul, Int.reduceToNat, reduceIte, wf_i64, Int.reduceLE, Int.reduceNeg, beq_self_eq_true, decide_true, decide_false, ybeq_some, ybeq_none, beqT, beqF, empty_toList, exs]; rfl)) ?_)
        refine ⟨k + 1, ⟨hlt, ?_⟩, by omega, ?_⟩
        · rw [List.take_add_one, hx, List.any_append, hno]; simpa using hp
        refine le_mk ?sle ?mle ?swf ?mwf ?kept (by rfl)
        case kept => exact kept_not hkeep
        case swf => repeat (first | exact swf_top _ | refine swf_upd ?_ (by simp [A.ids, upd_app]))
        case mwf => repeat (first | exact mwf_nil _ | refine mwf_upd ?_ (by simp [A.ids, O.ids, upd_app]))
        case mle => repeat (first | exact mle_nil _ | exact mle_refl _ | refine mle_upd ?_ (by first | rfl | (simp only [upd_app, killM_app, Nat.reduceEqDiff, reduceIte, wrap_succ (show k + 1 < 9223372036854775808 by omega)]; done)))
        case sle => repeat (first | exact sle_top _ | exact sle_refl _ | refine sle_upd ?_ (by first | rfl | (simp only [upd_app, entry_zero, entry_succ, Nat.reduceEqDiff, reduceIte, wrap_succ (show k + 1 < 9223372036854775808 by omega)]; done)))
    · intro hge
      simp only [decide_eq_false_iff_not, Int.ofNat_lt] at hge
      obtain rfl : k = l.length := by omega
      rw [List.take_length] at hno
      repeat (first | refine W.seq ?_ | refine W.block ?_ | refine W.skip ?_ | refine W.exit ?_ | refine W.region tab_ok 0 (by decide) (exec_run (by simp only [exec, stepQ, wantA, yieldA, kind, qv, qv1, qv2, stO, adrId, dataC, replC, eqNil, binNil, shiftInt, A.down, A1.up, downs, toR, ev, putS, rowO, ofConst, cellsA, cellsC, asC, asCs, ld, ldR, bin, binInt, binStr, binBool, sliceOf, bndOf, repl, fillC, zeroC, chunks, ptrIds, tabs, upd_app, mem_nil_app, entry_zero, entry_succ, entry_nil, top_app, maxStr, ByteArray.size, A.kill, O.kill, killS_app, killM_app, Nat.reduceAdd, Nat.reduceLeDiff, Nat.reduceEqDiff, Nat.reduceMul, Int.reduceToNat, reduceIte, wf_i64, Int.reduceLE, Int.reduceNeg, beq_self_eq_true, decide_true, decide_false, ybeq_some, ybeq_none, beqT, beqF, empty_toList, exs]; rfl)) ?_)
      refine W.ret ⟨.inr rfl, by rfl, ?_⟩
      simp only [Try.f59, resA, resOne, toT, fin, exec, stepQ, wantA, yieldA, kind, qv, qv1, qv2, stO, adrId, dataC, replC, eqNil, binNil, shiftInt, A.down, A1.up, downs, toR, ev, putS, rowO, ofConst, cellsA, cellsC, asC, asCs, ld, ldR, bin, binInt, binStr, binBool, sliceOf, bndOf, repl, fillC, zeroC, chunks, ptrIds, tabs, upd_app, mem_nil_app, entry_zero, entry_succ, entry_nil, top_app, maxStr, ByteArray.size, A.kill, O.kill, killS_app, killM_app, Nat.reduceAdd, Nat.reduceLeDiff, Nat.reduceEqDiff, Nat.reduceMul, Int.reduceToNat, reduceIte, wf_i64, Int.reduceLE, Int.reduceNeg, beq_self_eq_true, decide_true, decide_false, ybeq_some, ybeq_none, beqT, beqF, empty_toList, exs]
      rw [idxB_none hno]
theorem contains_ok (l : List ByteArray) (s : ByteArray) (hlen : l.length ≤ 1000000000000) (m : Mem) : COk Try.prog 35 [.c (.sl (l.map cStr)), .c (.str s)] m (.c (.bool (l.any (fun x => s.toList == x.toList)))) := by
  refine (ok_pure tab_ok Try.func35 (by kernel_rfl) rfl rfl (by rfl) (by rfl) (by rfl) (fun R hkeep => ?_) m)
  repeat (first | refine W.seq ?_ | refine W.block ?_ | refine W.skip ?_ | refine W.exit ?_ | refine W.region tab_ok 0 (by decide) (exec_run (by simp only [exec, stepQ, wantA, yieldA, kind, qv, qv1, qv2, stO, adrId, dataC, replC, eqNil, binNil, shiftInt, A.down, A1.up, downs, toR, ev, putS, rowO, ofConst, cellsA, cellsC, asC, asCs, ld, ldR, bin, binInt, binStr, binBool, sliceOf, bndOf, repl, fillC, zeroC, chunks, ptrIds, tabs, upd_app, mem_nil_app, entry_zero, entry_succ, entry_nil, top_app, maxStr, ByteArray.size, A.kill, O.kill, killS_app, killM_app, Nat.reduceAdd, Nat.reduceLeDiff, Nat.reduceEqDiff, Nat.reduceMul, Int.reduceToNat, reduceIte, wf_i64, Int.reduceLE, Int.reduceNeg, beq_self_eq_true, decide_true, decide_false, ybeq_some, ybeq_none, beqT, beqF, empty_toList, exs]; rfl)) ?_)
  refine W.regionK tab_ok 0 (by decide) ?_
  refine runk_split 2 (by simp only [exec, stepQ, wantA, yieldA, kind, qv, qv1, qv2, stO, adrId, dataC, replC, eqNil, binNil, shiftInt, A.down, A1.up, downs, toR, ev, putS, rowO, ofConst, cellsA, cellsC, asC, asCs, ld, ldR, bin, binInt, binStr, binBool, sliceOf, bndOf, repl, fillC, zeroC, chunks, ptrIds, tabs, upd_app, mem_nil_app, entry_zero, entry_succ, entry_nil, top_app, maxStr, ByteArray.size, A.kill, O.kill, killS_app, killM_app, Nat.reduceAdd, Nat.reduceLeDiff, Nat.reduceEqDiff, Nat.reduceMul, Int.reduceToNat, reduceIte, wf_i64, Int.reduceLE, Int.reduceNeg, beq_self_eq_true, decide_true, decide_false, ybeq_some, ybeq_none, beqT, beqF, empty_toList, exs]; rfl) ?_
  refine runk_call rfl rfl rfl rfl rfl (by simp) (cvs_cons cv_refl (cvs_cons cv_refl cvs_nil)) (index_ok l s hlen _) ?_
  refine runk_exec (by simp only [exec, stepQ, wantA, yieldA, kind, qv, qv1, qv2, stO, adrId, dataC, replC, eqNil, binNil, shiftInt, A.down, A1.up, downs, toR, ev, putS, rowO, ofConst, cellsA, cellsC, asC, asCs, ld, ldR, bin, binInt, binStr, binBool, sliceOf, bndOf, repl, fillC, zeroC, chunks, ptrIds, tabs, upd_app, mem_nil_app, entry_zero, entry_succ, entry_nil, top_app, maxStr, ByteArray.size, A.kill, O.kill, killS_app, killM_app, Nat.reduceAdd, Nat.reduceLeDiff, Nat.reduceEqDiff, Nat.reduceMul, Int.reduceToNat, reduceIte, wf_i64, Int.reduceLE, Int.reduceNeg, beq_self_eq_true, decide_true, decide_false, ybeq_some, ybeq_none, beqT, beqF, empty_toList, exs]; rfl) ?_
  repeat (first | refine W.seq ?_ | refine W.block ?_ | refine W.skip ?_ | refine W.exit ?_ | refine W.region tab_ok 0 (by decide) (exec_run (by simp only [exec, stepQ, wantA, yieldA, kind, qv, qv1, qv2, stO, adrId, dataC, replC, eqNil, binNil, shiftInt, A.down, A1.up, downs, toR, ev, putS, rowO, ofConst, cellsA, cellsC, asC, asCs, ld, ldR, bin, binInt, binStr, binBool, sliceOf, bndOf, repl, fillC, zeroC, chunks, ptrIds, tabs, upd_app, mem_nil_app, entry_zero, entry_succ, entry_nil, top_app, maxStr, ByteArray.size, A.kill, O.kill, killS_app, killM_app, Nat.reduceAdd, Nat.reduceLeDiff, Nat.reduceEqDiff, Nat.reduceMul, Int.reduceToNat, reduceIte, wf_i64, Int.reduceLE, Int.reduceNeg, beq_self_eq_true, decide_true, decide_false, ybeq_some, ybeq_none, beqT, beqF, empty_toList, exs]; rfl)) ?_)
  refine W.ret ⟨.inr rfl, by rfl, ?_⟩
  simp only [Try.f35, resA, resOne, toT, fin, exec, stepQ, wantA, yieldA, kind, qv, qv1, qv2, stO, adrId, dataC, replC, eqNil, binNil, shiftInt, A.down, A1.up, downs, toR, ev, putS, rowO, ofConst, cellsA, cellsC, asC, asCs, ld, ldR, bin, binInt, binStr, binBool, sliceOf, bndOf, repl, fillC, zeroC, chunks, ptrIds, tabs, upd_app, mem_nil_app, entry_zero, entry_succ, entry_nil, top_app, maxStr, ByteArray.size, A.kill, O.kill, killS_app, killM_app, Nat.reduceAdd, Nat.reduceLeDiff, Nat.reduceEqDiff, Nat.reduceMul, Int.reduceToNat, reduceIte, wf_i64, Int.reduceLE, Int.reduceNeg, beq_self_eq_true, decide_true, decide_false, ybeq_some, ybeq_none, beqT, beqF, empty_toList, exs]
  rw [idxB_any (fun x : ByteArray => s.toList == x.toList) l]
def belowR (E : Int) (cs : List Class) (a b : ByteArray) : Bool := (chainR E cs a).any (fun x => b.toList == x.toList)
theorem chainR_len (E : Int) (cs : List Class) (n : ByteArray) : (chainR E cs n).length ≤ cs.length + 1 := by
  unfold chainR
  split
  · exact Nat.le_trans (upNames_len _ _) (upX_len _ _ _ _)
  · simp
theorem below_ok (p : Program) (E : Int) (a b : ByteArray) (hlen : p.classes.length ≤ 1000000000) (hchk : ∀ m, COk Try.prog 9 [.agg (cProg p)] m (.c (.int .i64 E))) (m : Mem) :
    COk Try.prog 14 [.agg (cProg p), .c (.str a), .c (.str b)] m (.c (.bool (belowR E p.classes a b))) := by
  have hcl := chainR_len E p.classes a
  refine (ok_pure tab_ok Try.func14 (by kernel_rfl) rfl rfl (by rfl) (by rfl) (by rfl) (fun R hkeep => ?_) m)
  repeat (first | refine W.seq ?_ | refine W.block ?_ | refine W.skip ?_ | refine W.exit ?_ | refine W.region tab_ok 0 (by decide) (exec_run (by simp only [exec, stepQ, wantA, yieldA, kind, qv, qv1, qv2, stO, adrId, dataC, replC, eqNil, binNil, shiftInt, A.down, A1.up, downs, toR, ev, putS, rowO, ofConst, cellsA, cellsC, asC, asCs, ld, ldR, bin, binInt, binStr, binBool, sliceOf, bndOf, repl, fillC, zeroC, chunks, ptrIds, tabs, upd_app, mem_nil_app, entry_zero, entry_succ, entry_nil, top_app, maxStr, ByteArray.size, A.kill, O.kill, killS_app, killM_app, Nat.reduceAdd, Nat.reduceLeDiff, Nat.reduceEqDiff, Nat.reduceMul, Int.reduceToNat, reduceIte, wf_i64, Int.reduceLE, Int.reduceNeg, beq_self_eq_true, decide_true, decide_false, ybeq_some, ybeq_none, beqT, beqF, empty_toList, exs, cProg]; rfl)) ?_)
  refine W.regionK tab_ok 0 (by decide) ?_
  refine runk_split 2 (by simp only [exec, stepQ, wantA, yieldA, kind, qv, qv1, qv2, stO, adrId, dataC, replC, eqNil, binNil, shiftInt, A.down, A1.up, downs, toR, ev, putS, rowO, ofConst, cellsA, cellsC, asC, asCs, ld, ldR, bin, binInt, binStr, binBool, sliceOf, bndOf, repl, fillC, zeroC, chunks, ptrIds, tabs, upd_app, mem_nil_app, entry_zero, entry_succ, entry_nil, top_app, maxStr, ByteArray.size, A.kill, O.kill, killS_app, killM_app, Nat.reduceAdd, Nat.reduceLeDiff, Nat.reduceEqDiff, Nat.reduceMul, Int.reduceToNat, reduceIte, wf_i64, Int.reduceLE, Int.reduceNeg, beq_self_eq_true, decide_true, decide_false, ybeq_some, ybeq_none, beqT, beqF, empty_toList, exs, cProg]; rfl) ?_
  refine runk_call rfl rfl rfl rfl rfl (by simp) (cvs_cons cv_refl (cvs_cons cv_refl cvs_nil)) (chainP_ok p E a hlen hchk _) ?_
  refine runk_split 1 (by simp only [exec, stepQ, wantA, yieldA, kind, qv, qv1, qv2, stO, adrId, dataC, replC, eqNil, binNil, shiftInt, A.down, A1.up, downs, toR, ev, putS, rowO, ofConst, cellsA, cellsC, asC, asCs, ld, ldR, bin, binInt, binStr, binBool, sliceOf, bndOf, repl, fillC, zeroC, chunks, ptrIds, tabs, upd_app, mem_nil_app, entry_zero, entry_succ, entry_nil, top_app, maxStr, ByteArray.size, A.kill, O.kill, killS_app, killM_app, Nat.reduceAdd, Nat.reduceLeDiff, Nat.reduceEqDiff, Nat.reduceMul, Int.reduceToNat, reduceIte, wf_i64, Int.reduceLE, Int.reduceNeg, beq_self_eq_true, decide_true, decide_false, ybeq_some, ybeq_none, beqT, beqF, empty_toList, exs, cProg]; rfl) ?_
  refine runk_call rfl rfl rfl rfl rfl (by simp) (cvs_cons cv_refl (cvs_cons cv_refl cvs_nil)) (contains_ok (chainR E p.classes a) b (by omega) _) ?_
  refine runk_exec (by simp only [exec, stepQ, wantA, yieldA, kind, qv, qv1, qv2, stO, adrId, dataC, replC, eqNil, binNil, shiftInt, A.down, A1.up, downs, toR, ev, putS, rowO, ofConst, cellsA, cellsC, asC, asCs, ld, ldR, bin, binInt, binStr, binBool, sliceOf, bndOf, repl, fillC, zeroC, chunks, ptrIds, tabs, upd_app, mem_nil_app, entry_zero, entry_succ, entry_nil, top_app, maxStr, ByteArray.size, A.kill, O.kill, killS_app, killM_app, Nat.reduceAdd, Nat.reduceLeDiff, Nat.reduceEqDiff, Nat.reduceMul, Int.reduceToNat, reduceIte, wf_i64, Int.reduceLE, Int.reduceNeg, beq_self_eq_true, decide_true, decide_false, ybeq_some, ybeq_none, beqT, beqF, empty_toList, exs]; rfl) ?_
  refine W.ret ⟨.inr rfl, by rfl, ?_⟩
  simp only [Try.f14, resA, resOne, toT, fin, exec, stepQ, wantA, yieldA, kind, qv, qv1, qv2, stO, adrId, dataC, replC, eqNil, binNil, shiftInt, A.down, A1.up, downs, toR, ev, putS, rowO, ofConst, cellsA, cellsC, asC, asCs, ld, ldR, bin, binInt, binStr, binBool, sliceOf, bndOf, repl, fillC, zeroC, chunks, ptrIds, tabs, upd_app, mem_nil_app, entry_zero, entry_succ, entry_nil, top_app, maxStr, ByteArray.size, A.kill, O.kill, killS_app, killM_app, Nat.reduceAdd, Nat.reduceLeDiff, Nat.reduceEqDiff, Nat.reduceMul, Int.reduceToNat, reduceIte, wf_i64, Int.reduceLE, Int.reduceNeg, beq_self_eq_true, decide_true, decide_false, ybeq_some, ybeq_none, beqT, beqF, empty_toList, exs]
  rfl
end V
end Go.Proofs.Ytjciafpihdbedaa
end
section
namespace Go.Proofs.Ytjciafpihdbedaa
namespace V
open Go.RowKit
set_option linter.unusedSimpArgs false
def refChainF (E : Int) (cs : List Class) (n : ByteArray) : List ByteArray := if E = 0 then chainF cs (cs.length + 1) n else []
end V
end Go.Proofs.Ytjciafpihdbedaa
end
section
namespace Go.Proofs.Ytjciafpihdbedaa
namespace V
open Go.RowKit
theorem treeErr_wf (b : Bool) : (Lit.int .i64 (treeErr b)).wf = true := by cases b <;> decide
theorem tree_ok (p : Program) (m : Mem) : COk Try.prog 22 [.agg (cProg p)] m (.c (.int .i64 (treeErr (checkB p)))) := by
  refine ⟨enters_of Try.func22 (by kernel_rfl) rfl, rfl, fun m' _ => ?_⟩
  intro w0 I0 B I w vals hm hv
  match vals, hv with
  | [v], ⟨h1, _⟩ =>
    obtain ⟨d, hp⟩ := rprog_of hm.there h1
    refine (check_any d w v p hm.globNow hp).mono ?_
    rintro e w' ⟨rfl, hb⟩
    exact ⟨_, I, rfl, hb, fun _ _ k => k, fun _ _ k => .inl k, .int (treeErr_wf _)⟩
end V
end Go.Proofs.Ytjciafpihdbedaa
end
section
set_option linter.unusedVariables false
set_option linter.unusedSimpArgs false
namespace Go.Proofs.Ytjciafpihdbedaa
namespace V
theorem toList_loop (bs : ByteArray) : ∀ (n i : Nat) (r : List UInt8), bs.size - i = n → ByteArray.toList.loop bs i r = r.reverse ++ bs.data.toList.drop i := by
  intro n
  induction n with
  | zero =>
    intro i r h
    unfold ByteArray.toList.loop
    have : ¬ i < bs.size := by omega
    rw [if_neg this, List.drop_eq_nil_of_le (by rw [Array.length_toList]; show bs.size ≤ i; omega)]
    simp
  | succ n ih =>
    intro i r h
    have hi : i < bs.size := by omega
    unfold ByteArray.toList.loop
    rw [if_pos hi, ih (i + 1) _ (by omega)]
    have hl : i < bs.data.toList.length := by rw [Array.length_toList]; exact hi
    rw [List.drop_eq_getElem_cons hl]
    have : bs.get! i = bs.data.toList[i] := by
      have hi' : i < bs.data.size := hi
      show bs.data[i]! = _
      rw [getElem!_pos bs.data i hi']; simp
    rw [this]; simp
theorem toList_data (s : ByteArray) : s.toList = s.data.toList := by
  unfold ByteArray.toList
  rw [toList_loop s _ 0 [] rfl]; simp
theorem toList_inj {a b : ByteArray} : a.toList = b.toList ↔ a = b := by
  rw [toList_data, toList_data]
  refine ⟨fun h => ?_, fun h => by rw [h]⟩
  cases a; cases b
  simpa using h
theorem beq_bytes {a b : ByteArray} : (a.toList == b.toList) = true ↔ a = b := by rw [beq_iff_eq, toList_inj]
theorem onceB_iff {l : List ByteArray} : onceB l = true ↔ l.Nodup := by
  unfold onceB
  rw [decide_eq_true_eq]
  have e : (fun s : ByteArray => s.data.toList) = ByteArray.toList := funext fun s => (toList_data s).symm
  rw [e]
  exact ⟨fun h => (List.pairwise_map.1 h).imp fun hab e => hab (by rw [e]), fun h => List.Pairwise.map _ (fun a b hab hc => hab (toList_inj.1 hc)) h⟩
def chainC (cs : List Class) : Nat → ByteArray → List Class
  | 0, _ => []
  | k + 1, name => match cs.find? (nameIs name) with
    | none => []
    | some c => c :: chainC cs k c.super
theorem named_name : namedB = nameIs := rfl
theorem find_name {cs : List Class} {name : ByteArray} {c : Class} (h : cs.find? (nameIs name) = some c) : c.name = name ∧ c ∈ cs := by
  refine ⟨?_, List.mem_of_find?_eq_some h⟩
  have := List.find?_some h
  exact beq_bytes.1 this
theorem findJ_find (cs : List Class) (name : ByteArray) : (∀ j, findJ cs name = some j → cs[j]? = cs.find? (nameIs name) ∧ (cs.find? (nameIs name)).isSome = true) ∧ (findJ cs name = none → cs.find? (nameIs name) = none) := by
  obtain ⟨h1, h2⟩ := idx_find (namedB name) cs
  rw [named_name] at h1 h2
  unfold findJ
  rw [named_name]
  refine ⟨fun j hj => ?_, fun h => ?_⟩
  · split at hj
    · rename_i hi
      cases hj
      obtain ⟨x, hx, -⟩ := idxB_spec (nameIs name) cs hi
      exact ⟨h2 hi, by rw [← h2 hi, hx]; rfl⟩
    · cases hj
  · split at h
    · cases h
    · rename_i hi; exact h1 (by omega)
theorem upX_chain (cs : List Class) : ∀ (k m : Nat) (name : ByteArray), ∃ f : Nat → Nat, upX cs k m name = (List.range (chainC cs k name).length).map (fun i => (m + i, f i)) ∧ ∀ i, i < (chainC cs k name).length → cs[f i]? = (chainC cs k name)[i]?
  | 0, m, name => ⟨fun _ => 0, rfl, fun i h => by simp [chainC] at h⟩
  | k + 1, m, name => by
    obtain ⟨h1, h2⟩ := findJ_find cs name
    unfold upX
    cases hj : findJ cs name with
    | none =>
      have := h2 hj
      exact ⟨fun _ => 0, by simp [chainC, this], fun i h => by simp [chainC, this] at h⟩
    | some j =>
      obtain ⟨h3, h4⟩ := h1 j hj
      obtain ⟨c, hc⟩ := Option.isSome_iff_exists.1 h4
      rw [hc] at h3
      have hs : superOf cs j = c.super := by simp [superOf, h3]
      obtain ⟨f, h5, h6⟩ := upX_chain cs k (m + 1) c.super
      refine ⟨fun i => if i = 0 then j else f (i - 1), ?_, fun i hi => ?_⟩
      · dsimp only
        rw [hs, h5]
        simp only [chainC, hc, List.length_cons, List.range_succ_eq_map, List.map_cons, List.map_map]
        congr 1
        refine List.map_congr_left fun i _ => ?_
        simp [Nat.add_assoc, Nat.add_comm 1 i]
      · simp only [chainC, hc, List.length_cons] at hi ⊢
        cases i with
        | zero => simpa using h3
        | succ i => simpa using h6 i (by omega)
theorem chainF_chain (cs : List Class) : ∀ (k : Nat) (name : ByteArray), chainF cs k name = (chainC cs k name).map (·.name)
  | 0, _ => rfl
  | k + 1, name => by
    unfold chainF chainC
    cases h : cs.find? (nameIs name) with
    | none => rfl
    | some c => simp [chainF_chain cs k c.super, (find_name h).1]
theorem chainC_mem (cs : List Class) : ∀ (k : Nat) (name : ByteArray), ∀ d ∈ chainC cs k name, d ∈ cs ∧ cs.find? (nameIs d.name) = some d
  | 0, _, d, hd => by simp [chainC] at hd
  | k + 1, name, d, hd => by
    unfold chainC at hd
    cases h : cs.find? (nameIs name) with
    | none => rw [h] at hd; simp at hd
    | some c =>
      rw [h] at hd
      rcases List.mem_cons.1 hd with rfl | hd
      · obtain ⟨h1, h2⟩ := find_name h
        exact ⟨h2, by rw [h1]; exact h⟩
      · exact chainC_mem cs k c.super d hd
theorem chainC_more (cs : List Class) : ∀ (k a : Nat) (name : ByteArray), (chainC cs k name).length < k → chainC cs (k + a) name = chainC cs k name
  | 0, a, name, h => by omega
  | k + 1, a, name, h => by
    rw [Nat.add_right_comm]
    unfold chainC at h ⊢
    cases hf : cs.find? (nameIs name) with
    | none => rfl
    | some c =>
      rw [hf] at h
      simp only [List.length_cons] at h
      simp only
      rw [chainC_more cs k a c.super (by omega)]
theorem chainC_drop (cs : List Class) : ∀ (k i : Nat) (name : ByteArray) (d : Class), (chainC cs k name)[i]? = some d → (chainC cs k name).drop i = chainC cs (k - i) d.name
  | 0, i, name, d, h => by simp [chainC] at h
  | k + 1, 0, name, d, h => by
    rw [List.drop_zero, Nat.sub_zero]
    unfold chainC at h ⊢
    cases hf : cs.find? (nameIs name) with
    | none => rw [hf] at h; simp at h
    | some c =>
      rw [hf] at h
      simp at h; subst h
      rw [(find_name hf).1, hf]
  | k + 1, i + 1, name, d, h => by
    cases hf : cs.find? (nameIs name) with
    | none => simp [chainC, hf] at h
    | some c =>
      have e : chainC cs (k + 1) name = c :: chainC cs k c.super := by
        conv => lhs; unfold chainC
        rw [hf]
      rw [e] at h ⊢
      rw [List.getElem?_cons_succ] at h
      rw [List.drop_succ_cons, Nat.add_sub_add_right]
      exact chainC_drop cs k i c.super d h
theorem alike_iff {x y : Method} : alikeB x y = true ↔ x.type.toList = y.type.toList ∧ typesOf x.params = typesOf y.params := by simp [alikeB]
theorem upX_all {cs : List Class} {c : Class} (k m : Nat) (name : ByteArray) : (upX cs k m name).all (roundB cs c) = true ↔ ∀ i d, (chainC cs k name)[i]? = some d → topB cs c (m + i) d = true := by
  obtain ⟨f, h1, h2⟩ := upX_chain cs k m name
  rw [h1, List.all_eq_true]
  constructor
  · intro h i d hd
    have hi := (List.getElem?_eq_some_iff.1 hd).1
    have := h (m + i, f i) (List.mem_map.2 ⟨i, List.mem_range.2 hi, rfl⟩)
    rwa [roundB_at ((h2 i hi).trans hd)] at this
  · intro h x hx
    obtain ⟨i, hi, rfl⟩ := List.mem_map.1 hx
    have hi := List.mem_range.1 hi
    have hd := List.getElem?_eq_getElem hi
    rw [roundB_at ((h2 i hi).trans hd)]
    exact h i _ hd
theorem fieldsUp_chain (cs : List Class) (k m : Nat) (name : ByteArray) : fieldsUp cs (upX cs k m name) = (chainC cs k name).flatMap fun d => namesL d.fields := by
  obtain ⟨f, h1, h2⟩ := upX_chain cs k m name
  rw [h1]
  unfold fieldsUp
  have : ∀ (l : List Class), (∀ i, i < l.length → cs[f i]? = l[i]?) → ((List.range l.length).map fun i => (m + i, f i)).flatMap (fieldsAt cs) = l.flatMap fun d => namesL d.fields := by
    intro l h
    have e : (List.range l.length).map (fun i => fieldsAt cs (m + i, f i)) = l.map fun d => namesL d.fields := by
      refine List.ext_getElem? fun i => ?_
      by_cases hi : i < l.length
      · simp only [List.getElem?_map, List.getElem?_range hi, Option.map_some]
        rw [List.getElem?_eq_getElem hi]
        simp [fieldsAt, h i hi, List.getElem?_eq_getElem hi]
      · rw [List.getElem?_eq_none (by simpa using Nat.not_lt.1 hi), List.getElem?_eq_none (by simpa using Nat.not_lt.1 hi)]
    rw [List.flatMap_def, List.map_map, List.flatMap_def]
    exact congrArg List.flatten e
  exact this _ h2
theorem upNames_chain (cs : List Class) (k m : Nat) (name : ByteArray) : upNames cs (upX cs k m name) = (chainC cs k name).map (·.name) := by
  obtain ⟨f, h1, h2⟩ := upX_chain cs k m name
  rw [h1]
  unfold upNames
  have : ∀ (l : List Class), (∀ i, i < l.length → cs[f i]? = l[i]?) → ((List.range l.length).map fun i => (m + i, f i)).flatMap (nameAt cs) = l.map (·.name) := by
    intro l h
    have e : (List.range l.length).map (fun i => nameAt cs (m + i, f i)) = l.map fun d => [d.name] := by
      refine List.ext_getElem? fun i => ?_
      by_cases hi : i < l.length
      · simp only [List.getElem?_map, List.getElem?_range hi, Option.map_some]
        rw [List.getElem?_eq_getElem hi]
        simp [nameAt, h i hi, List.getElem?_eq_getElem hi]
      · rw [List.getElem?_eq_none (by simpa using Nat.not_lt.1 hi), List.getElem?_eq_none (by simpa using Nat.not_lt.1 hi)]
    rw [List.flatMap_def, List.map_map]
    have e2 := congrArg List.flatten e
    refine e2.trans ?_
    clear e e2 h
    induction l with
    | nil => rfl
    | cons x l ih => simp [ih]
  exact this _ h2
structure Same0 (cs : List Class) : Prop where
  names : (cs.map (·.name)).Nodup
  sup : ∀ c ∈ cs, c.super.toList = [] ∨ (cs.find? (nameIs c.super)).isSome = true
  len : ∀ c ∈ cs, (chainC cs (cs.length + 1) c.name).length ≤ cs.length
  fields : ∀ c ∈ cs, ((chainC cs (cs.length + 1) c.name).flatMap fun d => namesL d.fields).Nodup
  own : ∀ c ∈ cs, (c.methods.map (·.name)).Nodup
  params : ∀ c ∈ cs, ∀ m ∈ c.methods, (namesL m.params).Nodup
def ProgM (cs : List Class) : Prop := ∀ c ∈ cs, ∀ m ∈ c.methods, ∀ (i : Nat) d, (chainC cs (cs.length + 1) c.name)[i]? = some d → fitsB m d.methods = true
theorem find_uniq {cs : List Class} (h : (cs.map (·.name)).Nodup) {c : Class} (hc : c ∈ cs) : cs.find? (nameIs c.name) = some c := by
  obtain ⟨d, hd⟩ := find_self hc
  rw [hd]
  obtain ⟨h1, h2⟩ := find_name hd
  obtain ⟨i, hi⟩ := List.getElem?_of_mem hc
  obtain ⟨j, hj⟩ := List.getElem?_of_mem h2
  have hi' := (List.getElem?_eq_some_iff.1 hi)
  have hj' := (List.getElem?_eq_some_iff.1 hj)
  rw [List.Nodup, List.pairwise_map, List.pairwise_iff_getElem] at h
  rcases Nat.lt_trichotomy i j with hij | hij | hij
  · exact absurd (by rw [hi'.2, hj'.2]; exact h1.symm) (h i j hi'.1 hj'.1 hij)
  · subst hij; rw [hi] at hj; exact hj.symm
  · exact absurd (by rw [hi'.2, hj'.2]; exact h1) (h j i hj'.1 hi'.1 hij)
theorem meth_of {l : List Method} {name : ByteArray} {o : Method} (h : l.find? (methIs name) = some o) : o ∈ l ∧ o.name = name := ⟨List.mem_of_find?_eq_some h, by have := List.find?_some h; exact beq_bytes.1 this⟩
theorem fits_iff {m : Method} {l : List Method} : fitsB m l = true ↔ ∀ o, l.find? (methIs m.name) = some o → alikeB m o = true := by
  unfold fitsB
  have e : methB m.name = methIs m.name := rfl
  rw [e]
  cases l.find? (methIs m.name) with
  | none => simp
  | some o => simp
end V
end Go.Proofs.Ytjciafpihdbedaa
end
section
set_option linter.unusedVariables false
set_option linter.unusedSimpArgs false
namespace Go.Proofs.Ytjciafpihdbedaa
namespace V
theorem chainC_self {cs : List Class} {c : Class} (h : cs.find? (nameIs c.name) = some c) (k : Nat) : chainC cs (k + 1) c.name = c :: chainC cs k c.super := by
  conv => lhs; unfold chainC
  rw [h]
theorem any_named {cs : List Class} {n : ByteArray} : cs.any (namedB n) = true ↔ (cs.find? (nameIs n)).isSome = true := by
  rw [named_name, List.find?_isSome, List.any_eq_true]
theorem top_iff {cs : List Class} {c d : Class} {m : Nat} : topB cs c m d = true ↔ m ≠ cs.length ∧ (d.super.toList = [] ∨ (cs.find? (nameIs d.super)).isSome = true) ∧ ∀ y ∈ c.methods, fitsB y d.methods = true := by
  unfold topB
  rw [Bool.and_eq_true, Bool.and_eq_true, Bool.or_eq_true, any_named, List.all_eq_true, List.isEmpty_iff, Bool.not_eq_true', decide_eq_false_iff_not, and_assoc]
theorem prog_iff {cs : List Class} : (onceB (cs.map (·.name)) = true ∧ ∀ c ∈ cs, okClassB cs c = true) ↔ Same0 cs ∧ ProgM cs := by
  have row : ∀ c, okClassB cs c = true ↔ (∀ i d, (chainC cs (cs.length + 1) c.name)[i]? = some d → topB cs c (0 + i) d = true) ∧ (∀ m ∈ c.methods, (namesL m.params).Nodup) ∧ ((chainC cs (cs.length + 1) c.name).flatMap fun d => namesL d.fields).Nodup ∧ (c.methods.map (·.name)).Nodup := by
    intro c
    unfold okClassB
    rw [Bool.and_eq_true, Bool.and_eq_true, Bool.and_eq_true, upX_all, List.all_eq_true, fieldsUp_chain, onceB_iff, onceB_iff, and_assoc, and_assoc]
    simp only [onceB_iff]
  rw [onceB_iff]
  constructor
  · rintro ⟨h1, h2⟩
    have R := fun c hc => (row c).1 (h2 c hc)
    refine ⟨⟨h1, fun c hc => ?_, fun c hc => ?_, fun c hc => (R c hc).2.2.1, fun c hc => (R c hc).2.2.2, fun c hc => (R c hc).2.1⟩, fun c hc m hm i d hd => ?_⟩
    · have hf := find_uniq h1 hc
      have : (chainC cs (cs.length + 1) c.name)[0]? = some c := by rw [chainC_self hf]; rfl
      exact (top_iff.1 ((R c hc).1 0 c this)).2.1
    · rcases Nat.lt_or_ge cs.length (chainC cs (cs.length + 1) c.name).length with hl | hl
      · have := (top_iff.1 ((R c hc).1 cs.length _ (List.getElem?_eq_getElem hl))).1
        rw [Nat.zero_add] at this
        exact absurd rfl this
      · exact hl
    · exact (top_iff.1 ((R c hc).1 i d hd)).2.2 m hm
  · rintro ⟨h, hP⟩
    refine ⟨h.names, fun c hc => (row c).2 ⟨fun i d hd => ?_, h.params c hc, h.fields c hc, h.own c hc⟩⟩
    refine top_iff.2 ⟨?_, h.sup d (chainC_mem cs _ _ d (List.mem_of_getElem? hd)).1, fun y hy => hP c hc y hy i d hd⟩
    have := (List.getElem?_eq_some_iff.1 hd).1
    have := h.len c hc
    omega
theorem chain_eq (E : Int) (cs : List Class) (n : ByteArray) : chainR E cs n = refChainF E cs n := by
  unfold chainR refChainF
  rw [upNames_chain, chainF_chain]
theorem chkErr_zero {e : Int} {cs : List Class} (h : chkErr e cs = 0) : Same0 cs := by
  unfold chkErr at h
  split at h
  · split at h
    · exact absurd h (by decide)
    · split at h
      · exact absurd h (by decide)
      · split at h
        · exact absurd h (by decide)
        · rename_i h1 h2
          refine (prog_iff.1 ⟨by simpa using h1, fun c hc => ?_⟩).1
          cases hk : okClassB cs c with
          | true => rfl
          | false => exact absurd (List.any_eq_true.2 ⟨c, hc, by rw [hk]; rfl⟩) h2
  · rename_i h1; exact absurd h h1
end V
end Go.Proofs.Ytjciafpihdbedaa
end
section
set_option linter.unusedVariables false
set_option linter.unusedSimpArgs false
namespace Go.Proofs.Ytjciafpihdbedaa
namespace V
open Go.RowKit
set_option linter.unusedSimpArgs false
def b1 (n : UInt8) : ByteArray := ⟨#[n]⟩
def sInt : ByteArray := ⟨#[105, 110, 116]⟩
def threeP : Program := ⟨[⟨b1 65, ⟨#[]⟩, [⟨sInt, b1 102⟩], [⟨sInt, b1 109, [], []⟩]⟩, ⟨b1 66, b1 65, [], []⟩, ⟨b1 67, b1 66, [], []⟩], []⟩
set_option maxHeartbeats 1000000 in
theorem three_ok (m : Mem) : COk Try.prog 19 [] m (.agg (cProg threeP)) := by
  refine (ok_pure tab_ok Try.func19 (by kernel_rfl) rfl rfl (by rfl) (by rfl) (by rfl) (fun R hkeep => ?_) m)
  repeat (first | refine W.seq ?_ | refine W.block ?_ | refine W.skip ?_ | refine W.exit ?_ | refine W.region tab_ok 0 (by decide) (exec_run (by simp only [exec, stepQ, wantA, yieldA, kind, qv, qv1, qv2, stO, adrId, dataC, replC, eqNil, binNil, shiftInt, A.down, A1.up, downs, toR, ev, putS, rowO, ofConst, cellsA, cellsC, asC, asCs, ld, ldR, bin, binInt, binStr, binBool, sliceOf, bndOf, repl, fillC, zeroC, chunks, ptrIds, tabs, upd_app, mem_nil_app, entry_zero, entry_succ, entry_nil, top_app, maxStr, ByteArray.size, A.kill, O.kill, killS_app, killM_app, Nat.reduceAdd, Nat.reduceLeDiff, Nat.reduceEqDiff, Nat.reduceMul, Int.reduceToNat, reduceIte, wf_i64, Int.reduceLE, Int.reduceNeg, beq_self_eq_true, decide_true, decide_false, ybeq_some, ybeq_none, beqT, beqF, empty_toList, exs]; rfl)) ?_)
  refine W.ret ⟨.inr rfl, by rfl, ?_⟩
  simp only [Try.f19, resA, resOne, toT, fin, exec, stepQ, wantA, yieldA, kind, qv, qv1, qv2, stO, adrId, dataC, replC, eqNil, binNil, shiftInt, A.down, A1.up, downs, toR, ev, putS, rowO, ofConst, cellsA, cellsC, asC, asCs, ld, ldR, bin, binInt, binStr, binBool, sliceOf, bndOf, repl, fillC, zeroC, chunks, ptrIds, tabs, upd_app, mem_nil_app, entry_zero, entry_succ, entry_nil, top_app, maxStr, ByteArray.size, A.kill, O.kill, killS_app, killM_app, Nat.reduceAdd, Nat.reduceLeDiff, Nat.reduceEqDiff, Nat.reduceMul, Int.reduceToNat, reduceIte, wf_i64, Int.reduceLE, Int.reduceNeg, beq_self_eq_true, decide_true, decide_false, ybeq_some, ybeq_none, beqT, beqF, empty_toList, exs]
  simp [cProg, threeP, cClass, cSlot, cMethod, cStmts, b1, sInt]
theorem three_zero : chkErr 0 threeP.classes = 0 := by decide +kernel
theorem three_chain : chainR 0 threeP.classes (b1 67) = [b1 67, b1 66, b1 65] := by decide +kernel
theorem three_below : belowR 0 threeP.classes (b1 67) (b1 65) = true := by decide +kernel
theorem three_tree : checkB threeP = true := by decide +kernel
theorem small_three : SmallC threeP.classes := by
  intro c hc
  simp only [threeP, List.mem_cons, List.not_mem_nil, or_false] at hc
  rcases hc with rfl | rfl | rfl <;> exact ⟨by decide, by decide, fun m hm => by simp at hm <;> (subst hm; decide)⟩
theorem three_check (m : Mem) : COk Try.prog 9 [.agg (cProg threeP)] m (.c (.int .i64 0)) := by
  have := check_ok threeP 0 small_three (by decide) (fun m => by have := tree_ok threeP m; rw [three_tree] at this; exact this) m
  rw [three_zero] at this
  exact this
set_option maxHeartbeats 1000000 in
theorem live_ok (m : Mem) : COk Try.prog 8 [] m (.c (.bool true)) := by
  refine (ok_pure tab_ok Try.func8 (by kernel_rfl) rfl rfl (by rfl) (by rfl) (by rfl) (fun R hkeep => ?_) m)
  repeat (first | refine W.seq ?_ | refine W.block ?_ | refine W.skip ?_ | refine W.exit ?_ | refine W.region tab_ok 0 (by decide) (exec_run (by simp only [exec, stepQ, wantA, yieldA, kind, qv, qv1, qv2, stO, adrId, dataC, replC, eqNil, binNil, shiftInt, A.down, A1.up, downs, toR, ev, putS, rowO, ofConst, cellsA, cellsC, asC, asCs, ld, ldR, bin, binInt, binStr, binBool, sliceOf, bndOf, repl, fillC, zeroC, chunks, ptrIds, tabs, upd_app, mem_nil_app, entry_zero, entry_succ, entry_nil, top_app, maxStr, ByteArray.size, A.kill, O.kill, killS_app, killM_app, Nat.reduceAdd, Nat.reduceLeDiff, Nat.reduceEqDiff, Nat.reduceMul, Int.reduceToNat, reduceIte, wf_i64, Int.reduceLE, Int.reduceNeg, beq_self_eq_true, decide_true, decide_false, ybeq_some, ybeq_none, beqT, beqF, empty_toList, exs]; rfl)) ?_)
  refine W.regionK tab_ok 0 (by decide) ?_
  refine runk_split 0 (by simp only [exec, stepQ, wantA, yieldA, kind, qv, qv1, qv2, stO, adrId, dataC, replC, eqNil, binNil, shiftInt, A.down, A1.up, downs, toR, ev, putS, rowO, ofConst, cellsA, cellsC, asC, asCs, ld, ldR, bin, binInt, binStr, binBool, sliceOf, bndOf, repl, fillC, zeroC, chunks, ptrIds, tabs, upd_app, mem_nil_app, entry_zero, entry_succ, entry_nil, top_app, maxStr, ByteArray.size, A.kill, O.kill, killS_app, killM_app, Nat.reduceAdd, Nat.reduceLeDiff, Nat.reduceEqDiff, Nat.reduceMul, Int.reduceToNat, reduceIte, wf_i64, Int.reduceLE, Int.reduceNeg, beq_self_eq_true, decide_true, decide_false, ybeq_some, ybeq_none, beqT, beqF, empty_toList, exs]; rfl) ?_
  refine runk_call rfl rfl rfl rfl rfl (by simp) cvs_nil (three_ok _) ?_
  refine runk_split 0 (by simp only [exec, stepQ, wantA, yieldA, kind, qv, qv1, qv2, stO, adrId, dataC, replC, eqNil, binNil, shiftInt, A.down, A1.up, downs, toR, ev, putS, rowO, ofConst, cellsA, cellsC, asC, asCs, ld, ldR, bin, binInt, binStr, binBool, sliceOf, bndOf, repl, fillC, zeroC, chunks, ptrIds, tabs, upd_app, mem_nil_app, entry_zero, entry_succ, entry_nil, top_app, maxStr, ByteArray.size, A.kill, O.kill, killS_app, killM_app, Nat.reduceAdd, Nat.reduceLeDiff, Nat.reduceEqDiff, Nat.reduceMul, Int.reduceToNat, reduceIte, wf_i64, Int.reduceLE, Int.reduceNeg, beq_self_eq_true, decide_true, decide_false, ybeq_some, ybeq_none, beqT, beqF, empty_toList, exs, b1, Int.cast_ofNat_Int]; rfl) ?_
  refine runk_call rfl rfl rfl rfl rfl (by simp) (cvs_cons cv_refl (cvs_cons cv_refl cvs_nil)) (chainP_ok threeP 0 (b1 67) (by decide) three_check _) ?_
  rw [three_chain]
  refine runk_exec (by simp only [exec, stepQ, wantA, yieldA, kind, qv, qv1, qv2, stO, adrId, dataC, replC, eqNil, binNil, shiftInt, A.down, A1.up, downs, toR, ev, putS, rowO, ofConst, cellsA, cellsC, asC, asCs, ld, ldR, bin, binInt, binStr, binBool, sliceOf, bndOf, repl, fillC, zeroC, chunks, ptrIds, tabs, upd_app, mem_nil_app, entry_zero, entry_succ, entry_nil, top_app, maxStr, ByteArray.size, A.kill, O.kill, killS_app, killM_app, Nat.reduceAdd, Nat.reduceLeDiff, Nat.reduceEqDiff, Nat.reduceMul, Int.reduceToNat, reduceIte, wf_i64, Int.reduceLE, Int.reduceNeg, beq_self_eq_true, decide_true, decide_false, ybeq_some, ybeq_none, beqT, beqF, empty_toList, exs]; rfl) ?_
  repeat (first | refine W.seq ?_ | refine W.block ?_ | refine W.skip ?_ | refine W.exit ?_ | refine W.region tab_ok 0 (by decide) (exec_run (by simp only [exec, stepQ, wantA, yieldA, kind, qv, qv1, qv2, stO, adrId, dataC, replC, eqNil, binNil, shiftInt, A.down, A1.up, downs, toR, ev, putS, rowO, ofConst, cellsA, cellsC, asC, asCs, ld, ldR, bin, binInt, binStr, binBool, sliceOf, bndOf, repl, fillC, zeroC, chunks, ptrIds, tabs, upd_app, mem_nil_app, entry_zero, entry_succ, entry_nil, top_app, maxStr, ByteArray.size, A.kill, O.kill, killS_app, killM_app, Nat.reduceAdd, Nat.reduceLeDiff, Nat.reduceEqDiff, Nat.reduceMul, Int.reduceToNat, reduceIte, wf_i64, Int.reduceLE, Int.reduceNeg, beq_self_eq_true, decide_true, decide_false, ybeq_some, ybeq_none, beqT, beqF, empty_toList, exs]; rfl)) ?_)
  refine W.regionK tab_ok 0 (by decide) ?_
  refine runk_split 16 (by simp only [exec, stepQ, wantA, yieldA, kind, qv, qv1, qv2, stO, adrId, dataC, replC, eqNil, binNil, shiftInt, A.down, A1.up, downs, toR, ev, putS, rowO, ofConst, cellsA, cellsC, asC, asCs, ld, ldR, bin, binInt, binStr, binBool, sliceOf, bndOf, repl, fillC, zeroC, chunks, ptrIds, tabs, upd_app, mem_nil_app, entry_zero, entry_succ, entry_nil, top_app, maxStr, ByteArray.size, A.kill, O.kill, killS_app, killM_app, Nat.reduceAdd, Nat.reduceLeDiff, Nat.reduceEqDiff, Nat.reduceMul, Int.reduceToNat, reduceIte, wf_i64, Int.reduceLE, Int.reduceNeg, beq_self_eq_true, decide_true, decide_false, ybeq_some, ybeq_none, beqT, beqF, empty_toList, exs, b1, cStr, Int.cast_ofNat_Int]; rfl) ?_
  refine runk_call rfl rfl rfl rfl rfl (by simp) cvs_nil (three_ok _) ?_
  refine runk_split 0 (by simp only [exec, stepQ, wantA, yieldA, kind, qv, qv1, qv2, stO, adrId, dataC, replC, eqNil, binNil, shiftInt, A.down, A1.up, downs, toR, ev, putS, rowO, ofConst, cellsA, cellsC, asC, asCs, ld, ldR, bin, binInt, binStr, binBool, sliceOf, bndOf, repl, fillC, zeroC, chunks, ptrIds, tabs, upd_app, mem_nil_app, entry_zero, entry_succ, entry_nil, top_app, maxStr, ByteArray.size, A.kill, O.kill, killS_app, killM_app, Nat.reduceAdd, Nat.reduceLeDiff, Nat.reduceEqDiff, Nat.reduceMul, Int.reduceToNat, reduceIte, wf_i64, Int.reduceLE, Int.reduceNeg, beq_self_eq_true, decide_true, decide_false, ybeq_some, ybeq_none, beqT, beqF, empty_toList, exs, b1]; rfl) ?_
  refine runk_call rfl rfl rfl rfl rfl (by simp) (cvs_cons cv_refl (cvs_cons cv_refl (cvs_cons cv_refl cvs_nil))) (below_ok threeP 0 (b1 67) (b1 65) (by decide) three_check _) ?_
  rw [show belowR 0 threeP.classes (b1 67) (b1 65) = true from three_below]
  refine runk_split 2 (by simp only [exec, stepQ, wantA, yieldA, kind, qv, qv1, qv2, stO, adrId, dataC, replC, eqNil, binNil, shiftInt, A.down, A1.up, downs, toR, ev, putS, rowO, ofConst, cellsA, cellsC, asC, asCs, ld, ldR, bin, binInt, binStr, binBool, sliceOf, bndOf, repl, fillC, zeroC, chunks, ptrIds, tabs, upd_app, mem_nil_app, entry_zero, entry_succ, entry_nil, top_app, maxStr, ByteArray.size, A.kill, O.kill, killS_app, killM_app, Nat.reduceAdd, Nat.reduceLeDiff, Nat.reduceEqDiff, Nat.reduceMul, Int.reduceToNat, reduceIte, wf_i64, Int.reduceLE, Int.reduceNeg, beq_self_eq_true, decide_true, decide_false, ybeq_some, ybeq_none, beqT, beqF, empty_toList, exs]; rfl) ?_
  refine runk_call rfl rfl rfl rfl rfl (by simp) cvs_nil (three_ok _) ?_
  refine runk_split 0 (by simp only [exec, stepQ, wantA, yieldA, kind, qv, qv1, qv2, stO, adrId, dataC, replC, eqNil, binNil, shiftInt, A.down, A1.up, downs, toR, ev, putS, rowO, ofConst, cellsA, cellsC, asC, asCs, ld, ldR, bin, binInt, binStr, binBool, sliceOf, bndOf, repl, fillC, zeroC, chunks, ptrIds, tabs, upd_app, mem_nil_app, entry_zero, entry_succ, entry_nil, top_app, maxStr, ByteArray.size, A.kill, O.kill, killS_app, killM_app, Nat.reduceAdd, Nat.reduceLeDiff, Nat.reduceEqDiff, Nat.reduceMul, Int.reduceToNat, reduceIte, wf_i64, Int.reduceLE, Int.reduceNeg, beq_self_eq_true, decide_true, decide_false, ybeq_some, ybeq_none, beqT, beqF, empty_toList, exs]; rfl) ?_
  refine runk_call rfl rfl rfl rfl rfl (by simp) (cvs_cons cv_refl cvs_nil) (three_check _) ?_
  refine runk_exec (by simp only [exec, stepQ, wantA, yieldA, kind, qv, qv1, qv2, stO, adrId, dataC, replC, eqNil, binNil, shiftInt, A.down, A1.up, downs, toR, ev, putS, rowO, ofConst, cellsA, cellsC, asC, asCs, ld, ldR, bin, binInt, binStr, binBool, sliceOf, bndOf, repl, fillC, zeroC, chunks, ptrIds, tabs, upd_app, mem_nil_app, entry_zero, entry_succ, entry_nil, top_app, maxStr, ByteArray.size, A.kill, O.kill, killS_app, killM_app, Nat.reduceAdd, Nat.reduceLeDiff, Nat.reduceEqDiff, Nat.reduceMul, Int.reduceToNat, reduceIte, wf_i64, Int.reduceLE, Int.reduceNeg, beq_self_eq_true, decide_true, decide_false, ybeq_some, ybeq_none, beqT, beqF, empty_toList, exs]; rfl) ?_
  refine W.ret ⟨.inr rfl, by rfl, ?_⟩
  simp only [Try.f8, resA, resOne, toT, fin, exec, stepQ, wantA, yieldA, kind, qv, qv1, qv2, stO, adrId, dataC, replC, eqNil, binNil, shiftInt, A.down, A1.up, downs, toR, ev, putS, rowO, ofConst, cellsA, cellsC, asC, asCs, ld, ldR, bin, binInt, binStr, binBool, sliceOf, bndOf, repl, fillC, zeroC, chunks, ptrIds, tabs, upd_app, mem_nil_app, entry_zero, entry_succ, entry_nil, top_app, maxStr, ByteArray.size, A.kill, O.kill, killS_app, killM_app, Nat.reduceAdd, Nat.reduceLeDiff, Nat.reduceEqDiff, Nat.reduceMul, Int.reduceToNat, reduceIte, wf_i64, Int.reduceLE, Int.reduceNeg, beq_self_eq_true, decide_true, decide_false, ybeq_some, ybeq_none, beqT, beqF, empty_toList, exs]
end V
end Go.Proofs.Ytjciafpihdbedaa
end
section
set_option linter.unusedVariables false
set_option linter.unusedSimpArgs false
namespace Go.Proofs.Ytjciafpihdbedaa
namespace V
open Go.RowKit
set_option linter.unusedSimpArgs false
def errP (p : Program) : Int := treeErr (checkB p)
theorem chk_ok (p : Program) (hS : SmallC p.classes) (hlen : p.classes.length ≤ 1048576) (m : Mem) : COk Try.prog 9 [.agg (cProg p)] m (.c (.int .i64 (chkErr (errP p) p.classes))) :=
  check_ok p (errP p) hS (by omega) (fun m => tree_ok p m) m
end V
end Go.Proofs.Ytjciafpihdbedaa
end
section
set_option linter.unusedVariables false
set_option linter.unusedSimpArgs false
namespace Go.Proofs.Ytjciafpihdbedaa
namespace V
theorem belowR_iff {cs : List Class} {a b : ByteArray} : belowR 0 cs a b = true ↔ ∃ (i : Nat) (d : Class), (chainC cs (cs.length + 1) a)[i]? = some d ∧ d.name = b := by
  unfold belowR
  rw [chain_eq]
  unfold refChainF
  rw [if_pos rfl, chainF_chain, List.any_map, List.any_eq_true]
  constructor
  · rintro ⟨d, hd, h⟩
    obtain ⟨i, hi⟩ := List.getElem?_of_mem hd
    exact ⟨i, d, hi, (beq_bytes.1 h).symm⟩
  · rintro ⟨i, d, hi, rfl⟩
    exact ⟨d, List.mem_of_getElem? hi, beq_bytes.2 rfl⟩
theorem chain_len {cs : List Class} (h : Same0 cs) (a : ByteArray) : (chainC cs (cs.length + 1) a).length ≤ cs.length := by
  cases hf : cs.find? (nameIs a) with
  | none => simp [chainC, hf]
  | some c =>
    obtain ⟨rfl, hc⟩ := find_name hf
    exact h.len c hc
theorem chain_from {cs : List Class} (h : Same0 cs) {a : ByteArray} {i : Nat} {d : Class} (hd : (chainC cs (cs.length + 1) a)[i]? = some d) : chainC cs (cs.length + 1) d.name = (chainC cs (cs.length + 1) a).drop i := by
  have hdr := chainC_drop cs (cs.length + 1) i a d hd
  have hlen := chain_len h a
  have hi := (List.getElem?_eq_some_iff.1 hd).1
  have hl : (chainC cs (cs.length + 1 - i) d.name).length < cs.length + 1 - i := by
    rw [← hdr, List.length_drop]
    omega
  have := chainC_more cs (cs.length + 1 - i) i d.name hl
  rw [show cs.length + 1 - i + i = cs.length + 1 by omega] at this
  rw [this, hdr]
end V
end Go.Proofs.Ytjciafpihdbedaa
end
section
set_option linter.unusedVariables false
set_option linter.unusedSimpArgs false
namespace Go.Proofs.Ytjciafpihdbedaa
open Go.Shelf Go.RowKit Go.Lib
theorem slotInfo : ∃ i z, Try.prog.info? 45 = some i ∧ i.zero = some z ∧ i.size = 2 ∧ i.bytes = 32 ∧ z.cells.size = 2 := by
  obtain ⟨i, z, h1, h2, h3, -⟩ := V.tab_ok.zero 45 _ rfl
  obtain ⟨-, ⟨i', h4, h5⟩, -⟩ := V.tab_ok.ty 45 _ _ rfl
  obtain ⟨i2, h6, h7⟩ := V.tab_ok.bytes 45 _ rfl
  rw [h1] at h4 h6
  cases h4; cases h6
  exact ⟨i, z, h1, h2, h5, h7, by rw [h3]; rfl⟩
set_option maxHeartbeats 4000000 in
set_option maxRecDepth 100000 in
theorem grow_run (n : Nat) (h0 : 0 < n) (hn : n ≤ 1000000000000) (w : World) (i : TypeInfo) (z : Value) (hi : Try.prog.info? 45 = some i) (hz : i.zero = some z) (hs : i.size = 2) (hb : i.bytes = 32) :
    Calls Try.prog 63 #[.slice none 0 0, .int .i64 n] w fun e w' =>
      e = .returned (.slice (some ⟨w.heap.size, 0, none⟩) 0 (grownCap w n 0 45)) ∧
      w' = w.drew.alloc (.cells (#[] ++ Builtin.zeroCells z.cells n ++ Builtin.zeroCells z.cells (grownCap w n 0 45 - n)) 45) := by
  have h1 : ¬ ((n : Int) < 0) := by omega
  have h2 : wrap64 ((n : Int) - 0) = (n : Int) := by unfold wrap64; omega
  have h4 : (n : Int) > 0 := by omega
  have hold : (Builtin.firstCells i.size 0 (.slice none 0 0)).run Try.prog w.drew = .ok (([] : List Value).toArray) w.drew := run_firstCells_none w.drew i.size 0 0 0
  have hrz : ∀ ty, (Builtin.append_ #[34, 3] ty #[.slice none 0 0, .int .i64 (n : Int)]).run Try.prog w =
      .ok (.slice (some ⟨w.heap.size, 0, none⟩) n (grownCap w n 0 45)) (w.drew.alloc (.cells (#[] ++ Builtin.zeroCells z.cells n ++ Builtin.zeroCells z.cells (grownCap w n 0 45 - n)) 45)) := fun ty => by
    have h := Lib.run_append_grow_zeros w 34 3 ty 45 i z .i64 .i64 Try.underlying34 Try.underlying3 hi hz none 0 0 [] hold n (by omega) (by omega) (by omega) (by omega)
      (by rw [hb]; omega)
      (by rw [Nat.zero_add]; exact growslice_fits h0 (by rw [hb]; omega))
    rw [Nat.zero_add] at h
    exact h
  have hGn : n ≤ grownCap w n 0 45 := grownCap_ge w _ _ _
  obtain ⟨G, hG⟩ : ∃ G, G = grownCap w n 0 45 := ⟨_, rfl⟩
  rw [← hG] at hrz hGn ⊢
  clear hold hG
  go_enter Try.func63, Try.ntmps63
  go_wp2_with (at_builtin; refine Lib.wpList_append_run _ rfl _ _ _ _ rfl _ _ rfl rfl _ _ (hrz _) ?_)
  all_goals (go_ret; exact ⟨rfl, rfl⟩)
set_option maxHeartbeats 1000000 in
theorem grow_zero (w : World) :
    Calls Try.prog 63 #[.slice none 0 0, .int .i64 0] w fun e w' => e = .returned (.slice none 0 0) ∧ w' = w := by
  go_enter Try.func63, Try.ntmps63
  go_wp2
  all_goals (go_ret; exact ⟨rfl, rfl⟩)
namespace V
theorem grow_ok (n : Nat) (hn : n ≤ 1000000000000) (M : Mem) (id : Nat) (hid : M id = none) : CallE Try.prog 63 [.nil, .c (.int .i64 n)] M [] (.own id) (upd M id (some (.arr 45 2 []))) := by
  have hne : ∀ j, (M j).isSome = true → j ≠ id := fun j hj e => by subst e; rw [hid] at hj; cases hj
  have liv : ∀ j, (M j).isSome = true → (upd M id (some (.arr 45 2 [])) j).isSome = true := fun j hj => by rw [upd_ne _ _ (hne j hj)]; exact hj
  refine ⟨enters_of Try.func63 (by kernel_rfl) rfl, fun j hj => ?_, liv, fun hw i o ho j hj => ?_, ?_⟩
  · obtain rfl : j = id := by simpa [A.ids] using hj
    rw [upd_same]; rfl
  · unfold upd at ho
    split at ho
    · cases ho; simp [O.ids] at hj
    · exact liv j (hw i o ho j hj)
  · intro w0 I0 B I w vals hm hv
    match vals, hv with
    | [v0, v1], ⟨h0, h1, _⟩ =>
      obtain rfl : v0 = .slice none 0 0 := h0
      have h1 : RC w I v1 (.int .i64 n) := h1
      obtain rfl := h1.toInt.1
      rcases Nat.eq_zero_or_pos n with rfl | hpos
      · refine (grow_zero w).mono ?_
        rintro e w' ⟨rfl, rfl⟩
        exact ⟨_, _, I, rfl, hm.newNil hid true _ _, Ext.refl _ _, fun j hj _ => upd_ne _ _ (hne j hj), (upd_same ..).symm, none, 0, 0, rfl⟩
      · obtain ⟨i, z, hi, hz, hs, hb, hzs⟩ := slotInfo
        refine (grow_run n hpos hn w i z hi hz hs hb).mono ?_
        rintro e w' ⟨rfl, rfl⟩
        have hE : Ext w w.drew I I := ⟨fun _ _ k => k, fun _ _ _ => rfl⟩
        have hmd := hm.call (Below.refl _ _).drew
        have hge : n ≤ grownCap w n 0 45 := grownCap_ge w _ _ _
        have hle : grownCap w n 0 45 ≤ maxLen := grownCap_le_maxLen w n 0 _ (by unfold maxLen; omega)
        generalize grownCap w n 0 45 = G at hge hle ⊢
        have hrow : (#[] ++ Builtin.zeroCells z.cells n ++ Builtin.zeroCells z.cells (G - n)).size = G * 2 := by
          simp only [Array.size_append, List.size_toArray, List.length_nil, size_zeroCells, hzs]
          omega
        have hnb : ∀ o, ¬ I w.heap.size o := fun o ho => absurd (hm.there _ _ ho) (Nat.lt_irrefl _)
        refine ⟨_, _, I, rfl, hmd.alloc hid (v := .slice (some ⟨w.heap.size, 0, none⟩) 0 G) ⟨[], ⟨rfl, .inr ⟨w.heap.size, G, _, by rw [upd_same]; rfl, Nat.zero_le _, heap_alloc_new w.drew _, Nat.zero_le _, hle, hrow, by simp⟩⟩, trivial, fun x hx => by simp at hx, fun b hb o => ?_⟩ (fun k hk => ?_) (fun j hj => by simp [O.ids] at hj),
          ?_, fun j hj _ => upd_ne _ _ (hne j hj), (upd_same ..).symm, _, 0, G, rfl⟩
        · rw [upd_same] at hb
          obtain rfl : w.heap.size = b := by simpa [Value.ownBlock] using hb
          exact ⟨fun h => absurd h (hnb o), fun h => by simp at h⟩
        · have hk : (upd B id (.slice (some ⟨w.heap.size, 0, none⟩) 0 G) id).ownBlock = some k := hk
          rw [upd_same] at hk
          have : w.heap.size = k := by simpa [Value.ownBlock] using hk
          exact this.symm
        · exact ⟨fun _ _ k => k, fun b o ho => World.cell?_of_block (by
            have := hm.there b o ho
            show ((w.drew.heap.push _)[b]?) = w.heap[b]?
            rw [Array.getElem?_push_lt (by exact this)]
            exact (Array.getElem?_eq_getElem this).symm)⟩
end V
end Go.Proofs.Ytjciafpihdbedaa
end
section
namespace Go.Proofs
open Go.Shelf
def Try.laysClone36_ren : Go.Shelf.Ren := ⟨fun | 41 => 36 | n => n, fun | 22 => 34 | 23 => 45 | 4 => 4 | n => n, fun | n => n⟩
theorem Try.laysClone36 : Go.Proofs.SlLaysE0.n41 Try.prog Try.laysClone36_ren := {
  mixed := by kernel_rfl
  f41 := ⟨Try.f36.name, by decide, Try.func36.trans (congrArg some (by kernel_rfl))⟩
  t4 := Try.underlying4
  a4 := Try.isAgg4
  z4 := Try.sizeOf4
  v4 := Try.zeroValue4
  t22 := Try.underlying34
  a22 := Try.isAgg34
  z22 := Try.sizeOf34
  v22 := Try.zeroValue34 }
def Try.laysClone60_ren : Go.Shelf.Ren := ⟨fun | 41 => 60 | n => n, fun | 22 => 23 | 23 => 48 | 4 => 4 | n => n, fun | n => n⟩
theorem Try.laysClone60 : Go.Proofs.SlLaysE0.n41 Try.prog Try.laysClone60_ren := {
  mixed := by kernel_rfl
  f41 := ⟨Try.f60.name, by decide, Try.func60.trans (congrArg some (by kernel_rfl))⟩
  t4 := Try.underlying4
  a4 := Try.isAgg4
  z4 := Try.sizeOf4
  v4 := Try.zeroValue4
  t22 := Try.underlying23
  a22 := Try.isAgg23
  z22 := Try.sizeOf23
  v22 := Try.zeroValue23 }
def Try.laysClone81_ren : Go.Shelf.Ren := ⟨fun | 41 => 81 | n => n, fun | 22 => 46 | 23 => 50 | 4 => 4 | n => n, fun | n => n⟩
theorem Try.laysClone81 : Go.Proofs.SlLaysE0.n41 Try.prog Try.laysClone81_ren := {
  mixed := by kernel_rfl
  f41 := ⟨Try.f81.name, by decide, Try.func81.trans (congrArg some (by kernel_rfl))⟩
  t4 := Try.underlying4
  a4 := Try.isAgg4
  z4 := Try.sizeOf4
  v4 := Try.zeroValue4
  t22 := Try.underlying46
  a22 := Try.isAgg46
  z22 := Try.sizeOf46
  v22 := Try.zeroValue46 }
end Go.Proofs
end
section
set_option linter.unusedVariables false
set_option linter.unusedSimpArgs false
namespace Go.Proofs.Ytjciafpihdbedaa
open Go.Shelf Go.RowKit Go.Lib
section
variable {P : Go.Program} {ρ : Ren}
set_option maxHeartbeats 2000000 in
set_option maxRecDepth 100000 in
theorem clone_zero (L : SlLaysE0.n41 P ρ) (i0 : TypeInfo) (z : Value) (size bytes : Nat) (hi : P.info? (ρ.t 23) = some i0) (hz0 : i0.zero = some z) (hz1 : i0.size = size) (hz2 : i0.bytes = bytes) (hzs : z.cells.size = size) (hsz : 0 < size)
    (z23 : ∀ w, (Go.sizeOf (ρ.t 23)).run P w = .ok size w) (p : Addr) (c : Nat) (w : World) :
    Calls P (ρ.f 41) #[.slice (some p) 0 c] w fun e w' => ∃ v', e = .returned v' ∧ w'.ownsRow w.heap.size (ρ.t 23) size v' 0 [] ∧ Below w.heap.size w w' := by
  have mixed := L.mixed; have t4 := L.t4; have a4 := L.a4; have z4 := L.z4; have v4 := L.v4; have t22 := L.t22; have a22 := L.a22; have z22 := L.z22; have v22 := L.v22
  have q22 : ∀ (w : World) (a : Option Addr) (n c n' c' : Nat), (binOp .eql (ρ.t 22) (.slice a n c) (.slice none n' c')).run P w = .ok (.bool a.isNone) w := fun w a n c n' c' => Lib.run_eql_slice_nil w _ _ a n c n' c' L.t22
  have u22 : ∀ w, Sem.run P (underlying (ρ.t 22)) w = .ok (TypeDesc.slice (ρ.t 23)) w := run_underlying t22
  obtain ⟨_, _, FG⟩ := L.f41
  go_enter FG, SlBodyN.n41_ntmps ρ
  go_wp2_with (at_builtin; refine wpList_append_own _ rfl _ _ (ρ.t 22) rfl w.heap.size (ρ.t 23) i0 z size bytes t22 hi hz0 hz1 hz2 hzs hsz _ _ _ rfl (World.ownsRow_made w #[] 0 (Nat.le_refl _) (Nat.zero_le _) (by simp)) p 0 c [] rfl ?qc1 ?qc2 ?qc3 ?qc4 ?qc5 ?qc6 ?_)
  case qc1 => simp
  case qc2 =>
    intro j u hj
    simp at hj
  case qc3 => intro u hu; cases hu
  case qc4 => rw [Nat.zero_add]; exact Nat.zero_le _
  case qc5 => rw [Nat.zero_add, Nat.zero_mul]; exact Nat.zero_le _
  case qc6 => simp
  intro v' w1 hown hgrow hnil
  go_wp2
  go_ret
  exact ⟨v', rfl, by simpa using hown, ((Below.refl _ w).alloc (Nat.le_refl _) _).grown hgrow (by simp) (by intro k hk; simp [Value.ownBlock] at hk; omega)⟩
end
namespace V
section
variable {w0 w w' : World} {I0 I I' : Nat → Nat → Prop} {B : Nat → Value} {M : Mem}
theorem foot_congr {B B' : Nat → Value} {j : Nat} {o : O} {k : Nat} (h : B' j = B j) : foot B' j o k = foot B j o k := by
  cases o <;> simp only [foot, h]
theorem MR.fresh (h : MR w0 I0 B I M w) {id : Nat} (hid : M id = none) {v : Value} {o' : O} (hb : Below w.heap.size w w') (hf : ∀ k, foot (upd B id v) id o' k → w.heap.size ≤ k ∧ k < w'.heap.size) (hE : Ext w w' I I')
    (hI' : ∀ b p, I' b p → I b p ∨ foot (upd B id v) id o' b) (hob : RO (upd B id v) w' I' id o') (hl : o'.ids = []) : MR w0 I0 (upd B id v) I' (upd M id (some o')) w' := by
  have hne : ∀ j, (M j).isSome = true → j ≠ id := fun j hj e => by subst e; rw [hid] at hj; cases hj
  have hB : ∀ j, (M j).isSome = true → upd B id v j = B j := fun j hj => upd_ne _ _ (hne j hj)
  have liv : ∀ j, (M j).isSome = true → (upd M id (some o') j).isSome = true := fun j hj => by rw [upd_ne _ _ (hne j hj)]; exact hj
  have other : ∀ {j : Nat} {z : O}, upd M id (some o') j = some z → (j = id ∧ z = o') ∨ (j ≠ id ∧ M j = some z) := fun {j z} hz => by
    unfold upd at hz
    split at hz
    · rename_i e; exact .inl ⟨e, (Option.some.inj hz).symm⟩
    · rename_i e; exact .inr ⟨e, hz⟩
  have hs0 := h.below.size
  refine ⟨h.below.trans ⟨hb.os, hb.tape, hb.output, hb.size, fun b hlt => hb.block b (Nat.lt_of_lt_of_le hlt hs0)⟩, h.glob, fun b o h0 => hE.more _ _ (h.base b o h0), fun b o hi => ?_, fun b o hi => ?_, fun j z hz => ?_, fun j z hz k hk => ?_, fun j z j' z' hz hz' hjj k hk hk' => ?_, fun j z hz i hi => ?_⟩
  · rcases hI' b o hi with hi | hi
    · exact h.old b o hi
    · exact .inr (Nat.le_trans hs0 (hf b hi).1)
  · rcases hI' b o hi with hi | hi
    · exact Nat.lt_of_lt_of_le (h.there b o hi) hb.size
    · exact (hf b hi).2
  · rcases other hz with ⟨rfl, rfl⟩ | ⟨hj, hz⟩
    · exact hob
    · refine RO.mono hE (hB j (by simp [hz])) (fun i hi => hB i (h.live j z hz i hi)) (fun k hk => hb.block k (h.low j z hz k hk).2) (fun k hk p hp => ?_) (h.objs j z hz)
      rcases hI' k p hp with hp | hp
      · exact hp
      · exact absurd (hf k hp).1 (Nat.not_le.2 (h.low j z hz k hk).2)
  · rcases other hz with ⟨rfl, rfl⟩ | ⟨hj, hz⟩
    · exact ⟨Nat.le_trans hs0 (hf k hk).1, (hf k hk).2⟩
    · rw [foot_congr (hB j (by simp [hz]))] at hk
      exact ⟨(h.low j z hz k hk).1, Nat.lt_of_lt_of_le (h.low j z hz k hk).2 hb.size⟩
  · rcases other hz with ⟨e1, e2⟩ | ⟨hj, hy⟩
    · rcases other hz' with ⟨e3, e4⟩ | ⟨hj', hy'⟩
      · exact hjj (e1.trans e3.symm)
      · rw [foot_congr (hB j' (by simp [hy']))] at hk'
        rw [e1, e2] at hk
        exact absurd (hf k hk).1 (Nat.not_le.2 (h.low j' z' hy' k hk').2)
    · rw [foot_congr (hB j (by simp [hy]))] at hk
      rcases other hz' with ⟨e3, e4⟩ | ⟨hj', hy'⟩
      · rw [e3, e4] at hk'
        exact absurd (hf k hk').1 (Nat.not_le.2 (h.low j z hy k hk).2)
      · rw [foot_congr (hB j' (by simp [hy']))] at hk'
        exact h.apart j z j' z' hy hy' hjj k hk hk'
  · rcases other hz with ⟨rfl, rfl⟩ | ⟨hj, hz⟩
    · rw [hl] at hi; cases hi
    · exact liv i (h.live j z hz i hi)
end
section
variable {P : Go.Program} {ρ : Ren}
theorem clone_run (L : SlLaysE0.n41 P ρ) {size bytes : Nat} (hty : ∃ i z, P.info? (ρ.t 23) = some i ∧ i.zero = some z ∧ i.size = size ∧ i.bytes = bytes ∧ z.cells.size = size) (hsz : 0 < size) {w : World} {I : Nat → Nat → Prop} {v : Value} {rows : List (List C)}
    (h : RC w I v (.sl rows)) (hrow : ∀ x ∈ rows, x.length = size) (hbig : rows.length * bytes ≤ 140737488355328) :
    Calls P (ρ.f 41) #[v] w fun e w' => ∃ v' vs, e = .returned v' ∧ w'.ownsRow w.heap.size (ρ.t 23) size v' rows.length vs ∧ RCs w I vs (flat rows) ∧ Below w.heap.size w w' := by
  obtain ⟨i, z, hi, hz, hs, hb, hzs⟩ := hty
  have z23 : ∀ w, (Go.sizeOf (ρ.t 23)).run P w = .ok size w := fun w => by simp [Go.sizeOf, typeInfo, hi, hs]
  obtain ⟨ad, my, cap, news, rfl, h1, h2, h3, h4, h5⟩ := news_of hsz h hrow
  cases h with
  | @sl _ _ _ e' _ f hn hc hmx hln ha hrr =>
    subst hn
    cases ad with
    | none =>
      have hr : rows = [] := by
        cases rows with
        | nil => rfl
        | cons x l => obtain ⟨b, off, e, -⟩ := ha 0 x rfl; cases e
      subst hr
      refine (AnyE.slices_Clone_nil L _ cap w).mono ?_
      rintro e w' ⟨rfl, rfl⟩
      exact ⟨_, [], rfl, ⟨by simp, .inl ⟨rfl, rfl⟩⟩, trivial, Below.refl _ _⟩
    | some p =>
      cases rows with
      | nil =>
        refine (clone_zero L i z size bytes hi hz hs hb hzs hsz z23 p cap w).mono ?_
        rintro e w' ⟨v', rfl, ho, hbl⟩
        exact ⟨v', [], rfl, ho, trivial, hbl⟩
      | cons x l =>
        obtain ⟨b, off, e, -⟩ := ha 0 x rfl
        cases e
        refine (AnyE.slices_Clone L i z size bytes hi hz hs hb hzs hsz z23 b off (x :: l).length cap news w h2 (Nat.le_trans hc hmx) hbig (fun j u hj => ?_) h5).mono ?_
        · obtain ⟨a, e, hcell⟩ := h3 j u hj
          cases e
          rw [Addr.add_lit] at hcell
          exact hcell
        · rintro e w' ⟨v', rfl, ho, -, hbl⟩
          exact ⟨v', news, rfl, ho, h4, hbl⟩
theorem clone_mut (L : SlLaysE0.n41 P ρ) {size bytes : Nat} (hty : ∃ i z, P.info? (ρ.t 23) = some i ∧ i.zero = some z ∧ i.size = size ∧ i.bytes = bytes ∧ z.cells.size = size) (hsz : 0 < size) (hen : ∀ args w, (callFunc (ρ.f 41) args).run P w = .ok (.enter (ρ.f 41) args) w)
    (rows : List (List C)) (hrow : ∀ x ∈ rows, x.length = size) (hbig : rows.length * bytes ≤ 140737488355328) (M : Mem) (id : Nat) (hid : M id = none) : CallE P (ρ.f 41) [.c (.sl rows)] M [] (.own id) (upd M id (some (.mrow (ρ.t 23) size rows))) := by
  have hne : ∀ j, (M j).isSome = true → j ≠ id := fun j hj e => by subst e; rw [hid] at hj; cases hj
  have liv : ∀ j, (M j).isSome = true → (upd M id (some (.mrow (ρ.t 23) size rows)) j).isSome = true := fun j hj => by rw [upd_ne _ _ (hne j hj)]; exact hj
  refine ⟨hen, fun j hj => ?_, liv, fun hw i o ho j hj => ?_, ?_⟩
  · obtain rfl : j = id := by simpa [A.ids] using hj
    rw [upd_same]; rfl
  · unfold upd at ho
    split at ho
    · cases ho; simp [O.ids] at hj
    · exact liv j (hw i o ho j hj)
  · intro w0 I0 B I w vals hm hv
    match vals, hv with
    | [v], ⟨h1, _⟩ =>
      have h1 : RC w I v (.sl rows) := h1
      refine (clone_run L hty hsz h1 hrow hbig).mono ?_
      rintro e w' ⟨v', vs, rfl, ⟨hl, ho⟩, hvs, hbl⟩
      have hE : Ext w w' I I := ⟨fun _ _ k => k, fun b o k => hbl.cell (p := ⟨b, o, none⟩) (hm.there b o k)⟩
      have hf : ∀ k, v'.ownBlock = some k → w.heap.size ≤ k ∧ k < w'.heap.size := fun k hk => by
        rcases ho with ⟨rfl, -⟩ | ⟨g, cap, cur, rfl, hg, hcell, -⟩
        · cases hk
        · obtain rfl : g = k := by simpa [Value.ownBlock] using hk
          exact ⟨hg, (Array.getElem?_eq_some_iff.1 hcell).1⟩
      refine ⟨v', upd B id v', I, rfl, hm.fresh hid hbl (fun k hk => hf k (by have hk : (upd B id v' id).ownBlock = some k := hk; rwa [upd_same] at hk)) hE (fun b p k => .inl k) ⟨vs, ⟨hl, ?_⟩, hvs.mono hE, hrow, fun b hb o => ?_⟩ rfl, hE, fun j hj _ => upd_ne _ _ (hne j hj), (upd_same ..).symm, ?_⟩
      · rw [upd_same]
        rcases ho with ⟨e, hn⟩ | ⟨g, cap, cur, e, hg, hcell, q1, q2, q3, q4⟩
        · exact .inl ⟨e, hn⟩
        · exact .inr ⟨g, 0, cap, cur, e, hcell, q1, q2, by omega, by simpa using q4⟩
      · rw [upd_same] at hb
        exact fun k => absurd (hm.there _ _ k) (Nat.not_lt.2 (hf b hb).1)
      · rcases ho with ⟨e, hn⟩ | ⟨g, cap, cur, e, -⟩
        · exact ⟨none, 0, 0, e⟩
        · exact ⟨_, _, _, e⟩
theorem clone_ok (L : SlLaysE0.n41 P ρ) {size bytes : Nat} (hty : ∃ i z, P.info? (ρ.t 23) = some i ∧ i.zero = some z ∧ i.size = size ∧ i.bytes = bytes ∧ z.cells.size = size) (hsz : 0 < size) (hen : ∀ args w, (callFunc (ρ.f 41) args).run P w = .ok (.enter (ρ.f 41) args) w)
    (rows : List (List C)) (hrow : ∀ x ∈ rows, x.length = size) (hbig : rows.length * bytes ≤ 140737488355328) (m : Mem) : COk P (ρ.f 41) [.c (.sl rows)] m (.c (.sl rows)) := by
  refine ⟨hen, rfl, fun m' _ => ?_⟩
  intro w0 I0 B I w vals hm hv
  match vals, hv with
  | [v], ⟨h1, _⟩ =>
    have h1 : RC w I v (.sl rows) := h1
    refine (clone_run L hty hsz h1 hrow hbig).mono ?_
    rintro e w' ⟨v', vs, rfl, ⟨hl, ho⟩, hvs, hbl⟩
    let I' : Nat → Nat → Prop := fun b o => I b o ∨ (v'.ownBlock = some b ∧ o < rows.length * size)
    have hE : Ext w w' I I' := ⟨fun _ _ k => .inl k, fun b o k => hbl.cell (p := ⟨b, o, none⟩) (hm.there b o k)⟩
    refine ⟨v', I', rfl, hbl, hE.more, fun b o k => ?_, ?_⟩
    · rcases k with k | ⟨k, -⟩
      · exact .inl k
      · rcases ho with ⟨rfl, -⟩ | ⟨g, cap, cur, rfl, hg, hcell, -⟩
        · cases k
        · obtain rfl : g = b := by simpa [Value.ownBlock] using k
          exact .inr ⟨hg, (Array.getElem?_eq_some_iff.1 hcell).1⟩
    · show RC w' I' v' (.sl rows)
      have hvs' := hvs.mono hE
      rcases ho with ⟨rfl, hn⟩ | ⟨g, cap, cur, rfl, hg, hcell, q1, q2, q3, q4⟩
      · obtain rfl : rows = [] := List.length_eq_zero_iff.1 hn
        exact RC.sl (e := 0) (fun _ _ => undef) rfl (Nat.le_refl _) (Nat.zero_le _) (fun x hx => by cases hx) (fun i x hx => by simp at hx) (fun i j x c hx _ => by simp at hx)
      · have hat : ∀ i j x, rows[i]? = some x → j < size → i * size + j < rows.length * size := fun i j x hx hj => by
          have hi := (List.getElem?_eq_some_iff.1 hx).1
          have : (i + 1) * size ≤ rows.length * size := Nat.mul_le_mul_right _ hi
          rw [Nat.add_mul] at this
          omega
        refine RC.sl (e := size) (fun i j => vs.getD (i * size + j) undef) rfl q1 q2 hrow (fun i x hx => ⟨g, 0, rfl, fun j hj => ⟨.inr ⟨rfl, by have := hat i j x hx hj; omega⟩, ?_⟩⟩) (fun i j x c hx hc => ?_)
        · have hlt := hat i j x hx hj
          have hcur : cur[i * size + j]? = vs[i * size + j]? := by
            rw [← q4, List.getElem?_take, if_pos hlt, Array.getElem?_toList]
          show w'.cell? ⟨g, 0 + i * size + j, none⟩ = some (vs.getD (i * size + j) undef)
          rw [Nat.zero_add]
          have hv : vs[i * size + j]? = some (vs.getD (i * size + j) undef) := by
            rw [List.getD_eq_getElem?_getD, List.getElem?_eq_getElem (by omega)]; rfl
          rw [← hv, ← hcur]
          simp [World.cell?, hcell]
        · have hj : j < size := by rw [← hrow x (List.mem_of_getElem? hx)]; exact (List.getElem?_eq_some_iff.1 hc).1
          have hlt := hat i j x hx hj
          have hfl := flat_at hrow i j x hx hj
          rw [hc] at hfl
          obtain ⟨u, hu, hr⟩ := hvs'.at _ _ hfl
          rw [List.getD_eq_getElem?_getD, hu]
          exact hr
end
end V
end Go.Proofs.Ytjciafpihdbedaa
end
section
set_option linter.unusedVariables false
set_option linter.unusedSimpArgs false
namespace Go.Proofs.Ytjciafpihdbedaa
namespace V
open Go.RowKit
section
variable {w0 w : World} {I0 I : Nat → Nat → Prop} {B : Nat → Value} {m : Mem}
theorem MR.moreI (h : MR w0 I0 B I m w) {N : Nat → Nat → Prop} (hN : ∀ b o, N b o → w0.heap.size ≤ b ∧ b < w.heap.size ∧ ∀ j z, m j = some z → ¬ foot B j z b) : MR w0 I0 B (fun b o => I b o ∨ N b o) m w :=
  ⟨h.below, h.glob, fun b o k => .inl (h.base b o k), fun b o k => k.elim (h.old b o) fun k => .inr (hN b o k).1, fun b o k => k.elim (h.there b o) fun k => (hN b o k).2.1,
    fun j z hz => RO.mono ⟨fun _ _ k => .inl k, fun _ _ _ => rfl⟩ rfl (fun _ _ => rfl) (fun _ _ => rfl) (fun k hk p hp => hp.elim id fun hp => absurd hk ((hN k p hp).2.2 j z hz)) (h.objs j z hz), h.low, h.apart, h.live⟩
theorem MR.freeze (h : MR w0 I0 B I m w) {id : Nat} {ty : TypeId} {e : Nat} {xs : List (List C)} (hid : m id = some (.mrow ty e xs)) :
    ∃ I', MR w0 I0 (upd B id (.slice none 0 0)) I' (upd (killM id m) id (some (.arr ty e []))) w ∧ Ext w w I I' ∧ RC w I' (B id) (.sl xs) := by
  have hob := h.objs id _ hid
  obtain ⟨vs, hrow, hvs, hlx, hnI⟩ := hob
  have hnew : RO (upd B id (.slice none 0 0)) w I id (.arr ty e []) := ⟨[], ⟨by simp, .inl ⟨upd_same .., rfl⟩⟩, trivial, (fun x hx => by cases hx), (fun b hb o => by rw [upd_same] at hb; cases hb)⟩
  have h1 := h.reval (v' := .slice none 0 0) (o' := .arr ty e []) (w' := w) (I' := I) hid rfl rfl rfl (Nat.le_refl _) (fun _ _ _ => rfl) (fun k hk => by
      have hk : (upd B id (.slice none 0 0) id).ownBlock = some k := hk
      rw [upd_same] at hk; cases hk) (Ext.refl _ _) (fun b p k => .inl k)
    hnew (fun i hi => by simp [O.ids] at hi)
  have h2 := h1.moreI (N := fun b o => (B id).ownBlock = some b) (fun b o hb => by
    have hf : foot B id (.mrow ty e xs) b := hb
    refine ⟨(h.low id _ hid b hf).1, (h.low id _ hid b hf).2, fun j z hz hk => ?_⟩
    unfold upd at hz
    split at hz
    · rename_i ej
      cases hz
      subst ej
      have hk : (upd B j (.slice none 0 0) j).ownBlock = some b := hk
      rw [upd_same] at hk; cases hk
    · rename_i ej
      rw [killM_app] at hz
      cases hmj : m j with
      | none => rw [hmj] at hz; cases hz
      | some z0 =>
        rw [hmj] at hz
        cases hz
        exact h.apart j z0 id _ hmj hid ej b ((foot_kill (upd_ne _ _ ej)).1 hk) hf)
  refine ⟨_, h2, ⟨fun _ _ k => .inl k, fun _ _ _ => rfl⟩, ?_⟩
  have hvs' : RCs w (fun b o => I b o ∨ (B id).ownBlock = some b) vs (flat xs) := hvs.mono ⟨fun _ _ k => .inl k, fun _ _ _ => rfl⟩
  obtain ⟨hl, ho⟩ := hrow
  rcases ho with ⟨ev, hn⟩ | ⟨g, off, cap, cur, ev, hcell, q1, q2, q3, q4⟩
  · obtain rfl : xs = [] := List.length_eq_zero_iff.1 hn
    rw [ev]
    exact RC.sl (e := 0) (fun _ _ => undef) rfl (Nat.le_refl _) (Nat.zero_le _) (fun x hx => by cases hx) (fun i x hx => by simp at hx) (fun i j x c hx _ => by simp at hx)
  · have hat : ∀ i j x, xs[i]? = some x → j < e → i * e + j < xs.length * e := fun i j x hx hj => by
      have hi := (List.getElem?_eq_some_iff.1 hx).1
      have : (i + 1) * e ≤ xs.length * e := Nat.mul_le_mul_right _ hi
      rw [Nat.add_mul] at this
      omega
    rw [ev] at hvs' ⊢
    refine RC.sl (e := e) (fun i j => vs.getD (i * e + j) undef) rfl q1 q2 hlx (fun i x hx => ⟨g, off, rfl, fun j hj => ⟨.inr rfl, ?_⟩⟩) (fun i j x c hx hc => ?_)
    · have hlt := hat i j x hx hj
      have hcur : cur[off + (i * e + j)]? = vs[i * e + j]? := by
        rw [← q4, List.getElem?_take, if_pos hlt, List.getElem?_drop, Array.getElem?_toList]
      rw [Nat.add_assoc]
      have hv : vs[i * e + j]? = some (vs.getD (i * e + j) undef) := by
        rw [List.getD_eq_getElem?_getD, List.getElem?_eq_getElem (by omega)]; rfl
      rw [← hv, ← hcur]
      simp [World.cell?, hcell]
    · have hj : j < e := by rw [← hlx x (List.mem_of_getElem? hx)]; exact (List.getElem?_eq_some_iff.1 hc).1
      have hfl := flat_at hlx i j x hx hj
      rw [hc] at hfl
      obtain ⟨u, hu, hr⟩ := hvs'.at _ _ hfl
      rw [List.getD_eq_getElem?_getD, hu]
      exact hr
end
section
variable {P : Go.Program}
theorem W.freeze {R : Ref} {n : Nat} {ds : List Deferred} {st : St} {c : Code} {K : Exit → St → Prop} (t id : Nat) {ty : TypeId} {e : Nat} {xs : List (List C)} (ht : st.s t = .own id) (hid : st.m id = some (.mrow ty e xs)) (hkp : ¬ R.keep id)
    (h : W P R n ds ⟨upd (killS id st.s) t (.c (.sl xs)), upd (killM id st.m) id (some (.arr ty e []))⟩ c K) : W P R n ds st c K := by
  intro a w hr
  refine h a w ?_
  obtain ⟨⟨B, I, hm, hx0, hkp0, hs⟩, h2, h3, hnn, h4, h5⟩ := hr
  obtain ⟨I', hm', hE, hrc⟩ := hm.freeze hid
  have hBne : ∀ j, j ≠ id → upd B id (.slice none 0 0) j = B j := fun j hj => upd_ne _ _ hj
  have liv : ∀ i, (st.m i).isSome = true → (upd (killM id st.m) id (some (.arr ty e [])) i).isSome = true := fun i hi => by
    unfold upd; split
    · rfl
    · rw [killM_app]; simpa using hi
  have hown : RV B w I (.own id) (a.tmps.getD t undef) := ht ▸ hs t
  have hval : a.tmps.getD t undef = B id := hown.1
  refine ⟨⟨_, I', hm', hx0.trans hE, fun j hj => (hBne j (fun e => hkp (e ▸ hj))).trans (hkp0 j hj), fun u => ?_⟩, fun u j hj => ?_, h3, hnn, ?_, fun i hi => liv i (h5 i hi)⟩
  · show RV _ w I' (upd (killS id st.s) t (.c (.sl xs)) u) _
    by_cases hu : u = t
    · subst hu
      rw [upd_same, hval]
      exact hrc
    · rw [upd_ne _ _ hu, killS_app]
      rcases (A.kill_ids (id := id) (a := st.s u)).2 with k | ⟨k, hn⟩
      · rw [k]; trivial
      · rw [k]
        exact (hs u).mono hE fun i hi => hBne i (fun e => hn (e ▸ hi))
  · have hj : j ∈ (upd (killS id st.s) t (.c (.sl xs)) u).ids := hj
    by_cases hu : u = t
    · subst hu; rw [upd_same] at hj; simp [A.ids] at hj
    · rw [upd_ne _ _ hu, killS_app] at hj
      exact liv j (h2 u j ((A.kill_ids (id := id) (a := st.s u)).1 j hj).1)
  · show _ = dfs (upd (killS id st.s) t (.c (.sl xs)) DID) ++ ds
    by_cases e : DID = t
    · rw [← e, upd_same]
      rw [← e] at ht
      rw [ht] at h4
      exact h4
    · rw [upd_ne _ _ e, killS_app, dfs_kill]
      exact h4
end
end V
end Go.Proofs.Ytjciafpihdbedaa
end
section
set_option linter.unusedVariables false
set_option linter.unusedSimpArgs false
namespace Go.Proofs.Ytjciafpihdbedaa
namespace V
open Go.RowKit
def tabE : Tab := { tab with eff := fun f => f == 33 || f == 63 }
namespace E
theorem tab_ok : tabE.Ok Try.prog := ⟨V.tab_ok.ty, V.tab_ok.zero, V.tab_ok.elem, V.tab_ok.off, V.tab_ok.bool, V.tab_ok.fields, V.tab_ok.bytes, V.tab_ok.nilk, V.tab_ok.int, V.tab_ok.map⟩
theorem tabs : tabE.ty = tab.ty ∧ tabE.zero = tab.zero ∧ tabE.elem = tab.elem ∧ tabE.off = tab.off ∧ tabE.bool = tab.bool ∧ tabE.fields = tab.fields ∧ tabE.bytes = tab.bytes ∧ tabE.nilk = tab.nilk ∧ tabE.int = tab.int ∧ tabE.map = tab.map := ⟨rfl, rfl, rfl, rfl, rfl, rfl, rfl, rfl, rfl, rfl⟩
def cPart (l : List Slot) : List C := [.sl (l.map cSlot)]
theorem flat_take {α : Type} (ps : List (List α)) {k : Nat} {l : List α} (h : ps[k]? = some l) : (ps.take (k + 1)).flatten = (ps.take k).flatten ++ l := by
  rw [List.take_add_one, h]; simp
theorem flat_le {α : Type} (ps : List (List α)) (k : Nat) : (ps.take k).flatten.length ≤ ps.flatten.length := by
  have e : ps.flatten = (ps.take k).flatten ++ (ps.drop k).flatten := by rw [← List.flatten_append, List.take_append_drop]
  rw [e, List.length_append]
  exact Nat.le_add_right _ _
set_option maxHeartbeats 2000000 in
theorem concat_ok (ps : List (List Slot)) (hps : ps.length ≤ 1000000000000) (hn : ps.flatten.length ≤ 1000000000000) (m : Mem) : COk Try.prog 40 [.c (.sl (ps.map cPart))] m (.c (.sl (ps.flatten.map cSlot))) := by
  refine (ok_pure tab_ok Try.func40 (by kernel_rfl) rfl rfl (by rfl) (by rfl) (by rfl) (fun R hkeep => ?_) m)
  repeat (first | refine W.seq ?_ | refine W.block ?_ | refine W.skip ?_ | refine W.exit ?_ | refine W.region tab_ok 0 (by decide) (exec_run (by simp only [exec, stepQ, wantA, yieldA, kind, qv, qv1, qv2, stO, adrId, dataC, replC, eqNil, binNil, shiftInt, A.down, A1.up, downs, toR, ev, putS, rowO, ofConst, cellsA, cellsC, asC, asCs, ld, ldR, bin, binInt, binStr, binBool, sliceOf, bndOf, repl, fillC, zeroC, chunks, ptrIds, tabs, upd_app, mem_nil_app, entry_zero, entry_succ, entry_nil, top_app, maxStr, ByteArray.size, A.kill, O.kill, killS_app, killM_app, Nat.reduceAdd, Nat.reduceLeDiff, Nat.reduceEqDiff, Nat.reduceMul, Int.reduceToNat, reduceIte, wf_i64, Int.reduceLE, Int.reduceNeg, beq_self_eq_true, decide_true, decide_false, ybeq_some, ybeq_none, beqT, beqF, empty_toList, exs, V.tabs]; rfl)) ?_)
  refine W.loop (ι := Nat) (fun k => ⟨upd (upd (upd (upd (upd (fun _ => .top) 0 (.c (.sl (ps.map cPart)))) 3 (.c (.int .i64 (ps.take k).flatten.length))) 9 (.c (.sl (ps.map cPart)))) 10 (.c (.int .i64 ps.length))) 11 (.c (.int .i64 k)), Mem.nil⟩)
    (fun k => k ≤ ps.length) (fun k => ps.length - k) 0 ?start (Nat.zero_le _) ?round
  case start =>
    refine le_mk ?sle ?mle ?swf ?mwf ?kept (by rfl)
    case kept => exact kept_not hkeep
    case swf => repeat (first | exact swf_top _ | refine swf_upd ?_ (by simp [A.ids, upd_app]))
    case mwf => repeat (first | exact mwf_nil _ | refine mwf_upd ?_ (by simp [A.ids, O.ids, upd_app]))
    case mle => repeat (first | exact mle_nil _ | exact mle_refl _ | refine mle_upd ?_ (by first | rfl | (simp only [upd_app, killM_app, Nat.reduceEqDiff, reduceIte]; done)))
    case sle => repeat (first | exact sle_top _ | exact sle_refl _ | refine sle_upd ?_ (by first | rfl | (simp only [upd_app, entry_zero, entry_succ, Nat.reduceEqDiff, reduceIte]; done)))
  case round =>
    intro k hk
    repeat (first | refine W.seq ?_ | refine W.block ?_ | refine W.skip ?_ | refine W.exit ?_ | refine W.region tab_ok 0 (by decide) (exec_run (by simp only [exec, stepQ, wantA, yieldA, kind, qv, qv1, qv2, stO, adrId, dataC, replC, eqNil, binNil, shiftInt, A.down, A1.up, downs, toR, ev, putS, rowO, ofConst, cellsA, cellsC, asC, asCs, ld, ldR, bin, binInt, binStr, binBool, sliceOf, bndOf, repl, fillC, zeroC, chunks, ptrIds, tabs, upd_app, mem_nil_app, entry_zero, entry_succ, entry_nil, top_app, maxStr, ByteArray.size, A.kill, O.kill, killS_app, killM_app, Nat.reduceAdd, Nat.reduceLeDiff, Nat.reduceEqDiff, Nat.reduceMul, Int.reduceToNat, reduceIte, wf_i64, Int.reduceLE, Int.reduceNeg, beq_self_eq_true, decide_true, decide_false, ybeq_some, ybeq_none, beqT, beqF, empty_toList, exs, V.tabs]; rfl)) ?_)
    refine W.cond rfl ?_ ?_
    · intro hlt
      simp only [decide_eq_true_eq, Int.ofNat_lt] at hlt
      obtain ⟨l, hl⟩ : ∃ l, ps[k]? = some l := ⟨_, List.getElem?_eq_getElem hlt⟩
      have hle := flat_le ps (k + 1)
      rw [flat_take ps hl, List.length_append] at hle
      have hw : IntKind.i64.wrap (((ps.take k).flatten.length : Int) + (l.length : Int)) = ((ps.take (k + 1)).flatten.length : Int) := by
        rw [flat_take ps hl, List.length_append, ← Int.natCast_add, wrap_nat (by omega)]
      have hneg : ¬ (((ps.take (k + 1)).flatten.length : Int) < 0) := by omega
      repeat (first | refine W.seq ?_ | refine W.block ?_ | refine W.skip ?_ | refine W.exit ?_ | refine W.region tab_ok 0 (by decide) (exec_run (by simp only [exec, stepQ, wantA, yieldA, kind, qv, qv1, qv2, stO, adrId, dataC, replC, eqNil, binNil, shiftInt, A.down, A1.up, downs, toR, ev, putS, rowO, ofConst, cellsA, cellsC, asC, asCs, ld, ldR, bin, binInt, binStr, binBool, sliceOf, bndOf, repl, fillC, zeroC, chunks, ptrIds, tabs, upd_app, mem_nil_app, entry_zero, entry_succ, entry_nil, top_app, maxStr, ByteArray.size, A.kill, O.kill, killS_app, killM_app, Nat.reduceAdd, Nat.reduceLeDiff, Nat.reduceEqDiff, Nat.reduceMul, Int.reduceToNat, reduceIte, wf_i64, Int.reduceLE, Int.reduceNeg, beq_self_eq_true, decide_true, decide_false, ybeq_some, ybeq_none, beqT, beqF, empty_toList, exs, V.tabs, at_map hl, cPart, hw]; rfl)) ?_)
      refine W.cond rfl (fun h => absurd (by simpa using h) hneg) (fun _ => ?_)
      repeat (first | refine W.seq ?_ | refine W.block ?_ | refine W.skip ?_ | refine W.exit ?_ | refine W.region tab_ok 0 (by decide) (exec_run (by simp only [exec, stepQ, wantA, yieldA, kind, qv, qv1, qv2, stO, adrId, dataC, replC, eqNil, binNil, shiftInt, A.down, A1.up, downs, toR, ev, putS, rowO, ofConst, cellsA, cellsC, asC, asCs, ld, ldR, bin, binInt, binStr, binBool, sliceOf, bndOf, repl, fillC, zeroC, chunks, ptrIds, tabs, upd_app, mem_nil_app, entry_zero, entry_succ, entry_nil, top_app, maxStr, ByteArray.size, A.kill, O.kill, killS_app, killM_app, Nat.reduceAdd, Nat.reduceLeDiff, Nat.reduceEqDiff, Nat.reduceMul, Int.reduceToNat, reduceIte, wf_i64, Int.reduceLE, Int.reduceNeg, beq_self_eq_true, decide_true, decide_false, ybeq_some, ybeq_none, beqT, beqF, empty_toList, exs, V.tabs]; rfl)) ?_)
      refine ⟨k + 1, hlt, by omega, ?_⟩
      refine le_mk ?sle ?mle ?swf ?mwf ?kept (by rfl)
      case kept => exact kept_not hkeep
      case swf => repeat (first | exact swf_top _ | refine swf_upd ?_ (by simp [A.ids, upd_app]))
      case mwf => repeat (first | exact mwf_nil _ | refine mwf_upd ?_ (by simp [A.ids, O.ids, upd_app]))
      case mle => repeat (first | exact mle_nil _ | exact mle_refl _ | refine mle_upd ?_ (by first | rfl | (simp only [upd_app, killM_app, Nat.reduceEqDiff, reduceIte, wrap_succ (show k + 1 < 9223372036854775808 by omega)]; done)))
      case sle => repeat (first | exact sle_top _ | exact sle_refl _ | refine sle_upd ?_ (by first | rfl | (simp only [upd_app, entry_zero, entry_succ, Nat.reduceEqDiff, reduceIte, wrap_succ (show k + 1 < 9223372036854775808 by omega)]; done)))
    · intro hge
      simp only [decide_eq_false_iff_not, Int.ofNat_lt] at hge
      obtain rfl : k = ps.length := by omega
      rw [List.take_length]
      repeat (first | refine W.seq ?_ | refine W.block ?_ | refine W.skip ?_ | refine W.exit ?_ | refine W.region tab_ok 0 (by decide) (exec_run (by simp only [exec, stepQ, wantA, yieldA, kind, qv, qv1, qv2, stO, adrId, dataC, replC, eqNil, binNil, shiftInt, A.down, A1.up, downs, toR, ev, putS, rowO, ofConst, cellsA, cellsC, asC, asCs, ld, ldR, bin, binInt, binStr, binBool, sliceOf, bndOf, repl, fillC, zeroC, chunks, ptrIds, tabs, upd_app, mem_nil_app, entry_zero, entry_succ, entry_nil, top_app, maxStr, ByteArray.size, A.kill, O.kill, killS_app, killM_app, Nat.reduceAdd, Nat.reduceLeDiff, Nat.reduceEqDiff, Nat.reduceMul, Int.reduceToNat, reduceIte, wf_i64, Int.reduceLE, Int.reduceNeg, beq_self_eq_true, decide_true, decide_false, ybeq_some, ybeq_none, beqT, beqF, empty_toList, exs, V.tabs]; rfl)) ?_)
      refine W.regionK tab_ok 0 (by decide) ?_
      refine runk_split 1 (by simp only [exec, stepQ, wantA, yieldA, kind, qv, qv1, qv2, stO, adrId, dataC, replC, eqNil, binNil, shiftInt, A.down, A1.up, downs, toR, ev, putS, rowO, ofConst, cellsA, cellsC, asC, asCs, ld, ldR, bin, binInt, binStr, binBool, sliceOf, bndOf, repl, fillC, zeroC, chunks, ptrIds, tabs, upd_app, mem_nil_app, entry_zero, entry_succ, entry_nil, top_app, maxStr, ByteArray.size, A.kill, O.kill, killS_app, killM_app, Nat.reduceAdd, Nat.reduceLeDiff, Nat.reduceEqDiff, Nat.reduceMul, Int.reduceToNat, reduceIte, wf_i64, Int.reduceLE, Int.reduceNeg, beq_self_eq_true, decide_true, decide_false, ybeq_some, ybeq_none, beqT, beqF, empty_toList, exs, V.tabs]; rfl) ?_
      refine runk_call0 rfl rfl rfl rfl rfl rfl (by simp) (cvs_cons cv_refl (cvs_cons cv_refl cvs_nil)) (grow_ok _ hn _ 24 rfl) ?_
      refine runk_exec (by simp only [exec, stepQ, wantA, yieldA, kind, qv, qv1, qv2, stO, adrId, dataC, replC, eqNil, binNil, shiftInt, A.down, A1.up, downs, toR, ev, putS, rowO, ofConst, cellsA, cellsC, asC, asCs, ld, ldR, bin, binInt, binStr, binBool, sliceOf, bndOf, repl, fillC, zeroC, chunks, ptrIds, tabs, upd_app, mem_nil_app, entry_zero, entry_succ, entry_nil, top_app, maxStr, ByteArray.size, A.kill, O.kill, killS_app, killM_app, Nat.reduceAdd, Nat.reduceLeDiff, Nat.reduceEqDiff, Nat.reduceMul, Int.reduceToNat, reduceIte, wf_i64, Int.reduceLE, Int.reduceNeg, beq_self_eq_true, decide_true, decide_false, ybeq_some, ybeq_none, beqT, beqF, empty_toList, exs, V.tabs]; rfl) ?_
      repeat (first | refine W.seq ?_ | refine W.block ?_ | refine W.skip ?_ | refine W.exit ?_ | refine W.region tab_ok 0 (by decide) (exec_run (by simp only [exec, stepQ, wantA, yieldA, kind, qv, qv1, qv2, stO, adrId, dataC, replC, eqNil, binNil, shiftInt, A.down, A1.up, downs, toR, ev, putS, rowO, ofConst, cellsA, cellsC, asC, asCs, ld, ldR, bin, binInt, binStr, binBool, sliceOf, bndOf, repl, fillC, zeroC, chunks, ptrIds, tabs, upd_app, mem_nil_app, entry_zero, entry_succ, entry_nil, top_app, maxStr, ByteArray.size, A.kill, O.kill, killS_app, killM_app, Nat.reduceAdd, Nat.reduceLeDiff, Nat.reduceEqDiff, Nat.reduceMul, Int.reduceToNat, reduceIte, wf_i64, Int.reduceLE, Int.reduceNeg, beq_self_eq_true, decide_true, decide_false, ybeq_some, ybeq_none, beqT, beqF, empty_toList, exs, V.tabs]; rfl)) ?_)
      refine W.loop (ι := Nat) (fun k => ⟨upd (upd (upd (upd (fun _ => .top) 6 (.own 24)) 25 (.c (.sl (ps.map cPart)))) 26 (.c (.int .i64 ps.length))) 27 (.c (.int .i64 k)), upd Mem.nil 24 (some (.arr 45 2 ((ps.take k).flatten.map cSlot)))⟩)
        (fun k => k ≤ ps.length) (fun k => ps.length - k) 0 ?start2 (Nat.zero_le _) ?round2
      case start2 =>
        refine le_mk ?sle ?mle ?swf ?mwf ?kept (by rfl)
        case kept => exact kept_not hkeep
        case swf => repeat (first | exact swf_top _ | refine swf_upd ?_ (by simp [A.ids, upd_app]))
        case mwf => repeat (first | exact mwf_nil _ | refine mwf_upd ?_ (by simp [A.ids, O.ids, upd_app]))
        case mle => repeat (first | exact mle_nil _ | exact mle_refl _ | refine mle_upd ?_ (by first | rfl | (simp only [upd_app, killM_app, Nat.reduceEqDiff, reduceIte]; done)))
        case sle => repeat (first | exact sle_top _ | exact sle_refl _ | refine sle_upd ?_ (by first | rfl | (simp only [upd_app, entry_zero, entry_succ, Nat.reduceEqDiff, reduceIte]; done)))
      case round2 =>
        intro k hk
        repeat (first | refine W.seq ?_ | refine W.block ?_ | refine W.skip ?_ | refine W.exit ?_ | refine W.region tab_ok 0 (by decide) (exec_run (by simp only [exec, stepQ, wantA, yieldA, kind, qv, qv1, qv2, stO, adrId, dataC, replC, eqNil, binNil, shiftInt, A.down, A1.up, downs, toR, ev, putS, rowO, ofConst, cellsA, cellsC, asC, asCs, ld, ldR, bin, binInt, binStr, binBool, sliceOf, bndOf, repl, fillC, zeroC, chunks, ptrIds, tabs, upd_app, mem_nil_app, entry_zero, entry_succ, entry_nil, top_app, maxStr, ByteArray.size, A.kill, O.kill, killS_app, killM_app, Nat.reduceAdd, Nat.reduceLeDiff, Nat.reduceEqDiff, Nat.reduceMul, Int.reduceToNat, reduceIte, wf_i64, Int.reduceLE, Int.reduceNeg, beq_self_eq_true, decide_true, decide_false, ybeq_some, ybeq_none, beqT, beqF, empty_toList, exs, V.tabs]; rfl)) ?_)
        refine W.cond rfl ?_ ?_
        · intro hlt
          simp only [decide_eq_true_eq, Int.ofNat_lt] at hlt
          obtain ⟨l, hl⟩ : ∃ l, ps[k]? = some l := ⟨_, List.getElem?_eq_getElem hlt⟩
          have hle := flat_le ps (k + 1)
          have hft := flat_take ps hl
          rw [hft, List.length_append] at hle
          repeat (first | refine W.seq ?_ | refine W.block ?_ | refine W.skip ?_ | refine W.exit ?_ | refine W.region tab_ok 0 (by decide) (exec_run (by simp only [exec, stepQ, wantA, yieldA, kind, qv, qv1, qv2, stO, adrId, dataC, replC, eqNil, binNil, shiftInt, A.down, A1.up, downs, toR, ev, putS, rowO, ofConst, cellsA, cellsC, asC, asCs, ld, ldR, bin, binInt, binStr, binBool, sliceOf, bndOf, repl, fillC, zeroC, chunks, ptrIds, tabs, upd_app, mem_nil_app, entry_zero, entry_succ, entry_nil, top_app, maxStr, ByteArray.size, A.kill, O.kill, killS_app, killM_app, Nat.reduceAdd, Nat.reduceLeDiff, Nat.reduceEqDiff, Nat.reduceMul, Int.reduceToNat, reduceIte, wf_i64, Int.reduceLE, Int.reduceNeg, beq_self_eq_true, decide_true, decide_false, ybeq_some, ybeq_none, beqT, beqF, empty_toList, exs, V.tabs, at_map hl, cPart]; rfl)) ?_)
          refine W.regionK tab_ok 0 (by decide) ?_
          refine runk_split 2 (by simp only [exec, stepQ, wantA, yieldA, kind, qv, qv1, qv2, stO, adrId, dataC, replC, eqNil, binNil, shiftInt, A.down, A1.up, downs, toR, ev, putS, rowO, ofConst, cellsA, cellsC, asC, asCs, ld, ldR, bin, binInt, binStr, binBool, sliceOf, bndOf, repl, fillC, zeroC, chunks, ptrIds, tabs, upd_app, mem_nil_app, entry_zero, entry_succ, entry_nil, top_app, maxStr, ByteArray.size, A.kill, O.kill, killS_app, killM_app, Nat.reduceAdd, Nat.reduceLeDiff, Nat.reduceEqDiff, Nat.reduceMul, Int.reduceToNat, reduceIte, wf_i64, Int.reduceLE, Int.reduceNeg, beq_self_eq_true, decide_true, decide_false, ybeq_some, ybeq_none, beqT, beqF, empty_toList, exs, V.tabs]; rfl) ?_
          refine runk_append tab_ok 24 rfl rfl rfl rfl rfl rfl rfl rfl (by first | rfl | (simp only [exec, stepQ, wantA, yieldA, kind, qv, qv1, qv2, stO, adrId, dataC, replC, eqNil, binNil, shiftInt, A.down, A1.up, downs, toR, ev, putS, rowO, ofConst, cellsA, cellsC, asC, asCs, ld, ldR, bin, binInt, binStr, binBool, sliceOf, bndOf, repl, fillC, zeroC, chunks, ptrIds, tabs, upd_app, mem_nil_app, entry_zero, entry_succ, entry_nil, top_app, maxStr, ByteArray.size, A.kill, O.kill, killS_app, killM_app, Nat.reduceAdd, Nat.reduceLeDiff, Nat.reduceEqDiff, Nat.reduceMul, Int.reduceToNat, reduceIte, wf_i64, Int.reduceLE, Int.reduceNeg, beq_self_eq_true, decide_true, decide_false, ybeq_some, ybeq_none, beqT, beqF, empty_toList, exs, V.tabs]; rfl)) rfl rfl rfl rfl (nokeep hkeep) (by intro z hz; obtain ⟨s, -, rfl⟩ := List.mem_map.1 hz; rfl) (by simp only [List.length_map]; omega) (by decide) ?_
          refine runk_exec (by simp only [exec, stepQ, wantA, yieldA, kind, qv, qv1, qv2, stO, adrId, dataC, replC, eqNil, binNil, shiftInt, A.down, A1.up, downs, toR, ev, putS, rowO, ofConst, cellsA, cellsC, asC, asCs, ld, ldR, bin, binInt, binStr, binBool, sliceOf, bndOf, repl, fillC, zeroC, chunks, ptrIds, tabs, upd_app, mem_nil_app, entry_zero, entry_succ, entry_nil, top_app, maxStr, ByteArray.size, A.kill, O.kill, killS_app, killM_app, Nat.reduceAdd, Nat.reduceLeDiff, Nat.reduceEqDiff, Nat.reduceMul, Int.reduceToNat, reduceIte, wf_i64, Int.reduceLE, Int.reduceNeg, beq_self_eq_true, decide_true, decide_false, ybeq_some, ybeq_none, beqT, beqF, empty_toList, exs, V.tabs]; rfl) ?_
          repeat (first | refine W.seq ?_ | refine W.block ?_ | refine W.skip ?_ | refine W.exit ?_ | refine W.region tab_ok 0 (by decide) (exec_run (by simp only [exec, stepQ, wantA, yieldA, kind, qv, qv1, qv2, stO, adrId, dataC, replC, eqNil, binNil, shiftInt, A.down, A1.up, downs, toR, ev, putS, rowO, ofConst, cellsA, cellsC, asC, asCs, ld, ldR, bin, binInt, binStr, binBool, sliceOf, bndOf, repl, fillC, zeroC, chunks, ptrIds, tabs, upd_app, mem_nil_app, entry_zero, entry_succ, entry_nil, top_app, maxStr, ByteArray.size, A.kill, O.kill, killS_app, killM_app, Nat.reduceAdd, Nat.reduceLeDiff, Nat.reduceEqDiff, Nat.reduceMul, Int.reduceToNat, reduceIte, wf_i64, Int.reduceLE, Int.reduceNeg, beq_self_eq_true, decide_true, decide_false, ybeq_some, ybeq_none, beqT, beqF, empty_toList, exs, V.tabs]; rfl)) ?_)
          refine ⟨k + 1, hlt, by omega, ?_⟩
          rw [hft, List.map_append]
          refine le_mk ?sle ?mle ?swf ?mwf ?kept (by rfl)
          case kept => exact kept_not hkeep
          case swf => repeat (first | exact swf_top _ | refine swf_upd ?_ (by simp [A.ids, upd_app]))
          case mwf => repeat (first | exact mwf_nil _ | refine mwf_upd ?_ (by simp [A.ids, O.ids, upd_app]))
          case mle => repeat (first | exact mle_nil _ | exact mle_refl _ | refine mle_upd ?_ (by first | rfl | (simp only [upd_app, killM_app, Nat.reduceEqDiff, reduceIte, wrap_succ (show k + 1 < 9223372036854775808 by omega)]; done)))
          case sle => repeat (first | exact sle_top _ | exact sle_refl _ | refine sle_upd ?_ (by first | rfl | (simp only [upd_app, entry_zero, entry_succ, Nat.reduceEqDiff, reduceIte, wrap_succ (show k + 1 < 9223372036854775808 by omega)]; done)))
        · intro hge
          simp only [decide_eq_false_iff_not, Int.ofNat_lt] at hge
          obtain rfl : k = ps.length := by omega
          rw [List.take_length]
          repeat (first | refine W.seq ?_ | refine W.block ?_ | refine W.skip ?_ | refine W.exit ?_ | refine W.region tab_ok 0 (by decide) (exec_run (by simp only [exec, stepQ, wantA, yieldA, kind, qv, qv1, qv2, stO, adrId, dataC, replC, eqNil, binNil, shiftInt, A.down, A1.up, downs, toR, ev, putS, rowO, ofConst, cellsA, cellsC, asC, asCs, ld, ldR, bin, binInt, binStr, binBool, sliceOf, bndOf, repl, fillC, zeroC, chunks, ptrIds, tabs, upd_app, mem_nil_app, entry_zero, entry_succ, entry_nil, top_app, maxStr, ByteArray.size, A.kill, O.kill, killS_app, killM_app, Nat.reduceAdd, Nat.reduceLeDiff, Nat.reduceEqDiff, Nat.reduceMul, Int.reduceToNat, reduceIte, wf_i64, Int.reduceLE, Int.reduceNeg, beq_self_eq_true, decide_true, decide_false, ybeq_some, ybeq_none, beqT, beqF, empty_toList, exs, V.tabs]; rfl)) ?_)
          refine W.ret ⟨.inr rfl, by rfl, ?_⟩
          simp only [Try.f40, resA, resOne, toT, fin, exec, stepQ, wantA, yieldA, kind, qv, qv1, qv2, stO, adrId, dataC, replC, eqNil, binNil, shiftInt, A.down, A1.up, downs, toR, ev, putS, rowO, ofConst, cellsA, cellsC, asC, asCs, ld, ldR, bin, binInt, binStr, binBool, sliceOf, bndOf, repl, fillC, zeroC, chunks, ptrIds, tabs, upd_app, mem_nil_app, entry_zero, entry_succ, entry_nil, top_app, maxStr, ByteArray.size, A.kill, O.kill, killS_app, killM_app, Nat.reduceAdd, Nat.reduceLeDiff, Nat.reduceEqDiff, Nat.reduceMul, Int.reduceToNat, reduceIte, wf_i64, Int.reduceLE, Int.reduceNeg, beq_self_eq_true, decide_true, decide_false, ybeq_some, ybeq_none, beqT, beqF, empty_toList, exs, V.tabs]
end E
end V
end Go.Proofs.Ytjciafpihdbedaa
end
section
set_option linter.unusedVariables false
set_option linter.unusedSimpArgs false
namespace Go.Proofs.Ytjciafpihdbedaa
namespace V
open Go.RowKit
mutual
def SmallE (N : Nat) : Expr → Prop
  | ⟨_, _, _, kids⟩ => kids.length ≤ N ∧ SmallEs N kids
def SmallEs (N : Nat) : List Expr → Prop
  | [] => True
  | x :: l => SmallE N x ∧ SmallEs N l
end
mutual
def SmallS (N : Nat) : Stmt → Prop
  | ⟨_, _, _, _, es, th, el⟩ => es.length ≤ N ∧ SmallEs N es ∧ th.length ≤ N ∧ SmallSs N th ∧ el.length ≤ N ∧ SmallSs N el
def SmallSs (N : Nat) : List Stmt → Prop
  | [] => True
  | x :: l => SmallS N x ∧ SmallSs N l
end
theorem SmallSs.mem {N : Nat} : ∀ {l : List Stmt} {x : Stmt}, SmallSs N l → x ∈ l → SmallS N x
  | y :: l, x, h, hx => by
    simp only [SmallSs] at h
    rcases List.mem_cons.1 hx with rfl | hx
    · exact h.1
    · exact SmallSs.mem h.2 hx
theorem SmallEs.mem {N : Nat} : ∀ {l : List Expr} {x : Expr}, SmallEs N l → x ∈ l → SmallE N x
  | y :: l, x, h, hx => by
    simp only [SmallEs] at h
    rcases List.mem_cons.1 hx with rfl | hx
    · exact h.1
    · exact SmallEs.mem h.2 hx
theorem set_self {α : Type} {l : List α} {k : Nat} {x : α} (h : l[k]? = some x) : l.set k x = l := by
  obtain ⟨h1, h2⟩ := List.getElem?_eq_some_iff.1 h
  rw [← h2]
  exact List.set_getElem_self h1
theorem exprInfo : ∃ i z, Try.prog.info? 50 = some i ∧ i.zero = some z ∧ i.size = 4 ∧ i.bytes = 56 ∧ z.cells.size = 4 := by
  obtain ⟨i, z, h1, h2, h3, -⟩ := V.tab_ok.zero 50 _ rfl
  obtain ⟨-, ⟨i', h4, h5⟩, -⟩ := V.tab_ok.ty 50 _ _ rfl
  obtain ⟨i2, h6, h7⟩ := V.tab_ok.bytes 50 _ rfl
  rw [h1] at h4 h6
  cases h4; cases h6
  exact ⟨i, z, h1, h2, h5, h7, by rw [h3]; rfl⟩
theorem stmtInfo : ∃ i z, Try.prog.info? 48 = some i ∧ i.zero = some z ∧ i.size = 7 ∧ i.bytes = 120 ∧ z.cells.size = 7 := by
  obtain ⟨i, z, h1, h2, h3, -⟩ := V.tab_ok.zero 48 _ rfl
  obtain ⟨-, ⟨i', h4, h5⟩, -⟩ := V.tab_ok.ty 48 _ _ rfl
  obtain ⟨i2, h6, h7⟩ := V.tab_ok.bytes 48 _ rfl
  rw [h1] at h4 h6
  cases h4; cases h6
  exact ⟨i, z, h1, h2, h5, h7, by rw [h3]; rfl⟩
def tabF : Tab := { tab with eff := fun f => f == 81 || f == 60 }
namespace F
theorem tab_ok : tabF.Ok Try.prog := ⟨V.tab_ok.ty, V.tab_ok.zero, V.tab_ok.elem, V.tab_ok.off, V.tab_ok.bool, V.tab_ok.fields, V.tab_ok.bytes, V.tab_ok.nilk, V.tab_ok.int, V.tab_ok.map⟩
theorem tabs : tabF.ty = tab.ty ∧ tabF.zero = tab.zero ∧ tabF.elem = tab.elem ∧ tabF.off = tab.off ∧ tabF.bool = tab.bool ∧ tabF.fields = tab.fields ∧ tabF.bytes = tab.bytes ∧ tabF.nilk = tab.nilk ∧ tabF.int = tab.int ∧ tabF.map = tab.map := ⟨rfl, rfl, rfl, rfl, rfl, rfl, rfl, rfl, rfl, rfl⟩
theorem cloneE (l : List Expr) (hl : l.length ≤ 1048576) (M : Mem) (id : Nat) (hid : M id = none) : CallE Try.prog 81 [.c (.sl (l.map cExpr))] M [] (.own id) (upd M id (some (.mrow 50 4 (l.map cExpr)))) :=
  clone_mut Try.laysClone81 exprInfo (by decide) (enters_of Try.func81 (by kernel_rfl) rfl) (l.map cExpr) (fun x hx => by obtain ⟨y, -, rfl⟩ := List.mem_map.1 hx; cases y; rfl) (by rw [List.length_map]; omega) M id hid
set_option maxHeartbeats 2000000 in
theorem exprs_ok : ∀ (d : Nat) (l : List Expr), dExprs l ≤ d → l.length ≤ 1048576 → SmallEs 1048576 l → ∀ m, COk Try.prog 61 [.c (.sl (l.map cExpr))] m (.c (.sl (l.map cExpr))) := by
  intro d
  induction d using Nat.strongRecOn with
  | ind d ih =>
  intro l hd hlen hS m
  refine (ok_pure tab_ok Try.func61 (by kernel_rfl) rfl rfl (by rfl) (by rfl) (by rfl) (fun R hkeep => ?_) m)
  repeat (first | refine W.seq ?_ | refine W.block ?_ | refine W.skip ?_ | refine W.exit ?_ | refine W.region tab_ok 0 (by decide) (exec_run (by simp only [exec, stepQ, wantA, yieldA, kind, qv, qv1, qv2, stO, adrId, dataC, replC, eqNil, binNil, shiftInt, A.down, A1.up, downs, toR, ev, putS, rowO, ofConst, cellsA, cellsC, asC, asCs, ld, ldR, bin, binInt, binStr, binBool, sliceOf, bndOf, repl, fillC, zeroC, chunks, ptrIds, tabs, upd_app, mem_nil_app, entry_zero, entry_succ, entry_nil, top_app, maxStr, ByteArray.size, A.kill, O.kill, killS_app, killM_app, Nat.reduceAdd, Nat.reduceLeDiff, Nat.reduceEqDiff, Nat.reduceMul, Int.reduceToNat, reduceIte, wf_i64, Int.reduceLE, Int.reduceNeg, beq_self_eq_true, decide_true, decide_false, ybeq_some, ybeq_none, beqT, beqF, empty_toList, exs, V.tabs]; rfl)) ?_)
  refine W.regionK tab_ok 0 (by decide) ?_
  refine runk_split 1 (by simp only [exec, stepQ, wantA, yieldA, kind, qv, qv1, qv2, stO, adrId, dataC, replC, eqNil, binNil, shiftInt, A.down, A1.up, downs, toR, ev, putS, rowO, ofConst, cellsA, cellsC, asC, asCs, ld, ldR, bin, binInt, binStr, binBool, sliceOf, bndOf, repl, fillC, zeroC, chunks, ptrIds, tabs, upd_app, mem_nil_app, entry_zero, entry_succ, entry_nil, top_app, maxStr, ByteArray.size, A.kill, O.kill, killS_app, killM_app, Nat.reduceAdd, Nat.reduceLeDiff, Nat.reduceEqDiff, Nat.reduceMul, Int.reduceToNat, reduceIte, wf_i64, Int.reduceLE, Int.reduceNeg, beq_self_eq_true, decide_true, decide_false, ybeq_some, ybeq_none, beqT, beqF, empty_toList, exs, V.tabs]; rfl) ?_
  refine runk_call0 rfl rfl rfl rfl rfl rfl (by simp) (cvs_cons cv_refl cvs_nil) (cloneE l hlen _ 6 rfl) ?_
  refine runk_exec (by simp only [exec, stepQ, wantA, yieldA, kind, qv, qv1, qv2, stO, adrId, dataC, replC, eqNil, binNil, shiftInt, A.down, A1.up, downs, toR, ev, putS, rowO, ofConst, cellsA, cellsC, asC, asCs, ld, ldR, bin, binInt, binStr, binBool, sliceOf, bndOf, repl, fillC, zeroC, chunks, ptrIds, tabs, upd_app, mem_nil_app, entry_zero, entry_succ, entry_nil, top_app, maxStr, ByteArray.size, A.kill, O.kill, killS_app, killM_app, Nat.reduceAdd, Nat.reduceLeDiff, Nat.reduceEqDiff, Nat.reduceMul, Int.reduceToNat, reduceIte, wf_i64, Int.reduceLE, Int.reduceNeg, beq_self_eq_true, decide_true, decide_false, ybeq_some, ybeq_none, beqT, beqF, empty_toList, exs, V.tabs]; rfl) ?_
  repeat (first | refine W.seq ?_ | refine W.block ?_ | refine W.skip ?_ | refine W.exit ?_ | refine W.region tab_ok 0 (by decide) (exec_run (by simp only [exec, stepQ, wantA, yieldA, kind, qv, qv1, qv2, stO, adrId, dataC, replC, eqNil, binNil, shiftInt, A.down, A1.up, downs, toR, ev, putS, rowO, ofConst, cellsA, cellsC, asC, asCs, ld, ldR, bin, binInt, binStr, binBool, sliceOf, bndOf, repl, fillC, zeroC, chunks, ptrIds, tabs, upd_app, mem_nil_app, entry_zero, entry_succ, entry_nil, top_app, maxStr, ByteArray.size, A.kill, O.kill, killS_app, killM_app, Nat.reduceAdd, Nat.reduceLeDiff, Nat.reduceEqDiff, Nat.reduceMul, Int.reduceToNat, reduceIte, wf_i64, Int.reduceLE, Int.reduceNeg, beq_self_eq_true, decide_true, decide_false, ybeq_some, ybeq_none, beqT, beqF, empty_toList, exs, V.tabs]; rfl)) ?_)
  refine W.loop (ι := Nat) (fun k => ⟨upd (upd (upd (upd (fun _ => .top) 0 (.own 6)) 7 (.own 6)) 8 (.c (.int .i64 l.length))) 9 (.c (.int .i64 k)), upd Mem.nil 6 (some (.mrow 50 4 (l.map cExpr)))⟩)
    (fun k => k ≤ l.length) (fun k => l.length - k) 0 ?start (Nat.zero_le _) ?round
  case start =>
    refine le_mk ?sle ?mle ?swf ?mwf ?kept (by rfl)
    case kept => exact kept_not hkeep
    case swf => repeat (first | exact swf_top _ | refine swf_upd ?_ (by simp [A.ids, upd_app]))
    case mwf => repeat (first | exact mwf_nil _ | refine mwf_upd ?_ (by simp [A.ids, O.ids, upd_app]))
    case mle => repeat (first | exact mle_nil _ | exact mle_refl _ | refine mle_upd ?_ (by first | rfl | (simp only [upd_app, killM_app, Nat.reduceEqDiff, reduceIte]; done)))
    case sle => repeat (first | exact sle_top _ | exact sle_refl _ | refine sle_upd ?_ (by first | rfl | (simp only [upd_app, entry_zero, entry_succ, Nat.reduceEqDiff, reduceIte]; done)))
  case round =>
    intro k hk
    repeat (first | refine W.seq ?_ | refine W.block ?_ | refine W.skip ?_ | refine W.exit ?_ | refine W.region tab_ok 0 (by decide) (exec_run (by simp only [exec, stepQ, wantA, yieldA, kind, qv, qv1, qv2, stO, adrId, dataC, replC, eqNil, binNil, shiftInt, A.down, A1.up, downs, toR, ev, putS, rowO, ofConst, cellsA, cellsC, asC, asCs, ld, ldR, bin, binInt, binStr, binBool, sliceOf, bndOf, repl, fillC, zeroC, chunks, ptrIds, tabs, upd_app, mem_nil_app, entry_zero, entry_succ, entry_nil, top_app, maxStr, ByteArray.size, A.kill, O.kill, killS_app, killM_app, Nat.reduceAdd, Nat.reduceLeDiff, Nat.reduceEqDiff, Nat.reduceMul, Int.reduceToNat, reduceIte, wf_i64, Int.reduceLE, Int.reduceNeg, beq_self_eq_true, decide_true, decide_false, ybeq_some, ybeq_none, beqT, beqF, empty_toList, exs, V.tabs]; rfl)) ?_)
    refine W.cond rfl ?_ ?_
    · intro hlt
      simp only [decide_eq_true_eq, Int.ofNat_lt] at hlt
      obtain ⟨x, hx⟩ : ∃ x, l[k]? = some x := ⟨_, List.getElem?_eq_getElem hlt⟩
      have hxm := List.mem_of_getElem? hx
      obtain ⟨kd, nn, nm, kids⟩ := x
      have hsx := hS.mem hxm
      simp only [SmallE] at hsx
      have hdx : dExpr ⟨kd, nn, nm, kids⟩ ≤ dExprs l := dExprs_mem hxm
      simp only [dExpr] at hdx
      repeat (first | refine W.seq ?_ | refine W.block ?_ | refine W.skip ?_ | refine W.exit ?_ | refine W.region tab_ok 0 (by decide) (exec_run (by simp only [exec, stepQ, wantA, yieldA, kind, qv, qv1, qv2, stO, adrId, dataC, replC, eqNil, binNil, shiftInt, A.down, A1.up, downs, toR, ev, putS, rowO, ofConst, cellsA, cellsC, asC, asCs, ld, ldR, bin, binInt, binStr, binBool, sliceOf, bndOf, repl, fillC, zeroC, chunks, ptrIds, tabs, upd_app, mem_nil_app, entry_zero, entry_succ, entry_nil, top_app, maxStr, ByteArray.size, A.kill, O.kill, killS_app, killM_app, Nat.reduceAdd, Nat.reduceLeDiff, Nat.reduceEqDiff, Nat.reduceMul, Int.reduceToNat, reduceIte, wf_i64, Int.reduceLE, Int.reduceNeg, beq_self_eq_true, decide_true, decide_false, ybeq_some, ybeq_none, beqT, beqF, empty_toList, exs, V.tabs, hlt, at_map hx, cExpr, cExprs_map]; rfl)) ?_)
      refine W.regionK tab_ok 0 (by decide) ?_
      refine runk_split 4 (by simp only [exec, stepQ, wantA, yieldA, kind, qv, qv1, qv2, stO, adrId, dataC, replC, eqNil, binNil, shiftInt, A.down, A1.up, downs, toR, ev, putS, rowO, ofConst, cellsA, cellsC, asC, asCs, ld, ldR, bin, binInt, binStr, binBool, sliceOf, bndOf, repl, fillC, zeroC, chunks, ptrIds, tabs, upd_app, mem_nil_app, entry_zero, entry_succ, entry_nil, top_app, maxStr, ByteArray.size, A.kill, O.kill, killS_app, killM_app, Nat.reduceAdd, Nat.reduceLeDiff, Nat.reduceEqDiff, Nat.reduceMul, Int.reduceToNat, reduceIte, wf_i64, Int.reduceLE, Int.reduceNeg, beq_self_eq_true, decide_true, decide_false, ybeq_some, ybeq_none, beqT, beqF, empty_toList, exs, V.tabs, hlt, at_map hx, cExpr, cExprs_map]; rfl) ?_
      refine runk_call rfl rfl rfl rfl rfl (by simp) (cvs_cons cv_refl cvs_nil) (ih (dExprs kids) (by omega) kids (Nat.le_refl _) hsx.1 hsx.2 _) ?_
      refine runk_exec (by simp only [exec, stepQ, wantA, yieldA, kind, qv, qv1, qv2, stO, adrId, dataC, replC, eqNil, binNil, shiftInt, A.down, A1.up, downs, toR, ev, putS, rowO, ofConst, cellsA, cellsC, asC, asCs, ld, ldR, bin, binInt, binStr, binBool, sliceOf, bndOf, repl, fillC, zeroC, chunks, ptrIds, tabs, upd_app, mem_nil_app, entry_zero, entry_succ, entry_nil, top_app, maxStr, ByteArray.size, A.kill, O.kill, killS_app, killM_app, Nat.reduceAdd, Nat.reduceLeDiff, Nat.reduceEqDiff, Nat.reduceMul, Int.reduceToNat, reduceIte, wf_i64, Int.reduceLE, Int.reduceNeg, beq_self_eq_true, decide_true, decide_false, ybeq_some, ybeq_none, beqT, beqF, empty_toList, exs, V.tabs, hlt, at_map hx, cExpr, cExprs_map]; rfl) ?_
      repeat (first | refine W.seq ?_ | refine W.block ?_ | refine W.skip ?_ | refine W.exit ?_ | refine W.region tab_ok 0 (by decide) (exec_run (by simp only [exec, stepQ, wantA, yieldA, kind, qv, qv1, qv2, stO, adrId, dataC, replC, eqNil, binNil, shiftInt, A.down, A1.up, downs, toR, ev, putS, rowO, ofConst, cellsA, cellsC, asC, asCs, ld, ldR, bin, binInt, binStr, binBool, sliceOf, bndOf, repl, fillC, zeroC, chunks, ptrIds, tabs, upd_app, mem_nil_app, entry_zero, entry_succ, entry_nil, top_app, maxStr, ByteArray.size, A.kill, O.kill, killS_app, killM_app, Nat.reduceAdd, Nat.reduceLeDiff, Nat.reduceEqDiff, Nat.reduceMul, Int.reduceToNat, reduceIte, wf_i64, Int.reduceLE, Int.reduceNeg, beq_self_eq_true, decide_true, decide_false, ybeq_some, ybeq_none, beqT, beqF, empty_toList, exs, V.tabs]; rfl)) ?_)
      refine ⟨k + 1, hlt, by omega, ?_⟩
      have hset : (l.map cExpr).set k [.int .i64 kd, .int .i64 nn, .str nm, .sl (kids.map cExpr)] = l.map cExpr := set_self (by rw [at_map hx]; simp only [cExpr, cExprs_map])
      refine le_mk ?sle ?mle ?swf ?mwf ?kept (by rfl)
      case kept => exact kept_not hkeep
      case swf => repeat (first | exact swf_top _ | refine swf_upd ?_ (by simp [A.ids, upd_app]))
      case mwf => repeat (first | exact mwf_nil _ | refine mwf_upd ?_ (by simp [A.ids, O.ids, upd_app]))
      case mle => repeat (first | exact mle_nil _ | exact mle_refl _ | refine mle_upd ?_ (by first | rfl | (simp only [upd_app, killM_app, Nat.reduceEqDiff, reduceIte, hset, wrap_succ (show k + 1 < 9223372036854775808 by omega)]; done)))
      case sle => repeat (first | exact sle_top _ | exact sle_refl _ | refine sle_upd ?_ (by first | rfl | (simp only [upd_app, entry_zero, entry_succ, Nat.reduceEqDiff, reduceIte, hset, wrap_succ (show k + 1 < 9223372036854775808 by omega)]; done)))
    · intro hge
      simp only [decide_eq_false_iff_not, Int.ofNat_lt] at hge
      obtain rfl : k = l.length := by omega
      refine W.freeze 0 6 rfl rfl (nokeep hkeep) ?_
      repeat (first | refine W.seq ?_ | refine W.block ?_ | refine W.skip ?_ | refine W.exit ?_ | refine W.region tab_ok 0 (by decide) (exec_run (by simp only [exec, stepQ, wantA, yieldA, kind, qv, qv1, qv2, stO, adrId, dataC, replC, eqNil, binNil, shiftInt, A.down, A1.up, downs, toR, ev, putS, rowO, ofConst, cellsA, cellsC, asC, asCs, ld, ldR, bin, binInt, binStr, binBool, sliceOf, bndOf, repl, fillC, zeroC, chunks, ptrIds, tabs, upd_app, mem_nil_app, entry_zero, entry_succ, entry_nil, top_app, maxStr, ByteArray.size, A.kill, O.kill, killS_app, killM_app, Nat.reduceAdd, Nat.reduceLeDiff, Nat.reduceEqDiff, Nat.reduceMul, Int.reduceToNat, reduceIte, wf_i64, Int.reduceLE, Int.reduceNeg, beq_self_eq_true, decide_true, decide_false, ybeq_some, ybeq_none, beqT, beqF, empty_toList, exs, V.tabs]; rfl)) ?_)
      refine W.ret ⟨.inr rfl, by rfl, ?_⟩
      simp only [Try.f61, resA, resOne, toT, fin, exec, stepQ, wantA, yieldA, kind, qv, qv1, qv2, stO, adrId, dataC, replC, eqNil, binNil, shiftInt, A.down, A1.up, downs, toR, ev, putS, rowO, ofConst, cellsA, cellsC, asC, asCs, ld, ldR, bin, binInt, binStr, binBool, sliceOf, bndOf, repl, fillC, zeroC, chunks, ptrIds, tabs, upd_app, mem_nil_app, entry_zero, entry_succ, entry_nil, top_app, maxStr, ByteArray.size, A.kill, O.kill, killS_app, killM_app, Nat.reduceAdd, Nat.reduceLeDiff, Nat.reduceEqDiff, Nat.reduceMul, Int.reduceToNat, reduceIte, wf_i64, Int.reduceLE, Int.reduceNeg, beq_self_eq_true, decide_true, decide_false, ybeq_some, ybeq_none, beqT, beqF, empty_toList, exs, V.tabs]
theorem cloneS (l : List Stmt) (hl : l.length ≤ 1048576) (M : Mem) (id : Nat) (hid : M id = none) : CallE Try.prog 60 [.c (.sl (l.map cStmt))] M [] (.own id) (upd M id (some (.mrow 48 7 (l.map cStmt)))) :=
  clone_mut Try.laysClone60 stmtInfo (by decide) (enters_of Try.func60 (by kernel_rfl) rfl) (l.map cStmt) (fun x hx => by obtain ⟨y, -, rfl⟩ := List.mem_map.1 hx; cases y; rfl) (by rw [List.length_map]; omega) M id hid
set_option maxHeartbeats 4000000 in
theorem stmts_ok : ∀ (d : Nat) (l : List Stmt), dStmts l ≤ d → l.length ≤ 1048576 → SmallSs 1048576 l → ∀ m, COk Try.prog 37 [.c (.sl (l.map cStmt))] m (.c (.sl (l.map cStmt))) := by
  intro d
  induction d using Nat.strongRecOn with
  | ind d ih =>
  intro l hd hlen hS m
  refine (ok_pure tab_ok Try.func37 (by kernel_rfl) rfl rfl (by rfl) (by rfl) (by rfl) (fun R hkeep => ?_) m)
  repeat (first | refine W.seq ?_ | refine W.block ?_ | refine W.skip ?_ | refine W.exit ?_ | refine W.region tab_ok 0 (by decide) (exec_run (by simp only [exec, stepQ, wantA, yieldA, kind, qv, qv1, qv2, stO, adrId, dataC, replC, eqNil, binNil, shiftInt, A.down, A1.up, downs, toR, ev, putS, rowO, ofConst, cellsA, cellsC, asC, asCs, ld, ldR, bin, binInt, binStr, binBool, sliceOf, bndOf, repl, fillC, zeroC, chunks, ptrIds, tabs, upd_app, mem_nil_app, entry_zero, entry_succ, entry_nil, top_app, maxStr, ByteArray.size, A.kill, O.kill, killS_app, killM_app, Nat.reduceAdd, Nat.reduceLeDiff, Nat.reduceEqDiff, Nat.reduceMul, Int.reduceToNat, reduceIte, wf_i64, Int.reduceLE, Int.reduceNeg, beq_self_eq_true, decide_true, decide_false, ybeq_some, ybeq_none, beqT, beqF, empty_toList, exs, V.tabs]; rfl)) ?_)
  refine W.regionK tab_ok 0 (by decide) ?_
  refine runk_split 1 (by simp only [exec, stepQ, wantA, yieldA, kind, qv, qv1, qv2, stO, adrId, dataC, replC, eqNil, binNil, shiftInt, A.down, A1.up, downs, toR, ev, putS, rowO, ofConst, cellsA, cellsC, asC, asCs, ld, ldR, bin, binInt, binStr, binBool, sliceOf, bndOf, repl, fillC, zeroC, chunks, ptrIds, tabs, upd_app, mem_nil_app, entry_zero, entry_succ, entry_nil, top_app, maxStr, ByteArray.size, A.kill, O.kill, killS_app, killM_app, Nat.reduceAdd, Nat.reduceLeDiff, Nat.reduceEqDiff, Nat.reduceMul, Int.reduceToNat, reduceIte, wf_i64, Int.reduceLE, Int.reduceNeg, beq_self_eq_true, decide_true, decide_false, ybeq_some, ybeq_none, beqT, beqF, empty_toList, exs, V.tabs]; rfl) ?_
  refine runk_call0 rfl rfl rfl rfl rfl rfl (by simp) (cvs_cons cv_refl cvs_nil) (cloneS l hlen _ 6 rfl) ?_
  refine runk_exec (by simp only [exec, stepQ, wantA, yieldA, kind, qv, qv1, qv2, stO, adrId, dataC, replC, eqNil, binNil, shiftInt, A.down, A1.up, downs, toR, ev, putS, rowO, ofConst, cellsA, cellsC, asC, asCs, ld, ldR, bin, binInt, binStr, binBool, sliceOf, bndOf, repl, fillC, zeroC, chunks, ptrIds, tabs, upd_app, mem_nil_app, entry_zero, entry_succ, entry_nil, top_app, maxStr, ByteArray.size, A.kill, O.kill, killS_app, killM_app, Nat.reduceAdd, Nat.reduceLeDiff, Nat.reduceEqDiff, Nat.reduceMul, Int.reduceToNat, reduceIte, wf_i64, Int.reduceLE, Int.reduceNeg, beq_self_eq_true, decide_true, decide_false, ybeq_some, ybeq_none, beqT, beqF, empty_toList, exs, V.tabs]; rfl) ?_
  repeat (first | refine W.seq ?_ | refine W.block ?_ | refine W.skip ?_ | refine W.exit ?_ | refine W.region tab_ok 0 (by decide) (exec_run (by simp only [exec, stepQ, wantA, yieldA, kind, qv, qv1, qv2, stO, adrId, dataC, replC, eqNil, binNil, shiftInt, A.down, A1.up, downs, toR, ev, putS, rowO, ofConst, cellsA, cellsC, asC, asCs, ld, ldR, bin, binInt, binStr, binBool, sliceOf, bndOf, repl, fillC, zeroC, chunks, ptrIds, tabs, upd_app, mem_nil_app, entry_zero, entry_succ, entry_nil, top_app, maxStr, ByteArray.size, A.kill, O.kill, killS_app, killM_app, Nat.reduceAdd, Nat.reduceLeDiff, Nat.reduceEqDiff, Nat.reduceMul, Int.reduceToNat, reduceIte, wf_i64, Int.reduceLE, Int.reduceNeg, beq_self_eq_true, decide_true, decide_false, ybeq_some, ybeq_none, beqT, beqF, empty_toList, exs, V.tabs]; rfl)) ?_)
  refine W.loop (ι := Nat) (fun k => ⟨upd (upd (upd (upd (fun _ => .top) 0 (.own 6)) 7 (.own 6)) 8 (.c (.int .i64 l.length))) 9 (.c (.int .i64 k)), upd Mem.nil 6 (some (.mrow 48 7 (l.map cStmt)))⟩)
    (fun k => k ≤ l.length) (fun k => l.length - k) 0 ?start (Nat.zero_le _) ?round
  case start =>
    refine le_mk ?sle ?mle ?swf ?mwf ?kept (by rfl)
    case kept => exact kept_not hkeep
    case swf => repeat (first | exact swf_top _ | refine swf_upd ?_ (by simp [A.ids, upd_app]))
    case mwf => repeat (first | exact mwf_nil _ | refine mwf_upd ?_ (by simp [A.ids, O.ids, upd_app]))
    case mle => repeat (first | exact mle_nil _ | exact mle_refl _ | refine mle_upd ?_ (by first | rfl | (simp only [upd_app, killM_app, Nat.reduceEqDiff, reduceIte]; done)))
    case sle => repeat (first | exact sle_top _ | exact sle_refl _ | refine sle_upd ?_ (by first | rfl | (simp only [upd_app, entry_zero, entry_succ, Nat.reduceEqDiff, reduceIte]; done)))
  case round =>
    intro k hk
    repeat (first | refine W.seq ?_ | refine W.block ?_ | refine W.skip ?_ | refine W.exit ?_ | refine W.region tab_ok 0 (by decide) (exec_run (by simp only [exec, stepQ, wantA, yieldA, kind, qv, qv1, qv2, stO, adrId, dataC, replC, eqNil, binNil, shiftInt, A.down, A1.up, downs, toR, ev, putS, rowO, ofConst, cellsA, cellsC, asC, asCs, ld, ldR, bin, binInt, binStr, binBool, sliceOf, bndOf, repl, fillC, zeroC, chunks, ptrIds, tabs, upd_app, mem_nil_app, entry_zero, entry_succ, entry_nil, top_app, maxStr, ByteArray.size, A.kill, O.kill, killS_app, killM_app, Nat.reduceAdd, Nat.reduceLeDiff, Nat.reduceEqDiff, Nat.reduceMul, Int.reduceToNat, reduceIte, wf_i64, Int.reduceLE, Int.reduceNeg, beq_self_eq_true, decide_true, decide_false, ybeq_some, ybeq_none, beqT, beqF, empty_toList, exs, V.tabs]; rfl)) ?_)
    refine W.cond rfl ?_ ?_
    · intro hlt
      simp only [decide_eq_true_eq, Int.ofNat_lt] at hlt
      obtain ⟨x, hx⟩ : ∃ x, l[k]? = some x := ⟨_, List.getElem?_eq_getElem hlt⟩
      have hxm := List.mem_of_getElem? hx
      obtain ⟨kd, nn, ty, nm, es, th, el⟩ := x
      have hsx := hS.mem hxm
      simp only [SmallS] at hsx
      obtain ⟨s1, s2, s3, s4, s5, s6⟩ := hsx
      have hdx : dStmt ⟨kd, nn, ty, nm, es, th, el⟩ ≤ dStmts l := dStmts_mem hxm
      simp only [dStmt] at hdx
      repeat (first | refine W.seq ?_ | refine W.block ?_ | refine W.skip ?_ | refine W.exit ?_ | refine W.region tab_ok 0 (by decide) (exec_run (by simp only [exec, stepQ, wantA, yieldA, kind, qv, qv1, qv2, stO, adrId, dataC, replC, eqNil, binNil, shiftInt, A.down, A1.up, downs, toR, ev, putS, rowO, ofConst, cellsA, cellsC, asC, asCs, ld, ldR, bin, binInt, binStr, binBool, sliceOf, bndOf, repl, fillC, zeroC, chunks, ptrIds, tabs, upd_app, mem_nil_app, entry_zero, entry_succ, entry_nil, top_app, maxStr, ByteArray.size, A.kill, O.kill, killS_app, killM_app, Nat.reduceAdd, Nat.reduceLeDiff, Nat.reduceEqDiff, Nat.reduceMul, Int.reduceToNat, reduceIte, wf_i64, Int.reduceLE, Int.reduceNeg, beq_self_eq_true, decide_true, decide_false, ybeq_some, ybeq_none, beqT, beqF, empty_toList, exs, V.tabs, hlt, at_map hx, cStmt, cExprs_map, cStmts_map]; rfl)) ?_)
      refine W.regionDK tab_ok 0 follows_mixed (by kernel_rfl) (by decide) ?_
      refine runk_split 8 (by simp only [exec, stepQ, wantA, yieldA, kind, qv, qv1, qv2, stO, adrId, dataC, replC, eqNil, binNil, shiftInt, A.down, A1.up, downs, toR, ev, putS, rowO, ofConst, cellsA, cellsC, asC, asCs, ld, ldR, bin, binInt, binStr, binBool, sliceOf, bndOf, repl, fillC, zeroC, chunks, ptrIds, tabs, upd_app, mem_nil_app, entry_zero, entry_succ, entry_nil, top_app, maxStr, ByteArray.size, A.kill, O.kill, killS_app, killM_app, Nat.reduceAdd, Nat.reduceLeDiff, Nat.reduceEqDiff, Nat.reduceMul, Int.reduceToNat, reduceIte, wf_i64, Int.reduceLE, Int.reduceNeg, beq_self_eq_true, decide_true, decide_false, ybeq_some, ybeq_none, beqT, beqF, empty_toList, exs, V.tabs, hlt, at_map hx, cStmt, cExprs_map, cStmts_map]; rfl) ?_
      refine runk_call rfl rfl rfl rfl rfl (by simp) (cvs_cons cv_refl cvs_nil) (exprs_ok (dExprs es) es (Nat.le_refl _) s1 s2 _) ?_
      refine runk_split 2 (by simp only [exec, stepQ, wantA, yieldA, kind, qv, qv1, qv2, stO, adrId, dataC, replC, eqNil, binNil, shiftInt, A.down, A1.up, downs, toR, ev, putS, rowO, ofConst, cellsA, cellsC, asC, asCs, ld, ldR, bin, binInt, binStr, binBool, sliceOf, bndOf, repl, fillC, zeroC, chunks, ptrIds, tabs, upd_app, mem_nil_app, entry_zero, entry_succ, entry_nil, top_app, maxStr, ByteArray.size, A.kill, O.kill, killS_app, killM_app, Nat.reduceAdd, Nat.reduceLeDiff, Nat.reduceEqDiff, Nat.reduceMul, Int.reduceToNat, reduceIte, wf_i64, Int.reduceLE, Int.reduceNeg, beq_self_eq_true, decide_true, decide_false, ybeq_some, ybeq_none, beqT, beqF, empty_toList, exs, V.tabs, hlt, at_map hx, cStmt, cExprs_map, cStmts_map]; rfl) ?_
      refine runk_call rfl rfl rfl rfl rfl (by simp) (cvs_cons cv_refl cvs_nil) (ih (dStmts th) (by omega) th (Nat.le_refl _) s3 s4 _) ?_
      refine runk_split 2 (by simp only [exec, stepQ, wantA, yieldA, kind, qv, qv1, qv2, stO, adrId, dataC, replC, eqNil, binNil, shiftInt, A.down, A1.up, downs, toR, ev, putS, rowO, ofConst, cellsA, cellsC, asC, asCs, ld, ldR, bin, binInt, binStr, binBool, sliceOf, bndOf, repl, fillC, zeroC, chunks, ptrIds, tabs, upd_app, mem_nil_app, entry_zero, entry_succ, entry_nil, top_app, maxStr, ByteArray.size, A.kill, O.kill, killS_app, killM_app, Nat.reduceAdd, Nat.reduceLeDiff, Nat.reduceEqDiff, Nat.reduceMul, Int.reduceToNat, reduceIte, wf_i64, Int.reduceLE, Int.reduceNeg, beq_self_eq_true, decide_true, decide_false, ybeq_some, ybeq_none, beqT, beqF, empty_toList, exs, V.tabs, hlt, at_map hx, cStmt, cExprs_map, cStmts_map]; rfl) ?_
      refine runk_call rfl rfl rfl rfl rfl (by simp) (cvs_cons cv_refl cvs_nil) (ih (dStmts el) (by omega) el (Nat.le_refl _) s5 s6 _) ?_
      have hset : (l.map cStmt).set k [.int .i64 kd, .int .i64 nn, .str ty, .str nm, .sl (es.map cExpr), .sl (th.map cStmt), .sl (el.map cStmt)] = l.map cStmt := set_self (by rw [at_map hx]; simp only [cStmt, cExprs_map, cStmts_map])
      refine runk_exec (by simp only [exec, stepQ, wantA, yieldA, kind, qv, qv1, qv2, stO, adrId, dataC, replC, eqNil, binNil, shiftInt, A.down, A1.up, downs, toR, ev, putS, rowO, ofConst, cellsA, cellsC, asC, asCs, ld, ldR, bin, binInt, binStr, binBool, sliceOf, bndOf, repl, fillC, zeroC, chunks, ptrIds, tabs, upd_app, mem_nil_app, entry_zero, entry_succ, entry_nil, top_app, maxStr, ByteArray.size, A.kill, O.kill, killS_app, killM_app, Nat.reduceAdd, Nat.reduceLeDiff, Nat.reduceEqDiff, Nat.reduceMul, Int.reduceToNat, reduceIte, wf_i64, Int.reduceLE, Int.reduceNeg, beq_self_eq_true, decide_true, decide_false, ybeq_some, ybeq_none, beqT, beqF, empty_toList, exs, V.tabs, hlt, at_map hx, cStmt, cExprs_map, cStmts_map, hset]; rfl) ?_
      repeat (first | refine W.seq ?_ | refine W.block ?_ | refine W.skip ?_ | refine W.exit ?_ | refine W.region tab_ok 0 (by decide) (exec_run (by simp only [exec, stepQ, wantA, yieldA, kind, qv, qv1, qv2, stO, adrId, dataC, replC, eqNil, binNil, shiftInt, A.down, A1.up, downs, toR, ev, putS, rowO, ofConst, cellsA, cellsC, asC, asCs, ld, ldR, bin, binInt, binStr, binBool, sliceOf, bndOf, repl, fillC, zeroC, chunks, ptrIds, tabs, upd_app, mem_nil_app, entry_zero, entry_succ, entry_nil, top_app, maxStr, ByteArray.size, A.kill, O.kill, killS_app, killM_app, Nat.reduceAdd, Nat.reduceLeDiff, Nat.reduceEqDiff, Nat.reduceMul, Int.reduceToNat, reduceIte, wf_i64, Int.reduceLE, Int.reduceNeg, beq_self_eq_true, decide_true, decide_false, ybeq_some, ybeq_none, beqT, beqF, empty_toList, exs, V.tabs]; rfl)) ?_)
      refine ⟨k + 1, hlt, by omega, ?_⟩
      refine le_mk ?sle ?mle ?swf ?mwf ?kept (by rfl)
      case kept => exact kept_not hkeep
      case swf => repeat (first | exact swf_top _ | refine swf_upd ?_ (by simp [A.ids, upd_app]))
      case mwf => repeat (first | exact mwf_nil _ | refine mwf_upd ?_ (by simp [A.ids, O.ids, upd_app]))
      case mle => repeat (first | exact mle_nil _ | exact mle_refl _ | refine mle_upd ?_ (by first | rfl | (simp only [upd_app, killM_app, Nat.reduceEqDiff, reduceIte, hset, wrap_succ (show k + 1 < 9223372036854775808 by omega)]; done)))
      case sle => repeat (first | exact sle_top _ | exact sle_refl _ | refine sle_upd ?_ (by first | rfl | (simp only [upd_app, entry_zero, entry_succ, Nat.reduceEqDiff, reduceIte, hset, wrap_succ (show k + 1 < 9223372036854775808 by omega)]; done)))
    · intro hge
      simp only [decide_eq_false_iff_not, Int.ofNat_lt] at hge
      obtain rfl : k = l.length := by omega
      refine W.freeze 0 6 rfl rfl (nokeep hkeep) ?_
      repeat (first | refine W.seq ?_ | refine W.block ?_ | refine W.skip ?_ | refine W.exit ?_ | refine W.region tab_ok 0 (by decide) (exec_run (by simp only [exec, stepQ, wantA, yieldA, kind, qv, qv1, qv2, stO, adrId, dataC, replC, eqNil, binNil, shiftInt, A.down, A1.up, downs, toR, ev, putS, rowO, ofConst, cellsA, cellsC, asC, asCs, ld, ldR, bin, binInt, binStr, binBool, sliceOf, bndOf, repl, fillC, zeroC, chunks, ptrIds, tabs, upd_app, mem_nil_app, entry_zero, entry_succ, entry_nil, top_app, maxStr, ByteArray.size, A.kill, O.kill, killS_app, killM_app, Nat.reduceAdd, Nat.reduceLeDiff, Nat.reduceEqDiff, Nat.reduceMul, Int.reduceToNat, reduceIte, wf_i64, Int.reduceLE, Int.reduceNeg, beq_self_eq_true, decide_true, decide_false, ybeq_some, ybeq_none, beqT, beqF, empty_toList, exs, V.tabs]; rfl)) ?_)
      refine W.ret ⟨.inr rfl, by rfl, ?_⟩
      simp only [Try.f37, resA, resOne, toT, fin, exec, stepQ, wantA, yieldA, kind, qv, qv1, qv2, stO, adrId, dataC, replC, eqNil, binNil, shiftInt, A.down, A1.up, downs, toR, ev, putS, rowO, ofConst, cellsA, cellsC, asC, asCs, ld, ldR, bin, binInt, binStr, binBool, sliceOf, bndOf, repl, fillC, zeroC, chunks, ptrIds, tabs, upd_app, mem_nil_app, entry_zero, entry_succ, entry_nil, top_app, maxStr, ByteArray.size, A.kill, O.kill, killS_app, killM_app, Nat.reduceAdd, Nat.reduceLeDiff, Nat.reduceEqDiff, Nat.reduceMul, Int.reduceToNat, reduceIte, wf_i64, Int.reduceLE, Int.reduceNeg, beq_self_eq_true, decide_true, decide_false, ybeq_some, ybeq_none, beqT, beqF, empty_toList, exs, V.tabs]
end F
end V
end Go.Proofs.Ytjciafpihdbedaa
end
section
set_option linter.unusedVariables false
set_option linter.unusedSimpArgs false
namespace Go.Proofs.Ytjciafpihdbedaa
namespace V
open Go.RowKit
section
variable {P : Go.Program}
theorem W.nilBox {R : Ref} {n : Nat} {ds : List Deferred} {st : St} {c : Code} {K : Exit → St → Prop} (j k : Nat) {tyb : TypeId} {cells : List A} (hj : st.m j = some (.box tyb cells)) (hk : cells[k]? = some .nil)
    (h : W P R n ds ⟨st.s, upd st.m j (some (.box tyb (cells.set k (.c (.sl [])))))⟩ c K) : W P R n ds st c K := by
  intro a w hr
  refine h a w ?_
  obtain ⟨⟨B, I, hm, hx0, hkp, hs⟩, h2, h3, hnn, h4, h5⟩ := hr
  obtain ⟨b, vs, e1, e2, e3, e4⟩ := hm.objs j _ hj
  have liv : ∀ i, (st.m i).isSome = true → (upd st.m j (some (.box tyb (cells.set k (.c (.sl []))))) i).isSome = true := fun i hi => by
    unfold upd; split
    · rfl
    · exact hi
  have hm2 := hm.turn (o' := .box tyb (cells.set k (.c (.sl [])))) hj ⟨0, e1⟩ (fun q hq => by obtain ⟨off, hq⟩ := hq; rw [e1] at hq; cases hq; rfl) e4 rfl rfl rfl rfl (fun _ _ => rfl) (fun i hi => by
    obtain ⟨a', ha', hi'⟩ := List.mem_flatMap.1 hi
    rcases List.mem_or_eq_of_mem_set ha' with ha' | rfl
    · exact hm.live j _ hj i (List.mem_flatMap.2 ⟨a', ha', hi'⟩)
    · simp [A.ids] at hi') (fun _ => by
    refine ⟨b, vs, e1, e2, ?_, e4⟩
    have hl := e3.length
    refine RVs.of (by rw [List.length_set]; exact hl) fun q a' v' ha' hv' => ?_
    rw [List.getElem?_set] at ha'
    split at ha'
    · rename_i hq
      subst hq
      split at ha'
      · cases ha'
        obtain ⟨v2, q1, q2, q3⟩ := e3.at k _ hk
        rw [hv'] at q1; cases q1
        have hv : v' = .slice none 0 0 := q2
        subst hv
        exact ⟨RC.sl (e := 0) (fun _ _ => undef) rfl (Nat.le_refl _) (Nat.zero_le _) (fun x hx => by simp at hx) (fun i x hx => by simp at hx) (fun i j x c hx _ => by simp at hx), q3⟩
      · cases ha'
    · obtain ⟨v2, q1, q2, q3⟩ := e3.at q _ ha'
      rw [hv'] at q1; cases q1
      exact ⟨q2, q3⟩)
  exact ⟨⟨B, I, hm2.1, hx0, hkp, fun t => hs t⟩, fun t i hi => liv i (h2 t i hi), h3, hnn, h4, fun i hi => liv i (h5 i hi)⟩
end
def slotsAt (cs : List Class) (x : Nat × Nat) : List Slot := match cs[x.2]? with | some k => k.fields | none => []
def slotsUp (cs : List Class) (l : List (Nat × Nat)) : List Slot := l.reverse.flatMap (slotsAt cs)
theorem slotsUp_len {cs : List Class} (h : SmallC cs) : ∀ l : List (Nat × Nat), (slotsUp cs l).length ≤ l.length * 1048576
  | [] => by simp [slotsUp]
  | x :: l => by
    have ih := slotsUp_len h l
    unfold slotsUp at *
    rw [List.reverse_cons, List.flatMap_append, List.length_append, List.length_cons]
    have : ([x].flatMap (slotsAt cs)).length ≤ 1048576 := by
      simp only [List.flatMap_cons, List.flatMap_nil, List.append_nil]
      unfold slotsAt
      split
      · rename_i k hk; exact (h k (List.mem_of_getElem? hk)).1
      · simp
    rw [Nat.add_mul]
    omega
def fieldsR (E : Int) (cs : List Class) (n : ByteArray) : List Slot := if E = 0 then slotsUp cs (upX cs (cs.length + 1) 0 n) else []
def memF (cs : List Class) (mn : C) (l : List Slot) : Mem :=
  upd (upd Mem.nil 2 (some (.box 25 [.c (.sl (cs.map cClass)), .c mn]))) 4 (some (.box 34 [.c (.sl (l.map cSlot))]))
def slotF : Nat → A := upd (upd (fun _ => .top) 2 (.ptr 2 0)) 4 (.ptr 4 0)
namespace E
set_option maxRecDepth 100000 in
set_option maxHeartbeats 1000000 in
theorem fieldsP_ok (p : Program) (E : Int) (name : ByteArray) (hS : SmallC p.classes) (hlen : p.classes.length ≤ 1000000000) (h16 : E = 0 → p.classes.length ≤ 16) (hchk : ∀ m, COk Try.prog 9 [.agg (cProg p)] m (.c (.int .i64 E))) (m : Mem) :
    COk Try.prog 20 [.agg (cProg p), .c (.str name)] m (.c (.sl ((fieldsR E p.classes name).map cSlot))) := by
  obtain ⟨cs, mn'⟩ := p
  dsimp only at hS hlen h16 hchk ⊢
  generalize hmn : C.sl (cStmts mn') = mn
  have hpr : cProg ⟨cs, mn'⟩ = [.sl (cs.map cClass), mn] := by rw [← hmn]; rfl
  rw [hpr] at hchk ⊢
  refine (ok_pureM tab_ok Try.func20 (by kernel_rfl) rfl rfl (by rfl) (by rfl) (by rfl) (fun R hkeep => ?_) m)
  repeat (first | refine W.seq ?_ | refine W.block ?_ | refine W.skip ?_ | refine W.exit ?_ | refine W.region tab_ok 0 (by decide) (exec_run (by simp only [exec, stepQ, wantA, yieldA, kind, qv, qv1, qv2, stO, adrId, dataC, replC, eqNil, binNil, shiftInt, A.down, A1.up, downs, toR, ev, putS, rowO, ofConst, cellsA, cellsC, asC, asCs, ld, ldR, bin, binInt, binStr, binBool, sliceOf, bndOf, repl, fillC, zeroC, chunks, ptrIds, tabs, upd_app, mem_nil_app, entry_zero, entry_succ, entry_nil, top_app, maxStr, ByteArray.size, A.kill, O.kill, killS_app, killM_app, Nat.reduceAdd, Nat.reduceLeDiff, Nat.reduceEqDiff, Nat.reduceMul, Int.reduceToNat, reduceIte, wf_i64, Int.reduceLE, Int.reduceNeg, beq_self_eq_true, decide_true, decide_false, ybeq_some, ybeq_none, beqT, beqF, empty_toList, exs, V.tabs]; rfl)) ?_)
  refine W.regionK tab_ok 0 (by decide) ?_
  refine runk_split 1 (by simp only [exec, stepQ, wantA, yieldA, kind, qv, qv1, qv2, stO, adrId, dataC, replC, eqNil, binNil, shiftInt, A.down, A1.up, downs, toR, ev, putS, rowO, ofConst, cellsA, cellsC, asC, asCs, ld, ldR, bin, binInt, binStr, binBool, sliceOf, bndOf, repl, fillC, zeroC, chunks, ptrIds, tabs, upd_app, mem_nil_app, entry_zero, entry_succ, entry_nil, top_app, maxStr, ByteArray.size, A.kill, O.kill, killS_app, killM_app, Nat.reduceAdd, Nat.reduceLeDiff, Nat.reduceEqDiff, Nat.reduceMul, Int.reduceToNat, reduceIte, wf_i64, Int.reduceLE, Int.reduceNeg, beq_self_eq_true, decide_true, decide_false, ybeq_some, ybeq_none, beqT, beqF, empty_toList, exs, V.tabs]; rfl) ?_
  refine runk_call rfl rfl rfl rfl rfl (by simp) (cvs_cons cv_refl cvs_nil) (hchk _) ?_
  refine runk_exec (by simp only [exec, stepQ, wantA, yieldA, kind, qv, qv1, qv2, stO, adrId, dataC, replC, eqNil, binNil, shiftInt, A.down, A1.up, downs, toR, ev, putS, rowO, ofConst, cellsA, cellsC, asC, asCs, ld, ldR, bin, binInt, binStr, binBool, sliceOf, bndOf, repl, fillC, zeroC, chunks, ptrIds, tabs, upd_app, mem_nil_app, entry_zero, entry_succ, entry_nil, top_app, maxStr, ByteArray.size, A.kill, O.kill, killS_app, killM_app, Nat.reduceAdd, Nat.reduceLeDiff, Nat.reduceEqDiff, Nat.reduceMul, Int.reduceToNat, reduceIte, wf_i64, Int.reduceLE, Int.reduceNeg, beq_self_eq_true, decide_true, decide_false, ybeq_some, ybeq_none, beqT, beqF, empty_toList, exs, V.tabs]; rfl) ?_
  refine W.cond rfl ?_ ?_
  · intro h
    have he : E ≠ 0 := by simpa using h
    repeat (first | refine W.seq ?_ | refine W.block ?_ | refine W.skip ?_ | refine W.exit ?_ | refine W.region tab_ok 0 (by decide) (exec_run (by simp only [exec, stepQ, wantA, yieldA, kind, qv, qv1, qv2, stO, adrId, dataC, replC, eqNil, binNil, shiftInt, A.down, A1.up, downs, toR, ev, putS, rowO, ofConst, cellsA, cellsC, asC, asCs, ld, ldR, bin, binInt, binStr, binBool, sliceOf, bndOf, repl, fillC, zeroC, chunks, ptrIds, tabs, upd_app, mem_nil_app, entry_zero, entry_succ, entry_nil, top_app, maxStr, ByteArray.size, A.kill, O.kill, killS_app, killM_app, Nat.reduceAdd, Nat.reduceLeDiff, Nat.reduceEqDiff, Nat.reduceMul, Int.reduceToNat, reduceIte, wf_i64, Int.reduceLE, Int.reduceNeg, beq_self_eq_true, decide_true, decide_false, ybeq_some, ybeq_none, beqT, beqF, empty_toList, exs, V.tabs]; rfl)) ?_)
    refine W.ret ⟨.inr rfl, .inl ⟨rfl, ?_⟩⟩
    simp only [Try.f20, resA, resOne, toT, fin, exec, stepQ, wantA, yieldA, kind, qv, qv1, qv2, stO, adrId, dataC, replC, eqNil, binNil, shiftInt, A.down, A1.up, downs, toR, ev, putS, rowO, ofConst, cellsA, cellsC, asC, asCs, ld, ldR, bin, binInt, binStr, binBool, sliceOf, bndOf, repl, fillC, zeroC, chunks, ptrIds, tabs, upd_app, mem_nil_app, entry_zero, entry_succ, entry_nil, top_app, maxStr, ByteArray.size, A.kill, O.kill, killS_app, killM_app, Nat.reduceAdd, Nat.reduceLeDiff, Nat.reduceEqDiff, Nat.reduceMul, Int.reduceToNat, reduceIte, wf_i64, Int.reduceLE, Int.reduceNeg, beq_self_eq_true, decide_true, decide_false, ybeq_some, ybeq_none, beqT, beqF, empty_toList, exs, V.tabs]
    simp [fieldsR, he]
  intro h
  have he : E = 0 := by simpa using h
  subst he
  have h16 := h16 rfl
  repeat (first | refine W.seq ?_ | refine W.block ?_ | refine W.skip ?_ | refine W.exit ?_ | refine W.region tab_ok 0 (by decide) (exec_run (by simp only [exec, stepQ, wantA, yieldA, kind, qv, qv1, qv2, stO, adrId, dataC, replC, eqNil, binNil, shiftInt, A.down, A1.up, downs, toR, ev, putS, rowO, ofConst, cellsA, cellsC, asC, asCs, ld, ldR, bin, binInt, binStr, binBool, sliceOf, bndOf, repl, fillC, zeroC, chunks, ptrIds, tabs, upd_app, mem_nil_app, entry_zero, entry_succ, entry_nil, top_app, maxStr, ByteArray.size, A.kill, O.kill, killS_app, killM_app, Nat.reduceAdd, Nat.reduceLeDiff, Nat.reduceEqDiff, Nat.reduceMul, Int.reduceToNat, reduceIte, wf_i64, Int.reduceLE, Int.reduceNeg, beq_self_eq_true, decide_true, decide_false, ybeq_some, ybeq_none, beqT, beqF, empty_toList, exs, V.tabs]; rfl)) ?_)
  refine W.nilBox 4 0 rfl rfl ?_
  repeat (first | refine W.seq ?_ | refine W.block ?_ | refine W.skip ?_ | refine W.exit ?_ | refine W.region tab_ok 0 (by decide) (exec_run (by simp only [exec, stepQ, wantA, yieldA, kind, qv, qv1, qv2, stO, adrId, dataC, replC, eqNil, binNil, shiftInt, A.down, A1.up, downs, toR, ev, putS, rowO, ofConst, cellsA, cellsC, asC, asCs, ld, ldR, bin, binInt, binStr, binBool, sliceOf, bndOf, repl, fillC, zeroC, chunks, ptrIds, tabs, upd_app, mem_nil_app, entry_zero, entry_succ, entry_nil, top_app, maxStr, ByteArray.size, A.kill, O.kill, killS_app, killM_app, Nat.reduceAdd, Nat.reduceLeDiff, Nat.reduceEqDiff, Nat.reduceMul, Int.reduceToNat, reduceIte, wf_i64, Int.reduceLE, Int.reduceNeg, beq_self_eq_true, decide_true, decide_false, ybeq_some, ybeq_none, beqT, beqF, empty_toList, exs, V.tabs]; rfl)) ?_)
  refine W.regionK tab_ok 0 (by decide) ?_
  refine runk_split 2 (by simp only [exec, stepQ, wantA, yieldA, kind, qv, qv1, qv2, stO, adrId, dataC, replC, eqNil, binNil, shiftInt, A.down, A1.up, downs, toR, ev, putS, rowO, ofConst, cellsA, cellsC, asC, asCs, ld, ldR, bin, binInt, binStr, binBool, sliceOf, bndOf, repl, fillC, zeroC, chunks, ptrIds, tabs, upd_app, mem_nil_app, entry_zero, entry_succ, entry_nil, top_app, maxStr, ByteArray.size, A.kill, O.kill, killS_app, killM_app, Nat.reduceAdd, Nat.reduceLeDiff, Nat.reduceEqDiff, Nat.reduceMul, Int.reduceToNat, reduceIte, wf_i64, Int.reduceLE, Int.reduceNeg, beq_self_eq_true, decide_true, decide_false, ybeq_some, ybeq_none, beqT, beqF, empty_toList, exs, V.tabs]; rfl) ?_
  refine runk_call0 rfl rfl rfl rfl rfl rfl (by simp) (cvs_cons cv_refl (cvs_cons cv_refl cvs_nil)) (up_ok (cs.map cClass) mn name _ 1000 1001 rfl rfl (by decide)) ?_
  refine runk_exec (by simp only [exec, stepQ, wantA, yieldA, kind, qv, qv1, qv2, stO, adrId, dataC, replC, eqNil, binNil, shiftInt, A.down, A1.up, downs, toR, ev, putS, rowO, ofConst, cellsA, cellsC, asC, asCs, ld, ldR, bin, binInt, binStr, binBool, sliceOf, bndOf, repl, fillC, zeroC, chunks, ptrIds, tabs, upd_app, mem_nil_app, entry_zero, entry_succ, entry_nil, top_app, maxStr, ByteArray.size, A.kill, O.kill, killS_app, killM_app, Nat.reduceAdd, Nat.reduceLeDiff, Nat.reduceEqDiff, Nat.reduceMul, Int.reduceToNat, reduceIte, wf_i64, Int.reduceLE, Int.reduceNeg, beq_self_eq_true, decide_true, decide_false, ybeq_some, ybeq_none, beqT, beqF, empty_toList, exs, V.tabs]; rfl) ?_
  repeat (first | refine W.seq ?_ | refine W.block ?_ | refine W.skip ?_ | refine W.exit ?_ | refine W.region tab_ok 0 (by decide) (exec_run (by simp only [exec, stepQ, wantA, yieldA, kind, qv, qv1, qv2, stO, adrId, dataC, replC, eqNil, binNil, shiftInt, A.down, A1.up, downs, toR, ev, putS, rowO, ofConst, cellsA, cellsC, asC, asCs, ld, ldR, bin, binInt, binStr, binBool, sliceOf, bndOf, repl, fillC, zeroC, chunks, ptrIds, tabs, upd_app, mem_nil_app, entry_zero, entry_succ, entry_nil, top_app, maxStr, ByteArray.size, A.kill, O.kill, killS_app, killM_app, Nat.reduceAdd, Nat.reduceLeDiff, Nat.reduceEqDiff, Nat.reduceMul, Int.reduceToNat, reduceIte, wf_i64, Int.reduceLE, Int.reduceNeg, beq_self_eq_true, decide_true, decide_false, ybeq_some, ybeq_none, beqT, beqF, empty_toList, exs, V.tabs]; rfl)) ?_)
  have hG : ∀ l, GoodM R.keep slotF 1000 1001 1002 1003 (memF cs mn l) := fun l => by
    refine ⟨?_, rfl, rfl, rfl, rfl, ?_, kept_not hkeep⟩
    · unfold memF
      show MWf _ _
      (repeat (first | exact mwf_nil _ | refine mwf_upd ?_ (by simp [A.ids, O.ids, upd_app])))
    · show SWf _ _
      unfold memF slotF
      (repeat (first | exact swf_top _ | refine swf_upd ?_ (by simp [A.ids, upd_app])))
  have hul := upX_len cs (cs.length + 1) 0 name
  refine W.rangeUp cs name mn 1000 1001 1002 1003 slotF (fun k => memF cs mn (slotsUp cs ((upX cs (cs.length + 1) 0 name).take k))) (fun _ => True) (by omega) rfl rfl rfl (by decide) rfl rfl (by decide) trivial rfl ?sle ?sn ?m0 (fun k _ => hG _) ?round ?done
  case sle =>
    unfold slotF
    (repeat (first | exact sle_top _ | exact sle_refl _ | refine sle_upd ?_ (by first | rfl | (simp only [upd_app, entry_zero, entry_succ, Nat.reduceEqDiff, reduceIte]; done))))
  case sn =>
    unfold slotF
    (repeat (first | exact sn_top | refine sn_upd ?_ (by decide)))
  case m0 =>
    refine mle_some ?_
    unfold memF
    (repeat (first | exact mle_nil _ | exact mle_refl _ | refine mle_upd ?_ (by first | rfl | (simp only [upd_app, killM_app, Nat.reduceEqDiff, reduceIte, List.take_zero, slotsUp, List.reverse_nil, List.flatMap_nil, List.map_nil, List.set_cons_zero]; done))))
  case round =>
    intro R' l hk' k j kc x1 x2 xL _ hitem hkc
    have hacc : (slotsUp cs ((upX cs (cs.length + 1) 0 name).take k)).length ≤ 17 * 1048576 := by
      have h1 := slotsUp_len hS ((upX cs (cs.length + 1) 0 name).take k)
      have h2 := List.length_take_le' k (upX cs (cs.length + 1) 0 name)
      have h3 : ((upX cs (cs.length + 1) 0 name).take k).length ≤ 17 := Nat.le_trans h2 (Nat.le_trans hul (Nat.succ_le_succ h16))
      exact Nat.le_trans h1 (Nat.mul_le_mul_right _ h3)
    have hfl := (hS kc (List.mem_of_getElem? hkc)).1
    have hF : [kc.fields, slotsUp cs ((upX cs (cs.length + 1) 0 name).take k)].flatten = slotsUp cs ((upX cs (cs.length + 1) 0 name).take (k + 1)) := by
      rw [List.take_add_one, hitem]
      simp [slotsUp, slotsAt, hkc]
    generalize slotsUp cs ((upX cs (cs.length + 1) 0 name).take k) = acc at hacc hF ⊢
    repeat (first | refine WI.seq ?_ | refine WI.block ?_ | refine WI.skip ?_ | refine WI.exit ?_ | refine WI.region tab_ok 0 (by decide) (by kernel_rfl) (exec_run (by simp only [exec, stepQ, wantA, yieldA, kind, qv, qv1, qv2, stO, adrId, dataC, replC, eqNil, binNil, shiftInt, A.down, A1.up, downs, toR, ev, putS, rowO, ofConst, cellsA, cellsC, asC, asCs, ld, ldR, bin, binInt, binStr, binBool, sliceOf, bndOf, repl, fillC, zeroC, chunks, ptrIds, tabs, upd_app, mem_nil_app, entry_zero, entry_succ, entry_nil, top_app, maxStr, ByteArray.size, A.kill, O.kill, killS_app, killM_app, Nat.reduceAdd, Nat.reduceLeDiff, Nat.reduceEqDiff, Nat.reduceMul, Int.reduceToNat, reduceIte, wf_i64, Int.reduceLE, Int.reduceNeg, beq_self_eq_true, decide_true, decide_false, ybeq_some, ybeq_none, beqT, beqF, empty_toList, exs, V.tabs, fullM, memF, slotF, cClass]; rfl)) ?_)
    refine ⟨rfl, fun xL' => ?_⟩
    repeat (first | refine WI.seq ?_ | refine WI.block ?_ | refine WI.skip ?_ | refine WI.exit ?_ | refine WI.region tab_ok 0 (by decide) (by kernel_rfl) (exec_run (by simp only [exec, stepQ, wantA, yieldA, kind, qv, qv1, qv2, stO, adrId, dataC, replC, eqNil, binNil, shiftInt, A.down, A1.up, downs, toR, ev, putS, rowO, ofConst, cellsA, cellsC, asC, asCs, ld, ldR, bin, binInt, binStr, binBool, sliceOf, bndOf, repl, fillC, zeroC, chunks, ptrIds, tabs, upd_app, mem_nil_app, entry_zero, entry_succ, entry_nil, top_app, maxStr, ByteArray.size, A.kill, O.kill, killS_app, killM_app, Nat.reduceAdd, Nat.reduceLeDiff, Nat.reduceEqDiff, Nat.reduceMul, Int.reduceToNat, reduceIte, wf_i64, Int.reduceLE, Int.reduceNeg, beq_self_eq_true, decide_true, decide_false, ybeq_some, ybeq_none, beqT, beqF, empty_toList, exs, V.tabs, fullM, memF, slotF, cClass]; rfl)) ?_)
    refine WI.regionK tab_ok 0 (by decide) (by kernel_rfl) ?_
    refine runk_split 4 (by simp only [exec, stepQ, wantA, yieldA, kind, qv, qv1, qv2, stO, adrId, dataC, replC, eqNil, binNil, shiftInt, A.down, A1.up, downs, toR, ev, putS, rowO, ofConst, cellsA, cellsC, asC, asCs, ld, ldR, bin, binInt, binStr, binBool, sliceOf, bndOf, repl, fillC, zeroC, chunks, ptrIds, tabs, upd_app, mem_nil_app, entry_zero, entry_succ, entry_nil, top_app, maxStr, ByteArray.size, A.kill, O.kill, killS_app, killM_app, Nat.reduceAdd, Nat.reduceLeDiff, Nat.reduceEqDiff, Nat.reduceMul, Int.reduceToNat, reduceIte, wf_i64, Int.reduceLE, Int.reduceNeg, beq_self_eq_true, decide_true, decide_false, ybeq_some, ybeq_none, beqT, beqF, empty_toList, exs, V.tabs, fullM, memF, slotF, cClass]; rfl) ?_
    refine runk_call rfl rfl rfl rfl rfl (by simp) (cvs_cons cv_refl cvs_nil) (concat_ok [kc.fields, acc] (by simp) (by simp only [List.flatten_cons, List.flatten_nil, List.append_nil, List.length_append]; omega) _) ?_
    rw [hF]
    refine runk_exec (by simp only [exec, stepQ, wantA, yieldA, kind, qv, qv1, qv2, stO, adrId, dataC, replC, eqNil, binNil, shiftInt, A.down, A1.up, downs, toR, ev, putS, rowO, ofConst, cellsA, cellsC, asC, asCs, ld, ldR, bin, binInt, binStr, binBool, sliceOf, bndOf, repl, fillC, zeroC, chunks, ptrIds, tabs, upd_app, mem_nil_app, entry_zero, entry_succ, entry_nil, top_app, maxStr, ByteArray.size, A.kill, O.kill, killS_app, killM_app, Nat.reduceAdd, Nat.reduceLeDiff, Nat.reduceEqDiff, Nat.reduceMul, Int.reduceToNat, reduceIte, wf_i64, Int.reduceLE, Int.reduceNeg, beq_self_eq_true, decide_true, decide_false, ybeq_some, ybeq_none, beqT, beqF, empty_toList, exs, V.tabs, fullM, memF, slotF]; rfl) ?_
    repeat (first | refine WI.seq ?_ | refine WI.block ?_ | refine WI.skip ?_ | refine WI.exit ?_ | refine WI.region tab_ok 0 (by decide) (by kernel_rfl) (exec_run (by simp only [exec, stepQ, wantA, yieldA, kind, qv, qv1, qv2, stO, adrId, dataC, replC, eqNil, binNil, shiftInt, A.down, A1.up, downs, toR, ev, putS, rowO, ofConst, cellsA, cellsC, asC, asCs, ld, ldR, bin, binInt, binStr, binBool, sliceOf, bndOf, repl, fillC, zeroC, chunks, ptrIds, tabs, upd_app, mem_nil_app, entry_zero, entry_succ, entry_nil, top_app, maxStr, ByteArray.size, A.kill, O.kill, killS_app, killM_app, Nat.reduceAdd, Nat.reduceLeDiff, Nat.reduceEqDiff, Nat.reduceMul, Int.reduceToNat, reduceIte, wf_i64, Int.reduceLE, Int.reduceNeg, beq_self_eq_true, decide_true, decide_false, ybeq_some, ybeq_none, beqT, beqF, empty_toList, exs, V.tabs, fullM, memF, slotF]; rfl)) ?_)
    refine ⟨trivial, fun j => j, Le.toT ?_⟩
    simp only [fullM, memF]
    refine le_mk ?sle ?mle ?swf ?mwf (fun j hj => fullM_keep (hG _) hj) (by rfl)
    case swf => repeat (first | exact swf_top _ | refine swf_upd ?_ (by simp [A.ids, upd_app, fullM, memF]))
    case mwf => repeat (first | exact mwf_nil _ | refine mwf_upd ?_ (by simp [A.ids, O.ids, upd_app, fullM, memF]))
    case mle => repeat (first | exact mle_nil _ | exact mle_refl _ | refine mle_upd ?_ (by first | rfl | (simp only [upd_app, killM_app, O.kill, A.kill, Nat.reduceEqDiff, reduceIte, Option.map_some, Option.map_none, List.map_cons, List.map_nil, fullM, memF]; done)))
    case sle => repeat (first | exact sle_top _ | exact sle_refl _ | refine sle_upd ?_ (by first | rfl | (simp only [upd_app, killS_app, A.kill, entry_zero, entry_succ, Nat.reduceEqDiff, reduceIte, fullM, memF]; done)))
  case done =>
    intro _ b
    rw [List.take_length]
    repeat (first | refine W.seq ?_ | refine W.block ?_ | refine W.skip ?_ | refine W.exit ?_ | refine W.region tab_ok 0 (by decide) (exec_run (by simp only [exec, stepQ, wantA, yieldA, kind, qv, qv1, qv2, stO, adrId, dataC, replC, eqNil, binNil, shiftInt, A.down, A1.up, downs, toR, ev, putS, rowO, ofConst, cellsA, cellsC, asC, asCs, ld, ldR, bin, binInt, binStr, binBool, sliceOf, bndOf, repl, fillC, zeroC, chunks, ptrIds, tabs, upd_app, mem_nil_app, entry_zero, entry_succ, entry_nil, top_app, maxStr, ByteArray.size, A.kill, O.kill, killS_app, killM_app, Nat.reduceAdd, Nat.reduceLeDiff, Nat.reduceEqDiff, Nat.reduceMul, Int.reduceToNat, reduceIte, wf_i64, Int.reduceLE, Int.reduceNeg, beq_self_eq_true, decide_true, decide_false, ybeq_some, ybeq_none, beqT, beqF, empty_toList, exs, V.tabs, doneS, doneM, DID, memF, slotF]; rfl)) ?_)
    refine W.ret ⟨.inr rfl, .inr ⟨b, 1002, rfl, rfl, rfl, ?_⟩⟩
    simp only [Try.f20, resA, resOne, toT, fin, doneS, doneM, DID, exec, stepQ, wantA, yieldA, kind, qv, qv1, qv2, stO, adrId, dataC, replC, eqNil, binNil, shiftInt, A.down, A1.up, downs, toR, ev, putS, rowO, ofConst, cellsA, cellsC, asC, asCs, ld, ldR, bin, binInt, binStr, binBool, sliceOf, bndOf, repl, fillC, zeroC, chunks, ptrIds, tabs, upd_app, mem_nil_app, entry_zero, entry_succ, entry_nil, top_app, maxStr, ByteArray.size, A.kill, O.kill, killS_app, killM_app, Nat.reduceAdd, Nat.reduceLeDiff, Nat.reduceEqDiff, Nat.reduceMul, Int.reduceToNat, reduceIte, wf_i64, Int.reduceLE, Int.reduceNeg, beq_self_eq_true, decide_true, decide_false, ybeq_some, ybeq_none, beqT, beqF, empty_toList, exs, V.tabs, memF]
    simp [fieldsR]
end E
end V
end Go.Proofs.Ytjciafpihdbedaa
end
section
set_option linter.unusedVariables false
set_option linter.unusedSimpArgs false
namespace Go.Proofs.Ytjciafpihdbedaa
namespace V
open Go.RowKit
def Runs (P : Go.Program) (T : Tab) (kp : Nat → Prop) (base : Nat) (ops : Array Oper) (K : St → Prop) : Nat → Array Bool → St → Prop
  | 0, listed, st => Region.ready .any ops listed = [] ∧ K st
  | f + 1, listed, st => (Region.ready .any ops listed = [] → K st) ∧ ∀ i ∈ Region.ready .any ops listed, ∀ o, ops[i]? = some o → ∃ st1, HS P T kp base ops o st st1 ∧ Runs P T kp base ops K f (listed.setIfInBounds i true) st1
section
variable {P : Go.Program} {T : Tab} (hT : T.Ok P) {R : Ref} {w : World} {n base : Nat} {ds : List Deferred} {ops : Array Oper}
include hT in
theorem runs_snd (hd : ∀ o ∈ ops, ∀ d, o.dst = some d → d < n) {K : St → Prop} {Q : Exit → Act → World → Prop} (hQ : ∀ st a w, K st → SR R n ds st a w → Q .normal a w) :
    ∀ (fuel : Nat) (listed : Array Bool) (st : St) (a : Act) (w : World), Runs P T R.keep base ops K fuel listed st → SR R n ds st a w → wpAny P .any ops Q fuel listed a w := by
  intro fuel
  induction fuel with
  | zero =>
    intro listed st a w h hr
    exact ⟨h.1, hQ _ _ _ h.2 hr⟩
  | succ fuel ih =>
    intro listed st a w h hr
    obtain ⟨h0, h1⟩ := h
    constructor
    · intro hnil
      exact hQ _ _ _ (h0 hnil) hr
    · intro i hi
      obtain ⟨-, oi, h2, -⟩ := mem_ready.1 hi
      obtain ⟨st1, h4, h5⟩ := h1 i hi oi h2
      unfold wpOp
      rw [h2]
      have hgo := h4.snd hT hr (hd oi (Array.mem_of_getElem? h2)) (K := wpAny P .any ops Q fuel (listed.setIfInBounds i true)) (Q := Q) (fun a' w' hr' => ih _ _ _ _ h5 hr')
      dsimp only
      split
      · rename_i hw; rw [if_pos hw] at hgo; exact .inl hgo
      · rename_i hw; rw [if_neg hw] at hgo; exact hgo
end
section
variable {P : Go.Program} {T : Tab} {kp : Nat → Prop} {base f : Nat} {ops : Array Oper} {K : St → Prop} {listed : Array Bool} {st st1 st2 : St}
theorem runs_end (hr : Region.ready .any ops listed = []) (hk : K st) : Runs P T kp base ops K f listed st := by
  cases f with
  | zero => exact ⟨hr, hk⟩
  | succ f => exact ⟨fun _ => hk, fun i hi => by rw [hr] at hi; cases hi⟩
theorem run_one {o : Oper} (h : exec T base ops [o] st = some st1) : HS P T kp base ops o st st1 := by
  have := exec_run (P := P) (kp := kp) h
  cases this with
  | cons h t => cases t; exact h
theorem runs_one {i : Nat} {o : Oper} (hr : Region.ready .any ops listed = [i]) (ho : ops[i]? = some o) (h : ∃ st1, exec T base ops [o] st = some st1 ∧ Runs P T kp base ops K f (listed.setIfInBounds i true) st1) : Runs P T kp base ops K (f + 1) listed st :=
  ⟨(fun e => absurd (hr.symm.trans e) (by simp)), fun k hk' o' ho' => by
    rw [hr] at hk'
    obtain rfl : k = i := by simpa using hk'
    rw [ho] at ho'
    cases ho'
    exact let ⟨st1, h1, h2⟩ := h; ⟨st1, run_one h1, h2⟩⟩
theorem runs_two {i j : Nat} {o p : Oper} (hr : Region.ready .any ops listed = [i, j]) (ho : ops[i]? = some o) (hp : ops[j]? = some p) (h : ∃ st1, exec T base ops [o] st = some st1 ∧ Runs P T kp base ops K f (listed.setIfInBounds i true) st1)
    (h' : ∃ st1, exec T base ops [p] st = some st1 ∧ Runs P T kp base ops K f (listed.setIfInBounds j true) st1) : Runs P T kp base ops K (f + 1) listed st :=
  ⟨(fun e => absurd (hr.symm.trans e) (by simp)), fun k hm o' ho' => by
    rw [hr] at hm
    rcases List.mem_cons.1 hm with rfl | hm
    · rw [ho] at ho'
      cases ho'
      exact let ⟨st1, h1, h2⟩ := h; ⟨st1, run_one h1, h2⟩
    · obtain rfl : k = j := by simpa using hm
      rw [hp] at ho'
      cases ho'
      exact let ⟨st1, h1, h2⟩ := h'; ⟨st1, run_one h1, h2⟩⟩
end
section
variable {l n' : Nat} {P : Go.Program} {T : Tab} {R : Ref} {n : Nat} {ds : List Deferred} {st : St} {K : Exit → St → Prop}
theorem WI.regionT (hT : T.Ok P) (base : Nat) {id : Nat} {ops : Array Oper} (hm : P.follows .mixedOrders = true) (hd : dstOk n ops = true) (hnd : noDefer ops = true) (h : Runs P T R.keep base ops (K .normal) ops.size (Array.replicate ops.size false) st) : WI l n' P R n ds st (.region id ops true) K := fun a w hr => by
  refine wpIn_mono (Q := fun e a w => e = .normal ∧ ∃ st', K .normal st' ∧ SR R n ds st' a w) (region_round (fun ⟨_, _, h, _⟩ => by cases h) hm hnd (runs_snd hT (dstOk_spec hd) (fun st' a w hk hr' => ⟨rfl, st', hk, hr'⟩) _ _ st a _ h ?_)) fun e a w h => h.1 ▸ h.2
  obtain ⟨⟨B, I, hmr, hx0, hkp, hs⟩, h2, h3, hnn, h4, h5⟩ := hr
  have hE : Ext w w.drew I I := ⟨fun _ _ k => k, fun _ _ _ => rfl⟩
  exact ⟨⟨B, I, hmr.call (Below.refl _ _).drew, hx0.trans hE, hkp, fun t => (hs t).mono hE fun _ _ => rfl⟩, h2, h3, hnn, h4, h5⟩
theorem W.regionT (hT : T.Ok P) (base : Nat) {id : Nat} {ops : Array Oper} (hm : P.follows .mixedOrders = true) (hd : dstOk n ops = true) (h : Runs P T R.keep base ops (K .normal) ops.size (Array.replicate ops.size false) st) : W P R n ds st (.region id ops true) K := fun a w hr => by
  refine wp_region_any hm (runs_snd hT (dstOk_spec hd) (fun st' a w hk hr' => ⟨st', hk, hr'⟩) _ _ st a _ h ?_)
  obtain ⟨⟨B, I, hmr, hx0, hkp, hs⟩, h2, h3, hnn, h4, h5⟩ := hr
  have hE : Ext w w.drew I I := ⟨fun _ _ k => k, fun _ _ _ => rfl⟩
  exact ⟨⟨B, I, hmr.call (Below.refl _ _).drew, hx0.trans hE, hkp, fun t => (hs t).mono hE fun _ _ => rfl⟩, h2, h3, hnn, h4, h5⟩
end
end V
end Go.Proofs.Ytjciafpihdbedaa
end
