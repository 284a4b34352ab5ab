/- Joined by my own program, in build order: Vk, Vl, Vm, Vn, Vo, Vp, Vr, Vq, Bulk, Top, Shelf. -/
import Derived.Test.YtjciafpihdbedaaZ2
import Derived.Test.YtjciafpihdbedaaRows
import Derived.Test.YtjciafpihdbedaaZ1
import Derived.ProofKit
import Derived.OpenShut
import Derived.HandedShaped
import Derived.Deep.DeepHandedRow
import Derived.LaidLaws
import Derived.Shelf.Strings.Search1
import Derived.Shelf.Strings.Search2
import Derived.Shelf.Strings.Search3
import Derived.Shelf.LaysM
import Derived.Shelf.Strings.Shaped
import Derived.Test.YtjciafpihdbedaaProg
set_option linter.unusedVariables false
set_option linter.unusedSimpArgs false
section
/- The document's classes, over plain data. -/
namespace Go.Proofs.Ytjciafpihdbedaa
namespace V
open Go.RowKit
set_option linter.unusedSimpArgs false
def nameIs (name : ByteArray) (c : Class) : Bool := c.name.toList == name.toList
def classD (cs : List Class) (name : ByteArray) : Class := (cs.find? (nameIs name)).getD ⟨⟨#[]⟩, ⟨#[]⟩, [], []⟩
def foundC (cs : List Class) (name : ByteArray) : List C := cClass (classD cs name)
theorem find_none {α : Type} {p : α → Bool} {l : List α} {k : Nat} {x : α} (h : (l.take k).find? p = none) (hx : l[k]? = some x) : (p x = true → l.find? p = some x) ∧ (p x = false → (l.take (k + 1)).find? p = none) := by
  constructor
  · intro hp
    have e : l = l.take k ++ (x :: l.drop (k + 1)) := by
      rw [← drop_of_getElem? hx, List.take_append_drop]
    rw [e, List.find?_append, h]
    simp [hp]
  · intro hp
    rw [List.take_add_one, hx, List.find?_append, h]
    simp [hp]
theorem find_ok (cs : List Class) (mn : C) (name : ByteArray) (hlen : cs.length ≤ 1000000000000) (m : Mem) : COk Try.prog 55 [.agg [.sl (cs.map cClass), mn], .c (.str name)] m (.tup [(true, foundC cs name), (false, [.bool (cs.find? (nameIs name)).isSome])]) := by
  refine (ok_pure tab_ok Try.func55 (by kernel_rfl) rfl rfl (by rfl) (by rfl) (by rfl) (fun R hkeep => ?_) m)
  repeat (first | refine W.seq ?_ | refine W.block ?_ | refine W.skip ?_ | refine W.exit ?_ | refine W.region tab_ok 0 (by decide) (exec_run (by simp only [exec, stepQ, wantA, yieldA, kind, qv, qv1, qv2, stO, adrId, dataC, replC, eqNil, binNil, shiftInt, A.down, A1.up, downs, toR, ev, putS, rowO, ofConst, cellsA, cellsC, asC, asCs, ld, ldR, bin, binInt, binStr, binBool, sliceOf, bndOf, repl, fillC, zeroC, chunks, ptrIds, tabs, upd_app, mem_nil_app, entry_zero, entry_succ, entry_nil, top_app, maxStr, ByteArray.size, A.kill, O.kill, killS_app, killM_app, Nat.reduceAdd, Nat.reduceLeDiff, Nat.reduceEqDiff, Nat.reduceMul, Int.reduceToNat, reduceIte, wf_i64, Int.reduceLE, Int.reduceNeg, beq_self_eq_true, decide_true, decide_false, ybeq_some, ybeq_none, beqT, beqF, empty_toList, exs]; rfl)) ?_)
  refine W.loop (ι := Nat) (fun k => ⟨upd (upd (upd (upd (upd (fun _ => .top) 1 (.c (.str name))) 4 (.ptr 4 0)) 9 (.c (.sl (cs.map cClass)))) 10 (.c (.int .i64 cs.length))) 11 (.c (.int .i64 k)), 
     upd Mem.nil 4 (some (.box 37 [.c (.str ⟨#[]⟩), .c (.str ⟨#[]⟩), .nil, .nil]))⟩) (fun k => k ≤ cs.length ∧ (cs.take k).find? (nameIs name) = none) (fun k => cs.length - k) 0 ?start ⟨Nat.zero_le _, rfl⟩ ?round
  case start =>
    refine le_mk ?sle ?mle ?swf ?mwf ?kept (by rfl)
    case kept => exact kept_not hkeep
    case swf => repeat (first | exact swf_top _ | refine swf_upd ?_ (by simp [A.ids, upd_app]))
    case mwf => repeat (first | exact mwf_nil _ | refine mwf_upd ?_ (by simp [A.ids, O.ids, upd_app]))
    case mle => repeat (first | exact mle_nil _ | exact mle_refl _ | refine mle_upd ?_ (by first | rfl | (simp only [upd_app, killM_app, Nat.reduceEqDiff, reduceIte]; done)))
    case sle => repeat (first | exact sle_top _ | exact sle_refl _ | refine sle_upd ?_ (by first | rfl | (simp only [upd_app, entry_zero, entry_succ, Nat.reduceEqDiff, reduceIte]; done)))
  case round =>
    rintro k ⟨hk, hall⟩
    repeat (first | refine W.seq ?_ | refine W.block ?_ | refine W.skip ?_ | refine W.exit ?_ | refine W.region tab_ok 0 (by decide) (exec_run (by simp only [exec, stepQ, wantA, yieldA, kind, qv, qv1, qv2, stO, adrId, dataC, replC, eqNil, binNil, shiftInt, A.down, A1.up, downs, toR, ev, putS, rowO, ofConst, cellsA, cellsC, asC, asCs, ld, ldR, bin, binInt, binStr, binBool, sliceOf, bndOf, repl, fillC, zeroC, chunks, ptrIds, tabs, upd_app, mem_nil_app, entry_zero, entry_succ, entry_nil, top_app, maxStr, ByteArray.size, A.kill, O.kill, killS_app, killM_app, Nat.reduceAdd, Nat.reduceLeDiff, Nat.reduceEqDiff, Nat.reduceMul, Int.reduceToNat, reduceIte, wf_i64, Int.reduceLE, Int.reduceNeg, beq_self_eq_true, decide_true, decide_false, ybeq_some, ybeq_none, beqT, beqF, empty_toList, exs]; rfl)) ?_)
    refine W.cond rfl ?_ ?_
    · intro hlt
      simp only [decide_eq_true_eq, Int.ofNat_lt] at hlt
      obtain ⟨x, hx⟩ : ∃ x, cs[k]? = some x := ⟨_, List.getElem?_eq_getElem hlt⟩
      repeat (first | refine W.seq ?_ | refine W.block ?_ | refine W.skip ?_ | refine W.exit ?_ | refine W.region tab_ok 0 (by decide) (exec_run (by simp only [exec, stepQ, wantA, yieldA, kind, qv, qv1, qv2, stO, adrId, dataC, replC, eqNil, binNil, shiftInt, A.down, A1.up, downs, toR, ev, putS, rowO, ofConst, cellsA, cellsC, asC, asCs, ld, ldR, bin, binInt, binStr, binBool, sliceOf, bndOf, repl, fillC, zeroC, chunks, ptrIds, tabs, upd_app, mem_nil_app, entry_zero, entry_succ, entry_nil, top_app, maxStr, ByteArray.size, A.kill, O.kill, killS_app, killM_app, Nat.reduceAdd, Nat.reduceLeDiff, Nat.reduceEqDiff, Nat.reduceMul, Int.reduceToNat, reduceIte, wf_i64, Int.reduceLE, Int.reduceNeg, beq_self_eq_true, decide_true, decide_false, ybeq_some, ybeq_none, beqT, beqF, empty_toList, exs, at_map hx, cClass]; rfl)) ?_)
      refine W.cond rfl ?_ ?_
      · intro heq
        repeat (first | refine W.seq ?_ | refine W.block ?_ | refine W.skip ?_ | refine W.exit ?_ | refine W.region tab_ok 0 (by decide) (exec_run (by simp only [exec, stepQ, wantA, yieldA, kind, qv, qv1, qv2, stO, adrId, dataC, replC, eqNil, binNil, shiftInt, A.down, A1.up, downs, toR, ev, putS, rowO, ofConst, cellsA, cellsC, asC, asCs, ld, ldR, bin, binInt, binStr, binBool, sliceOf, bndOf, repl, fillC, zeroC, chunks, ptrIds, tabs, upd_app, mem_nil_app, entry_zero, entry_succ, entry_nil, top_app, maxStr, ByteArray.size, A.kill, O.kill, killS_app, killM_app, Nat.reduceAdd, Nat.reduceLeDiff, Nat.reduceEqDiff, Nat.reduceMul, Int.reduceToNat, reduceIte, wf_i64, Int.reduceLE, Int.reduceNeg, beq_self_eq_true, decide_true, decide_false, ybeq_some, ybeq_none, beqT, beqF, empty_toList, exs]; rfl)) ?_)
        refine W.ret ⟨.inr rfl, by rfl, ?_⟩
        simp only [Try.f55, resA, resOne, toT, fin, exec, stepQ, wantA, yieldA, kind, qv, qv1, qv2, stO, adrId, dataC, replC, eqNil, binNil, shiftInt, A.down, A1.up, downs, toR, ev, putS, rowO, ofConst, cellsA, cellsC, asC, asCs, ld, ldR, bin, binInt, binStr, binBool, sliceOf, bndOf, repl, fillC, zeroC, chunks, ptrIds, tabs, upd_app, mem_nil_app, entry_zero, entry_succ, entry_nil, top_app, maxStr, ByteArray.size, A.kill, O.kill, killS_app, killM_app, Nat.reduceAdd, Nat.reduceLeDiff, Nat.reduceEqDiff, Nat.reduceMul, Int.reduceToNat, reduceIte, wf_i64, Int.reduceLE, Int.reduceNeg, beq_self_eq_true, decide_true, decide_false, ybeq_some, ybeq_none, beqT, beqF, empty_toList, exs]
        simp [(find_none hall hx).1 heq, foundC, classD, cClass]
      · intro hne
        repeat (first | refine W.seq ?_ | refine W.block ?_ | refine W.skip ?_ | refine W.exit ?_ | refine W.region tab_ok 0 (by decide) (exec_run (by simp only [exec, stepQ, wantA, yieldA, kind, qv, qv1, qv2, stO, adrId, dataC, replC, eqNil, binNil, shiftInt, A.down, A1.up, downs, toR, ev, putS, rowO, ofConst, cellsA, cellsC, asC, asCs, ld, ldR, bin, binInt, binStr, binBool, sliceOf, bndOf, repl, fillC, zeroC, chunks, ptrIds, tabs, upd_app, mem_nil_app, entry_zero, entry_succ, entry_nil, top_app, maxStr, ByteArray.size, A.kill, O.kill, killS_app, killM_app, Nat.reduceAdd, Nat.reduceLeDiff, Nat.reduceEqDiff, Nat.reduceMul, Int.reduceToNat, reduceIte, wf_i64, Int.reduceLE, Int.reduceNeg, beq_self_eq_true, decide_true, decide_false, ybeq_some, ybeq_none, beqT, beqF, empty_toList, exs]; rfl)) ?_)
        refine ⟨k + 1, ⟨hlt, (find_none hall hx).2 hne⟩, by omega, ?_⟩
        refine le_mk ?sle ?mle ?swf ?mwf ?kept (by rfl)
        case kept => exact kept_not hkeep
        case swf => repeat (first | exact swf_top _ | refine swf_upd ?_ (by simp [A.ids, upd_app]))
        case mwf => repeat (first | exact mwf_nil _ | refine mwf_upd ?_ (by simp [A.ids, O.ids, upd_app]))
        case mle => repeat (first | exact mle_nil _ | exact mle_refl _ | refine mle_upd ?_ (by first | rfl | (simp only [upd_app, killM_app, Nat.reduceEqDiff, reduceIte, wrap_succ (show k + 1 < 9223372036854775808 by omega)]; done)))
        case sle => repeat (first | exact sle_top _ | exact sle_refl _ | refine sle_upd ?_ (by first | rfl | (simp only [upd_app, entry_zero, entry_succ, Nat.reduceEqDiff, reduceIte, wrap_succ (show k + 1 < 9223372036854775808 by omega)]; done)))
    · intro hge
      simp only [decide_eq_false_iff_not, Int.ofNat_lt] at hge
      obtain rfl : k = cs.length := by omega
      rw [List.take_length] at hall
      repeat (first | refine W.seq ?_ | refine W.block ?_ | refine W.skip ?_ | refine W.exit ?_ | refine W.region tab_ok 0 (by decide) (exec_run (by simp only [exec, stepQ, wantA, yieldA, kind, qv, qv1, qv2, stO, adrId, dataC, replC, eqNil, binNil, shiftInt, A.down, A1.up, downs, toR, ev, putS, rowO, ofConst, cellsA, cellsC, asC, asCs, ld, ldR, bin, binInt, binStr, binBool, sliceOf, bndOf, repl, fillC, zeroC, chunks, ptrIds, tabs, upd_app, mem_nil_app, entry_zero, entry_succ, entry_nil, top_app, maxStr, ByteArray.size, A.kill, O.kill, killS_app, killM_app, Nat.reduceAdd, Nat.reduceLeDiff, Nat.reduceEqDiff, Nat.reduceMul, Int.reduceToNat, reduceIte, wf_i64, Int.reduceLE, Int.reduceNeg, beq_self_eq_true, decide_true, decide_false, ybeq_some, ybeq_none, beqT, beqF, empty_toList, exs]; rfl)) ?_)
      refine W.ret ⟨.inr rfl, by rfl, ?_⟩
      simp only [Try.f55, resA, resOne, toT, fin, exec, stepQ, wantA, yieldA, kind, qv, qv1, qv2, stO, adrId, dataC, replC, eqNil, binNil, shiftInt, A.down, A1.up, downs, toR, ev, putS, rowO, ofConst, cellsA, cellsC, asC, asCs, ld, ldR, bin, binInt, binStr, binBool, sliceOf, bndOf, repl, fillC, zeroC, chunks, ptrIds, tabs, upd_app, mem_nil_app, entry_zero, entry_succ, entry_nil, top_app, maxStr, ByteArray.size, A.kill, O.kill, killS_app, killM_app, Nat.reduceAdd, Nat.reduceLeDiff, Nat.reduceEqDiff, Nat.reduceMul, Int.reduceToNat, reduceIte, wf_i64, Int.reduceLE, Int.reduceNeg, beq_self_eq_true, decide_true, decide_false, ybeq_some, ybeq_none, beqT, beqF, empty_toList, exs]
      simp [hall, foundC, classD, cClass]
/-- A class and all above it, at most k. -/
def chainF (cs : List Class) : Nat → ByteArray → List ByteArray
  | 0, _ => []
  | k + 1, name => match cs.find? (nameIs name) with
    | none => []
    | some c => name :: chainF cs k c.super
def cStr (s : ByteArray) : List C := [.str s]
theorem chain_ok (cs : List Class) (mn : C) (name : ByteArray) (hlen : cs.length ≤ 1000000000) (m : Mem) : COk Try.prog 29 [.agg [.sl (cs.map cClass), mn], .c (.str name)] m (.c (.sl ((chainF cs (cs.length + 1) name).map cStr))) := by
  refine (ok_pure tab_ok Try.func29 (by kernel_rfl) rfl rfl (by rfl) (by rfl) (by rfl) (fun R hkeep => ?_) m)
  repeat (first | refine W.seq ?_ | refine W.block ?_ | refine W.skip ?_ | refine W.exit ?_ | refine W.region tab_ok 0 (by decide) (exec_run (by simp only [exec, stepQ, wantA, yieldA, kind, qv, qv1, qv2, stO, adrId, dataC, replC, eqNil, binNil, shiftInt, A.down, A1.up, downs, toR, ev, putS, rowO, ofConst, cellsA, cellsC, asC, asCs, ld, ldR, bin, binInt, binStr, binBool, sliceOf, bndOf, repl, fillC, zeroC, chunks, ptrIds, tabs, upd_app, mem_nil_app, entry_zero, entry_succ, entry_nil, top_app, maxStr, ByteArray.size, A.kill, O.kill, killS_app, killM_app, Nat.reduceAdd, Nat.reduceLeDiff, Nat.reduceEqDiff, Nat.reduceMul, Int.reduceToNat, reduceIte, wf_i64, Int.reduceLE, Int.reduceNeg, beq_self_eq_true, decide_true, decide_false, ybeq_some, ybeq_none, beqT, beqF, empty_toList, exs, wrap_succ (show cs.length + 1 < 9223372036854775808 by omega)]; rfl)) ?_)
  refine W.newArr 5 5 9 1 rfl rfl ?_
  refine W.loop (ι := Nat × ByteArray × List ByteArray) (fun i => ⟨upd (upd (upd (upd (upd (fun _ => .top) 1 (.c (.str i.2.1))) 2 (.ptr 2 0)) 5 (.own 5)) 11 (.c (.int .i64 ((cs.length + 1 : Nat) : Int)))) 12 (.c (.int .i64 i.1)), 
     upd (upd Mem.nil 2 (some (.box 25 [.c (.sl (cs.map cClass)), .c mn]))) 5 (some (.arr 9 1 (i.2.2.map cStr)))⟩) (fun i => i.1 ≤ cs.length + 1 ∧ i.2.2.length = i.1 ∧ chainF cs (cs.length + 1) name = i.2.2 ++ chainF cs (cs.length + 1 - i.1) i.2.1) (fun i => cs.length + 1 - i.1) (0, name, []) ?start ⟨Nat.zero_le _, rfl, rfl⟩ ?round
  case start =>
    refine le_mk ?sle ?mle ?swf ?mwf ?kept (by rfl)
    case kept => exact kept_not hkeep
    case swf => repeat (first | exact swf_top _ | refine swf_upd ?_ (by simp [A.ids, upd_app]))
    case mwf => repeat (first | exact mwf_nil _ | refine mwf_upd ?_ (by simp [A.ids, O.ids, upd_app]))
    case mle => repeat (first | exact mle_nil _ | exact mle_refl _ | refine mle_upd ?_ (by first | rfl | (simp only [upd_app, killM_app, Nat.reduceEqDiff, reduceIte]; done)))
    case sle => repeat (first | exact sle_top _ | exact sle_refl _ | refine sle_upd ?_ (by first | rfl | (simp only [upd_app, entry_zero, entry_succ, Nat.reduceEqDiff, reduceIte]; done)))
  case round =>
    rintro ⟨k, nm, acc⟩ ⟨hk, hl, hall⟩
    dsimp only at hk hl hall ⊢
    repeat (first | refine W.seq ?_ | refine W.block ?_ | refine W.skip ?_ | refine W.exit ?_ | refine W.region tab_ok 0 (by decide) (exec_run (by simp only [exec, stepQ, wantA, yieldA, kind, qv, qv1, qv2, stO, adrId, dataC, replC, eqNil, binNil, shiftInt, A.down, A1.up, downs, toR, ev, putS, rowO, ofConst, cellsA, cellsC, asC, asCs, ld, ldR, bin, binInt, binStr, binBool, sliceOf, bndOf, repl, fillC, zeroC, chunks, ptrIds, tabs, upd_app, mem_nil_app, entry_zero, entry_succ, entry_nil, top_app, maxStr, ByteArray.size, A.kill, O.kill, killS_app, killM_app, Nat.reduceAdd, Nat.reduceLeDiff, Nat.reduceEqDiff, Nat.reduceMul, Int.reduceToNat, reduceIte, wf_i64, Int.reduceLE, Int.reduceNeg, beq_self_eq_true, decide_true, decide_false, ybeq_some, ybeq_none, beqT, beqF, empty_toList, exs]; rfl)) ?_)
    refine W.cond rfl ?_ ?_
    · intro hlt
      simp only [decide_eq_true_eq, Int.ofNat_lt] at hlt
      repeat (first | refine W.seq ?_ | refine W.block ?_ | refine W.skip ?_ | refine W.exit ?_ | refine W.region tab_ok 0 (by decide) (exec_run (by simp only [exec, stepQ, wantA, yieldA, kind, qv, qv1, qv2, stO, adrId, dataC, replC, eqNil, binNil, shiftInt, A.down, A1.up, downs, toR, ev, putS, rowO, ofConst, cellsA, cellsC, asC, asCs, ld, ldR, bin, binInt, binStr, binBool, sliceOf, bndOf, repl, fillC, zeroC, chunks, ptrIds, tabs, upd_app, mem_nil_app, entry_zero, entry_succ, entry_nil, top_app, maxStr, ByteArray.size, A.kill, O.kill, killS_app, killM_app, Nat.reduceAdd, Nat.reduceLeDiff, Nat.reduceEqDiff, Nat.reduceMul, Int.reduceToNat, reduceIte, wf_i64, Int.reduceLE, Int.reduceNeg, beq_self_eq_true, decide_true, decide_false, ybeq_some, ybeq_none, beqT, beqF, empty_toList, exs]; rfl)) ?_)
      cases hf : cs.find? (nameIs nm) with
      | none =>
        refine W.regionK tab_ok 0 (by decide) ?_
        refine runk_split 2 (by simp only [exec, stepQ, wantA, yieldA, kind, qv, qv1, qv2, stO, adrId, dataC, replC, eqNil, binNil, shiftInt, A.down, A1.up, downs, toR, ev, putS, rowO, ofConst, cellsA, cellsC, asC, asCs, ld, ldR, bin, binInt, binStr, binBool, sliceOf, bndOf, repl, fillC, zeroC, chunks, ptrIds, tabs, upd_app, mem_nil_app, entry_zero, entry_succ, entry_nil, top_app, maxStr, ByteArray.size, A.kill, O.kill, killS_app, killM_app, Nat.reduceAdd, Nat.reduceLeDiff, Nat.reduceEqDiff, Nat.reduceMul, Int.reduceToNat, reduceIte, wf_i64, Int.reduceLE, Int.reduceNeg, beq_self_eq_true, decide_true, decide_false, ybeq_some, ybeq_none, beqT, beqF, empty_toList, exs]; rfl) ?_
        refine runk_call rfl rfl rfl rfl rfl (by simp) (cvs_cons cv_refl (cvs_cons cv_refl cvs_nil)) (find_ok cs mn nm (by omega) _) ?_
        refine runk_exec (by simp only [exec, stepQ, wantA, yieldA, kind, qv, qv1, qv2, stO, adrId, dataC, replC, eqNil, binNil, shiftInt, A.down, A1.up, downs, toR, ev, putS, rowO, ofConst, cellsA, cellsC, asC, asCs, ld, ldR, bin, binInt, binStr, binBool, sliceOf, bndOf, repl, fillC, zeroC, chunks, ptrIds, tabs, upd_app, mem_nil_app, entry_zero, entry_succ, entry_nil, top_app, maxStr, ByteArray.size, A.kill, O.kill, killS_app, killM_app, Nat.reduceAdd, Nat.reduceLeDiff, Nat.reduceEqDiff, Nat.reduceMul, Int.reduceToNat, reduceIte, wf_i64, Int.reduceLE, Int.reduceNeg, beq_self_eq_true, decide_true, decide_false, ybeq_some, ybeq_none, beqT, beqF, empty_toList, exs, foundC, hf, cClass, Option.isSome_none]; rfl) ?_
        repeat (first | refine W.seq ?_ | refine W.block ?_ | refine W.skip ?_ | refine W.exit ?_ | refine W.region tab_ok 0 (by decide) (exec_run (by simp only [exec, stepQ, wantA, yieldA, kind, qv, qv1, qv2, stO, adrId, dataC, replC, eqNil, binNil, shiftInt, A.down, A1.up, downs, toR, ev, putS, rowO, ofConst, cellsA, cellsC, asC, asCs, ld, ldR, bin, binInt, binStr, binBool, sliceOf, bndOf, repl, fillC, zeroC, chunks, ptrIds, tabs, upd_app, mem_nil_app, entry_zero, entry_succ, entry_nil, top_app, maxStr, ByteArray.size, A.kill, O.kill, killS_app, killM_app, Nat.reduceAdd, Nat.reduceLeDiff, Nat.reduceEqDiff, Nat.reduceMul, Int.reduceToNat, reduceIte, wf_i64, Int.reduceLE, Int.reduceNeg, beq_self_eq_true, decide_true, decide_false, ybeq_some, ybeq_none, beqT, beqF, empty_toList, exs]; rfl)) ?_)
        refine W.cond rfl ?_ ?_
        · intro _
          repeat (first | refine W.seq ?_ | refine W.block ?_ | refine W.skip ?_ | refine W.exit ?_ | refine W.region tab_ok 0 (by decide) (exec_run (by simp only [exec, stepQ, wantA, yieldA, kind, qv, qv1, qv2, stO, adrId, dataC, replC, eqNil, binNil, shiftInt, A.down, A1.up, downs, toR, ev, putS, rowO, ofConst, cellsA, cellsC, asC, asCs, ld, ldR, bin, binInt, binStr, binBool, sliceOf, bndOf, repl, fillC, zeroC, chunks, ptrIds, tabs, upd_app, mem_nil_app, entry_zero, entry_succ, entry_nil, top_app, maxStr, ByteArray.size, A.kill, O.kill, killS_app, killM_app, Nat.reduceAdd, Nat.reduceLeDiff, Nat.reduceEqDiff, Nat.reduceMul, Int.reduceToNat, reduceIte, wf_i64, Int.reduceLE, Int.reduceNeg, beq_self_eq_true, decide_true, decide_false, ybeq_some, ybeq_none, beqT, beqF, empty_toList, exs]; rfl)) ?_)
          refine W.ret ⟨.inr rfl, by rfl, ?_⟩
          simp only [Try.f29, resA, resOne, toT, fin, exec, stepQ, wantA, yieldA, kind, qv, qv1, qv2, stO, adrId, dataC, replC, eqNil, binNil, shiftInt, A.down, A1.up, downs, toR, ev, putS, rowO, ofConst, cellsA, cellsC, asC, asCs, ld, ldR, bin, binInt, binStr, binBool, sliceOf, bndOf, repl, fillC, zeroC, chunks, ptrIds, tabs, upd_app, mem_nil_app, entry_zero, entry_succ, entry_nil, top_app, maxStr, ByteArray.size, A.kill, O.kill, killS_app, killM_app, Nat.reduceAdd, Nat.reduceLeDiff, Nat.reduceEqDiff, Nat.reduceMul, Int.reduceToNat, reduceIte, wf_i64, Int.reduceLE, Int.reduceNeg, beq_self_eq_true, decide_true, decide_false, ybeq_some, ybeq_none, beqT, beqF, empty_toList, exs]
          have e : cs.length + 1 - k = (cs.length - k) + 1 := by omega
          rw [hall, e]
          simp [chainF, hf]
        · intro h; cases h
      | some c =>
        refine W.regionK tab_ok 0 (by decide) ?_
        refine runk_split 2 (by simp only [exec, stepQ, wantA, yieldA, kind, qv, qv1, qv2, stO, adrId, dataC, replC, eqNil, binNil, shiftInt, A.down, A1.up, downs, toR, ev, putS, rowO, ofConst, cellsA, cellsC, asC, asCs, ld, ldR, bin, binInt, binStr, binBool, sliceOf, bndOf, repl, fillC, zeroC, chunks, ptrIds, tabs, upd_app, mem_nil_app, entry_zero, entry_succ, entry_nil, top_app, maxStr, ByteArray.size, A.kill, O.kill, killS_app, killM_app, Nat.reduceAdd, Nat.reduceLeDiff, Nat.reduceEqDiff, Nat.reduceMul, Int.reduceToNat, reduceIte, wf_i64, Int.reduceLE, Int.reduceNeg, beq_self_eq_true, decide_true, decide_false, ybeq_some, ybeq_none, beqT, beqF, empty_toList, exs]; rfl) ?_
        refine runk_call rfl rfl rfl rfl rfl (by simp) (cvs_cons cv_refl (cvs_cons cv_refl cvs_nil)) (find_ok cs mn nm (by omega) _) ?_
        refine runk_exec (by simp only [exec, stepQ, wantA, yieldA, kind, qv, qv1, qv2, stO, adrId, dataC, replC, eqNil, binNil, shiftInt, A.down, A1.up, downs, toR, ev, putS, rowO, ofConst, cellsA, cellsC, asC, asCs, ld, ldR, bin, binInt, binStr, binBool, sliceOf, bndOf, repl, fillC, zeroC, chunks, ptrIds, tabs, upd_app, mem_nil_app, entry_zero, entry_succ, entry_nil, top_app, maxStr, ByteArray.size, A.kill, O.kill, killS_app, killM_app, Nat.reduceAdd, Nat.reduceLeDiff, Nat.reduceEqDiff, Nat.reduceMul, Int.reduceToNat, reduceIte, wf_i64, Int.reduceLE, Int.reduceNeg, beq_self_eq_true, decide_true, decide_false, ybeq_some, ybeq_none, beqT, beqF, empty_toList, exs, foundC, hf, cClass, Option.isSome_some]; rfl) ?_
        repeat (first | refine W.seq ?_ | refine W.block ?_ | refine W.skip ?_ | refine W.exit ?_ | refine W.region tab_ok 0 (by decide) (exec_run (by simp only [exec, stepQ, wantA, yieldA, kind, qv, qv1, qv2, stO, adrId, dataC, replC, eqNil, binNil, shiftInt, A.down, A1.up, downs, toR, ev, putS, rowO, ofConst, cellsA, cellsC, asC, asCs, ld, ldR, bin, binInt, binStr, binBool, sliceOf, bndOf, repl, fillC, zeroC, chunks, ptrIds, tabs, upd_app, mem_nil_app, entry_zero, entry_succ, entry_nil, top_app, maxStr, ByteArray.size, A.kill, O.kill, killS_app, killM_app, Nat.reduceAdd, Nat.reduceLeDiff, Nat.reduceEqDiff, Nat.reduceMul, Int.reduceToNat, reduceIte, wf_i64, Int.reduceLE, Int.reduceNeg, beq_self_eq_true, decide_true, decide_false, ybeq_some, ybeq_none, beqT, beqF, empty_toList, exs]; rfl)) ?_)
        refine W.cond rfl ?_ ?_
        · intro h; cases h
        · intro _
          repeat (first | refine W.seq ?_ | refine W.block ?_ | refine W.skip ?_ | refine W.exit ?_ | refine W.region tab_ok 0 (by decide) (exec_run (by simp only [exec, stepQ, wantA, yieldA, kind, qv, qv1, qv2, stO, adrId, dataC, replC, eqNil, binNil, shiftInt, A.down, A1.up, downs, toR, ev, putS, rowO, ofConst, cellsA, cellsC, asC, asCs, ld, ldR, bin, binInt, binStr, binBool, sliceOf, bndOf, repl, fillC, zeroC, chunks, ptrIds, tabs, upd_app, mem_nil_app, entry_zero, entry_succ, entry_nil, top_app, maxStr, ByteArray.size, A.kill, O.kill, killS_app, killM_app, Nat.reduceAdd, Nat.reduceLeDiff, Nat.reduceEqDiff, Nat.reduceMul, Int.reduceToNat, reduceIte, wf_i64, Int.reduceLE, Int.reduceNeg, beq_self_eq_true, decide_true, decide_false, ybeq_some, ybeq_none, beqT, beqF, empty_toList, exs]; rfl)) ?_)
          refine W.regionK tab_ok 0 (by decide) ?_
          refine runk_split 3 (by simp only [exec, stepQ, wantA, yieldA, kind, qv, qv1, qv2, stO, adrId, dataC, replC, eqNil, binNil, shiftInt, A.down, A1.up, downs, toR, ev, putS, rowO, ofConst, cellsA, cellsC, asC, asCs, ld, ldR, bin, binInt, binStr, binBool, sliceOf, bndOf, repl, fillC, zeroC, chunks, ptrIds, tabs, upd_app, mem_nil_app, entry_zero, entry_succ, entry_nil, top_app, maxStr, ByteArray.size, A.kill, O.kill, killS_app, killM_app, Nat.reduceAdd, Nat.reduceLeDiff, Nat.reduceEqDiff, Nat.reduceMul, Int.reduceToNat, reduceIte, wf_i64, Int.reduceLE, Int.reduceNeg, beq_self_eq_true, decide_true, decide_false, ybeq_some, ybeq_none, beqT, beqF, empty_toList, exs]; rfl) ?_
          refine runk_append tab_ok 5 rfl rfl rfl rfl rfl rfl rfl rfl (by first | rfl | (simp only [exec, stepQ, wantA, yieldA, kind, qv, qv1, qv2, stO, adrId, dataC, replC, eqNil, binNil, shiftInt, A.down, A1.up, downs, toR, ev, putS, rowO, ofConst, cellsA, cellsC, asC, asCs, ld, ldR, bin, binInt, binStr, binBool, sliceOf, bndOf, repl, fillC, zeroC, chunks, ptrIds, tabs, upd_app, mem_nil_app, entry_zero, entry_succ, entry_nil, top_app, maxStr, ByteArray.size, A.kill, O.kill, killS_app, killM_app, Nat.reduceAdd, Nat.reduceLeDiff, Nat.reduceEqDiff, Nat.reduceMul, Int.reduceToNat, reduceIte, wf_i64, Int.reduceLE, Int.reduceNeg, beq_self_eq_true, decide_true, decide_false, ybeq_some, ybeq_none, beqT, beqF, empty_toList, exs]; rfl)) rfl rfl rfl rfl (nokeep hkeep) (by simp) (by simp; omega) (by decide) ?_
          refine runk_exec (by simp only [exec, stepQ, wantA, yieldA, kind, qv, qv1, qv2, stO, adrId, dataC, replC, eqNil, binNil, shiftInt, A.down, A1.up, downs, toR, ev, putS, rowO, ofConst, cellsA, cellsC, asC, asCs, ld, ldR, bin, binInt, binStr, binBool, sliceOf, bndOf, repl, fillC, zeroC, chunks, ptrIds, tabs, upd_app, mem_nil_app, entry_zero, entry_succ, entry_nil, top_app, maxStr, ByteArray.size, A.kill, O.kill, killS_app, killM_app, Nat.reduceAdd, Nat.reduceLeDiff, Nat.reduceEqDiff, Nat.reduceMul, Int.reduceToNat, reduceIte, wf_i64, Int.reduceLE, Int.reduceNeg, beq_self_eq_true, decide_true, decide_false, ybeq_some, ybeq_none, beqT, beqF, empty_toList, exs]; rfl) ?_
          repeat (first | refine W.seq ?_ | refine W.block ?_ | refine W.skip ?_ | refine W.exit ?_ | refine W.region tab_ok 0 (by decide) (exec_run (by simp only [exec, stepQ, wantA, yieldA, kind, qv, qv1, qv2, stO, adrId, dataC, replC, eqNil, binNil, shiftInt, A.down, A1.up, downs, toR, ev, putS, rowO, ofConst, cellsA, cellsC, asC, asCs, ld, ldR, bin, binInt, binStr, binBool, sliceOf, bndOf, repl, fillC, zeroC, chunks, ptrIds, tabs, upd_app, mem_nil_app, entry_zero, entry_succ, entry_nil, top_app, maxStr, ByteArray.size, A.kill, O.kill, killS_app, killM_app, Nat.reduceAdd, Nat.reduceLeDiff, Nat.reduceEqDiff, Nat.reduceMul, Int.reduceToNat, reduceIte, wf_i64, Int.reduceLE, Int.reduceNeg, beq_self_eq_true, decide_true, decide_false, ybeq_some, ybeq_none, beqT, beqF, empty_toList, exs]; rfl)) ?_)
          refine ⟨(k + 1, (classD cs nm).super, acc ++ [nm]), ⟨hlt, by simp [hl], ?_⟩, by dsimp only; omega, ?_⟩
          · have e : cs.length + 1 - k = (cs.length + 1 - (k + 1)) + 1 := by omega
            rw [hall, e]
            simp [chainF, hf, classD]
          refine le_mk ?sle ?mle ?swf ?mwf ?kept (by rfl)
          case kept => exact kept_not hkeep
          case swf => repeat (first | exact swf_top _ | refine swf_upd ?_ (by simp [A.ids, upd_app]))
          case mwf => repeat (first | exact mwf_nil _ | refine mwf_upd ?_ (by simp [A.ids, O.ids, upd_app]))
          case mle => repeat (first | exact mle_nil _ | exact mle_refl _ | refine mle_upd ?_ (by first | rfl | (simp only [upd_app, killM_app, Nat.reduceEqDiff, reduceIte, wrap_succ (show k + 1 < 9223372036854775808 by omega), List.map_append, List.map_cons, List.map_nil, cStr]; done)))
          case sle => repeat (first | exact sle_top _ | exact sle_refl _ | refine sle_upd ?_ (by first | rfl | (simp only [upd_app, entry_zero, entry_succ, Nat.reduceEqDiff, reduceIte, wrap_succ (show k + 1 < 9223372036854775808 by omega), List.map_append, List.map_cons, List.map_nil, cStr]; done)))
    · intro hge
      simp only [decide_eq_false_iff_not, Int.ofNat_lt] at hge
      obtain rfl : k = cs.length + 1 := by omega
      repeat (first | refine W.seq ?_ | refine W.block ?_ | refine W.skip ?_ | refine W.exit ?_ | refine W.region tab_ok 0 (by decide) (exec_run (by simp only [exec, stepQ, wantA, yieldA, kind, qv, qv1, qv2, stO, adrId, dataC, replC, eqNil, binNil, shiftInt, A.down, A1.up, downs, toR, ev, putS, rowO, ofConst, cellsA, cellsC, asC, asCs, ld, ldR, bin, binInt, binStr, binBool, sliceOf, bndOf, repl, fillC, zeroC, chunks, ptrIds, tabs, upd_app, mem_nil_app, entry_zero, entry_succ, entry_nil, top_app, maxStr, ByteArray.size, A.kill, O.kill, killS_app, killM_app, Nat.reduceAdd, Nat.reduceLeDiff, Nat.reduceEqDiff, Nat.reduceMul, Int.reduceToNat, reduceIte, wf_i64, Int.reduceLE, Int.reduceNeg, beq_self_eq_true, decide_true, decide_false, ybeq_some, ybeq_none, beqT, beqF, empty_toList, exs]; rfl)) ?_)
      refine W.ret ⟨.inr rfl, by rfl, ?_⟩
      simp only [Try.f29, resA, resOne, toT, fin, exec, stepQ, wantA, yieldA, kind, qv, qv1, qv2, stO, adrId, dataC, replC, eqNil, binNil, shiftInt, A.down, A1.up, downs, toR, ev, putS, rowO, ofConst, cellsA, cellsC, asC, asCs, ld, ldR, bin, binInt, binStr, binBool, sliceOf, bndOf, repl, fillC, zeroC, chunks, ptrIds, tabs, upd_app, mem_nil_app, entry_zero, entry_succ, entry_nil, top_app, maxStr, ByteArray.size, A.kill, O.kill, killS_app, killM_app, Nat.reduceAdd, Nat.reduceLeDiff, Nat.reduceEqDiff, Nat.reduceMul, Int.reduceToNat, reduceIte, wf_i64, Int.reduceLE, Int.reduceNeg, beq_self_eq_true, decide_true, decide_false, ybeq_some, ybeq_none, beqT, beqF, empty_toList, exs]
      rw [hall]
      simp [chainF]
end V
end Go.Proofs.Ytjciafpihdbedaa
end
section
/- The document's classes, over plain data: names that stand twice. -/
namespace Go.Proofs.Ytjciafpihdbedaa
namespace V
open Go.RowKit
set_option linter.unusedSimpArgs false
def eqAt (l : List Slot) (i k : Nat) : Bool := match l[i]?, l[k]? with | some x, some y => x.name.toList == y.name.toList | _, _ => false
def twiceB (l : List Slot) : Bool := (List.range l.length).any fun i => (List.range i).any fun k => eqAt l i k
theorem any_range {p : Nat → Bool} {n i : Nat} (hi : i < n) (h : p i = true) : (List.range n).any p = true := List.any_eq_true.2 ⟨i, List.mem_range.2 hi, h⟩
theorem none_range {p : Nat → Bool} {n : Nat} (h : ∀ i < n, p i = false) : (List.range n).any p = false := List.any_eq_false.2 fun i hi => by simp [h i (List.mem_range.1 hi)]
theorem twice_ok (l : List Slot) (hlen : l.length ≤ 1000000000000) (m : Mem) : COk Try.prog 30 [.c (.sl (l.map cSlot))] m (.c (.bool (twiceB l))) := by
  refine (ok_pure tab_ok Try.func30 (by kernel_rfl) rfl rfl (by rfl) (by rfl) (by rfl) (fun R hkeep => ?_) m)
  repeat (first | refine W.seq ?_ | refine W.block ?_ | refine W.skip ?_ | refine W.exit ?_ | refine W.region tab_ok 0 (by decide) (exec_run (by simp only [exec, stepQ, wantA, yieldA, kind, qv, qv1, qv2, stO, adrId, dataC, replC, eqNil, binNil, shiftInt, A.down, A1.up, downs, toR, ev, putS, rowO, ofConst, cellsA, cellsC, asC, asCs, ld, ldR, bin, binInt, binStr, binBool, sliceOf, bndOf, repl, fillC, zeroC, chunks, ptrIds, tabs, upd_app, mem_nil_app, entry_zero, entry_succ, entry_nil, top_app, maxStr, ByteArray.size, A.kill, O.kill, killS_app, killM_app, Nat.reduceAdd, Nat.reduceLeDiff, Nat.reduceEqDiff, Nat.reduceMul, Int.reduceToNat, reduceIte, wf_i64, Int.reduceLE, Int.reduceNeg, beq_self_eq_true, decide_true, decide_false, ybeq_some, ybeq_none, beqT, beqF, empty_toList, exs]; rfl)) ?_)
  refine W.loop (ι := Nat) (fun i => ⟨upd (upd (upd (fun _ => .top) 0 (.c (.sl (l.map cSlot)))) 6 (.c (.int .i64 l.length))) 7 (.c (.int .i64 i)), Mem.nil⟩)
    (fun i => i ≤ l.length ∧ ∀ j < i, (List.range j).any (eqAt l j) = false) (fun i => l.length - i) 0 ?start ⟨Nat.zero_le _, fun j hj => by omega⟩ ?round
  case start =>
    refine le_mk ?sle ?mle ?swf ?mwf ?kept (by rfl)
    case kept => exact kept_not hkeep
    case swf => repeat (first | exact swf_top _ | refine swf_upd ?_ (by simp [A.ids, upd_app]))
    case mwf => repeat (first | exact mwf_nil _ | refine mwf_upd ?_ (by simp [A.ids, O.ids, upd_app]))
    case mle => repeat (first | exact mle_nil _ | exact mle_refl _ | refine mle_upd ?_ (by first | rfl | (simp only [upd_app, killM_app, Nat.reduceEqDiff, reduceIte]; done)))
    case sle => repeat (first | exact sle_top _ | exact sle_refl _ | refine sle_upd ?_ (by first | rfl | (simp only [upd_app, entry_zero, entry_succ, Nat.reduceEqDiff, reduceIte]; done)))
  case round =>
    rintro i ⟨hi, hall⟩
    repeat (first | refine W.seq ?_ | refine W.block ?_ | refine W.skip ?_ | refine W.exit ?_ | refine W.region tab_ok 0 (by decide) (exec_run (by simp only [exec, stepQ, wantA, yieldA, kind, qv, qv1, qv2, stO, adrId, dataC, replC, eqNil, binNil, shiftInt, A.down, A1.up, downs, toR, ev, putS, rowO, ofConst, cellsA, cellsC, asC, asCs, ld, ldR, bin, binInt, binStr, binBool, sliceOf, bndOf, repl, fillC, zeroC, chunks, ptrIds, tabs, upd_app, mem_nil_app, entry_zero, entry_succ, entry_nil, top_app, maxStr, ByteArray.size, A.kill, O.kill, killS_app, killM_app, Nat.reduceAdd, Nat.reduceLeDiff, Nat.reduceEqDiff, Nat.reduceMul, Int.reduceToNat, reduceIte, wf_i64, Int.reduceLE, Int.reduceNeg, beq_self_eq_true, decide_true, decide_false, ybeq_some, ybeq_none, beqT, beqF, empty_toList, exs]; rfl)) ?_)
    refine W.cond rfl ?_ ?_
    · intro hlt
      simp only [decide_eq_true_eq, Int.ofNat_lt] at hlt
      obtain ⟨x, hx⟩ : ∃ x, l[i]? = some x := ⟨_, List.getElem?_eq_getElem hlt⟩
      repeat (first | refine W.seq ?_ | refine W.block ?_ | refine W.skip ?_ | refine W.exit ?_ | refine W.region tab_ok 0 (by decide) (exec_run (by simp only [exec, stepQ, wantA, yieldA, kind, qv, qv1, qv2, stO, adrId, dataC, replC, eqNil, binNil, shiftInt, A.down, A1.up, downs, toR, ev, putS, rowO, ofConst, cellsA, cellsC, asC, asCs, ld, ldR, bin, binInt, binStr, binBool, sliceOf, bndOf, repl, fillC, zeroC, chunks, ptrIds, tabs, upd_app, mem_nil_app, entry_zero, entry_succ, entry_nil, top_app, maxStr, ByteArray.size, A.kill, O.kill, killS_app, killM_app, Nat.reduceAdd, Nat.reduceLeDiff, Nat.reduceEqDiff, Nat.reduceMul, Int.reduceToNat, reduceIte, wf_i64, Int.reduceLE, Int.reduceNeg, beq_self_eq_true, decide_true, decide_false, ybeq_some, ybeq_none, beqT, beqF, empty_toList, exs]; rfl)) ?_)
      refine W.loop (ι := Nat) (fun k => ⟨upd (upd (upd (upd (upd (upd (fun _ => .top) 0 (.c (.sl (l.map cSlot)))) 6 (.c (.int .i64 l.length))) 7 (.c (.int .i64 i))) 3 (.c (.int .i64 i))) 10 (.c (.int .i64 i))) 11 (.c (.int .i64 k)), Mem.nil⟩)
        (fun k => k ≤ i ∧ ∀ j < k, eqAt l i j = false) (fun k => i - k) 0 ?start ⟨Nat.zero_le _, fun j hj => by omega⟩ ?round
      case start =>
        refine le_mk ?sle ?mle ?swf ?mwf ?kept (by rfl)
        case kept => exact kept_not hkeep
        case swf => repeat (first | exact swf_top _ | refine swf_upd ?_ (by simp [A.ids, upd_app]))
        case mwf => repeat (first | exact mwf_nil _ | refine mwf_upd ?_ (by simp [A.ids, O.ids, upd_app]))
        case mle => repeat (first | exact mle_nil _ | exact mle_refl _ | refine mle_upd ?_ (by first | rfl | (simp only [upd_app, killM_app, Nat.reduceEqDiff, reduceIte]; done)))
        case sle => repeat (first | exact sle_top _ | exact sle_refl _ | refine sle_upd ?_ (by first | rfl | (simp only [upd_app, entry_zero, entry_succ, Nat.reduceEqDiff, reduceIte]; done)))
      case round =>
        rintro k ⟨hk, hin⟩
        repeat (first | refine W.seq ?_ | refine W.block ?_ | refine W.skip ?_ | refine W.exit ?_ | refine W.region tab_ok 0 (by decide) (exec_run (by simp only [exec, stepQ, wantA, yieldA, kind, qv, qv1, qv2, stO, adrId, dataC, replC, eqNil, binNil, shiftInt, A.down, A1.up, downs, toR, ev, putS, rowO, ofConst, cellsA, cellsC, asC, asCs, ld, ldR, bin, binInt, binStr, binBool, sliceOf, bndOf, repl, fillC, zeroC, chunks, ptrIds, tabs, upd_app, mem_nil_app, entry_zero, entry_succ, entry_nil, top_app, maxStr, ByteArray.size, A.kill, O.kill, killS_app, killM_app, Nat.reduceAdd, Nat.reduceLeDiff, Nat.reduceEqDiff, Nat.reduceMul, Int.reduceToNat, reduceIte, wf_i64, Int.reduceLE, Int.reduceNeg, beq_self_eq_true, decide_true, decide_false, ybeq_some, ybeq_none, beqT, beqF, empty_toList, exs]; rfl)) ?_)
        refine W.cond rfl ?_ ?_
        · intro hlk
          simp only [decide_eq_true_eq, Int.ofNat_lt] at hlk
          obtain ⟨y, hy⟩ : ∃ y, l[k]? = some y := ⟨_, List.getElem?_eq_getElem (by omega)⟩
          have he : eqAt l i k = (x.name.toList == y.name.toList) := by simp [eqAt, hx, hy]
          repeat (first | refine W.seq ?_ | refine W.block ?_ | refine W.skip ?_ | refine W.exit ?_ | refine W.region tab_ok 0 (by decide) (exec_run (by simp only [exec, stepQ, wantA, yieldA, kind, qv, qv1, qv2, stO, adrId, dataC, replC, eqNil, binNil, shiftInt, A.down, A1.up, downs, toR, ev, putS, rowO, ofConst, cellsA, cellsC, asC, asCs, ld, ldR, bin, binInt, binStr, binBool, sliceOf, bndOf, repl, fillC, zeroC, chunks, ptrIds, tabs, upd_app, mem_nil_app, entry_zero, entry_succ, entry_nil, top_app, maxStr, ByteArray.size, A.kill, O.kill, killS_app, killM_app, Nat.reduceAdd, Nat.reduceLeDiff, Nat.reduceEqDiff, Nat.reduceMul, Int.reduceToNat, reduceIte, wf_i64, Int.reduceLE, Int.reduceNeg, beq_self_eq_true, decide_true, decide_false, ybeq_some, ybeq_none, beqT, beqF, empty_toList, exs]; rfl)) ?_)
          refine W.regionDK tab_ok 0 follows_mixed (by kernel_rfl) (by decide) ?_
          refine runk_exec (by simp only [exec, stepQ, wantA, yieldA, kind, qv, qv1, qv2, stO, adrId, dataC, replC, eqNil, binNil, shiftInt, A.down, A1.up, downs, toR, ev, putS, rowO, ofConst, cellsA, cellsC, asC, asCs, ld, ldR, bin, binInt, binStr, binBool, sliceOf, bndOf, repl, fillC, zeroC, chunks, ptrIds, tabs, upd_app, mem_nil_app, entry_zero, entry_succ, entry_nil, top_app, maxStr, ByteArray.size, A.kill, O.kill, killS_app, killM_app, Nat.reduceAdd, Nat.reduceLeDiff, Nat.reduceEqDiff, Nat.reduceMul, Int.reduceToNat, reduceIte, wf_i64, Int.reduceLE, Int.reduceNeg, beq_self_eq_true, decide_true, decide_false, ybeq_some, ybeq_none, beqT, beqF, empty_toList, exs, at_map hx, at_map hy, cSlot]; rfl) ?_
          refine W.cond rfl ?_ ?_
          · intro heq
            repeat (first | refine W.seq ?_ | refine W.block ?_ | refine W.skip ?_ | refine W.exit ?_ | refine W.region tab_ok 0 (by decide) (exec_run (by simp only [exec, stepQ, wantA, yieldA, kind, qv, qv1, qv2, stO, adrId, dataC, replC, eqNil, binNil, shiftInt, A.down, A1.up, downs, toR, ev, putS, rowO, ofConst, cellsA, cellsC, asC, asCs, ld, ldR, bin, binInt, binStr, binBool, sliceOf, bndOf, repl, fillC, zeroC, chunks, ptrIds, tabs, upd_app, mem_nil_app, entry_zero, entry_succ, entry_nil, top_app, maxStr, ByteArray.size, A.kill, O.kill, killS_app, killM_app, Nat.reduceAdd, Nat.reduceLeDiff, Nat.reduceEqDiff, Nat.reduceMul, Int.reduceToNat, reduceIte, wf_i64, Int.reduceLE, Int.reduceNeg, beq_self_eq_true, decide_true, decide_false, ybeq_some, ybeq_none, beqT, beqF, empty_toList, exs]; rfl)) ?_)
            refine W.ret ⟨.inr rfl, by rfl, ?_⟩
            simp only [Try.f30, resA, resOne, toT, fin, exec, stepQ, wantA, yieldA, kind, qv, qv1, qv2, stO, adrId, dataC, replC, eqNil, binNil, shiftInt, A.down, A1.up, downs, toR, ev, putS, rowO, ofConst, cellsA, cellsC, asC, asCs, ld, ldR, bin, binInt, binStr, binBool, sliceOf, bndOf, repl, fillC, zeroC, chunks, ptrIds, tabs, upd_app, mem_nil_app, entry_zero, entry_succ, entry_nil, top_app, maxStr, ByteArray.size, A.kill, O.kill, killS_app, killM_app, Nat.reduceAdd, Nat.reduceLeDiff, Nat.reduceEqDiff, Nat.reduceMul, Int.reduceToNat, reduceIte, wf_i64, Int.reduceLE, Int.reduceNeg, beq_self_eq_true, decide_true, decide_false, ybeq_some, ybeq_none, beqT, beqF, empty_toList, exs]
            have : twiceB l = true := any_range hlt (any_range hlk (he.trans heq))
            rw [this]
          · intro hne
            repeat (first | refine W.seq ?_ | refine W.block ?_ | refine W.skip ?_ | refine W.exit ?_ | refine W.region tab_ok 0 (by decide) (exec_run (by simp only [exec, stepQ, wantA, yieldA, kind, qv, qv1, qv2, stO, adrId, dataC, replC, eqNil, binNil, shiftInt, A.down, A1.up, downs, toR, ev, putS, rowO, ofConst, cellsA, cellsC, asC, asCs, ld, ldR, bin, binInt, binStr, binBool, sliceOf, bndOf, repl, fillC, zeroC, chunks, ptrIds, tabs, upd_app, mem_nil_app, entry_zero, entry_succ, entry_nil, top_app, maxStr, ByteArray.size, A.kill, O.kill, killS_app, killM_app, Nat.reduceAdd, Nat.reduceLeDiff, Nat.reduceEqDiff, Nat.reduceMul, Int.reduceToNat, reduceIte, wf_i64, Int.reduceLE, Int.reduceNeg, beq_self_eq_true, decide_true, decide_false, ybeq_some, ybeq_none, beqT, beqF, empty_toList, exs]; rfl)) ?_)
            refine ⟨k + 1, ⟨hlk, fun j hj => ?_⟩, by omega, ?_⟩
            · rcases Nat.lt_succ_iff_lt_or_eq.1 hj with h | h
              · exact hin j h
              · subst h; exact he.trans hne
            refine le_mk ?sle ?mle ?swf ?mwf ?kept (by rfl)
            case kept => exact kept_not hkeep
            case swf => repeat (first | exact swf_top _ | refine swf_upd ?_ (by simp [A.ids, upd_app]))
            case mwf => repeat (first | exact mwf_nil _ | refine mwf_upd ?_ (by simp [A.ids, O.ids, upd_app]))
            case mle => repeat (first | exact mle_nil _ | exact mle_refl _ | refine mle_upd ?_ (by first | rfl | (simp only [upd_app, killM_app, Nat.reduceEqDiff, reduceIte, wrap_succ (show k + 1 < 9223372036854775808 by omega)]; done)))
            case sle => repeat (first | exact sle_top _ | exact sle_refl _ | refine sle_upd ?_ (by first | rfl | (simp only [upd_app, entry_zero, entry_succ, Nat.reduceEqDiff, reduceIte, wrap_succ (show k + 1 < 9223372036854775808 by omega)]; done)))
        · intro hge
          simp only [decide_eq_false_iff_not, Int.ofNat_lt] at hge
          obtain rfl : k = i := by omega
          repeat (first | refine W.seq ?_ | refine W.block ?_ | refine W.skip ?_ | refine W.exit ?_ | refine W.region tab_ok 0 (by decide) (exec_run (by simp only [exec, stepQ, wantA, yieldA, kind, qv, qv1, qv2, stO, adrId, dataC, replC, eqNil, binNil, shiftInt, A.down, A1.up, downs, toR, ev, putS, rowO, ofConst, cellsA, cellsC, asC, asCs, ld, ldR, bin, binInt, binStr, binBool, sliceOf, bndOf, repl, fillC, zeroC, chunks, ptrIds, tabs, upd_app, mem_nil_app, entry_zero, entry_succ, entry_nil, top_app, maxStr, ByteArray.size, A.kill, O.kill, killS_app, killM_app, Nat.reduceAdd, Nat.reduceLeDiff, Nat.reduceEqDiff, Nat.reduceMul, Int.reduceToNat, reduceIte, wf_i64, Int.reduceLE, Int.reduceNeg, beq_self_eq_true, decide_true, decide_false, ybeq_some, ybeq_none, beqT, beqF, empty_toList, exs]; rfl)) ?_)
          refine ⟨k + 1, ⟨hlt, fun j hj => ?_⟩, by omega, ?_⟩
          · rcases Nat.lt_succ_iff_lt_or_eq.1 hj with h | h
            · exact hall j h
            · subst h; exact none_range hin
          refine le_mk ?sle ?mle ?swf ?mwf ?kept (by rfl)
          case kept => exact kept_not hkeep
          case swf => repeat (first | exact swf_top _ | refine swf_upd ?_ (by simp [A.ids, upd_app]))
          case mwf => repeat (first | exact mwf_nil _ | refine mwf_upd ?_ (by simp [A.ids, O.ids, upd_app]))
          case mle => repeat (first | exact mle_nil _ | exact mle_refl _ | refine mle_upd ?_ (by first | rfl | (simp only [upd_app, killM_app, Nat.reduceEqDiff, reduceIte, wrap_succ (show k + 1 < 9223372036854775808 by omega)]; done)))
          case sle => repeat (first | exact sle_top _ | exact sle_refl _ | refine sle_upd ?_ (by first | rfl | (simp only [upd_app, entry_zero, entry_succ, Nat.reduceEqDiff, reduceIte, wrap_succ (show k + 1 < 9223372036854775808 by omega)]; done)))
    · intro hge
      simp only [decide_eq_false_iff_not, Int.ofNat_lt] at hge
      obtain rfl : i = l.length := by omega
      repeat (first | refine W.seq ?_ | refine W.block ?_ | refine W.skip ?_ | refine W.exit ?_ | refine W.region tab_ok 0 (by decide) (exec_run (by simp only [exec, stepQ, wantA, yieldA, kind, qv, qv1, qv2, stO, adrId, dataC, replC, eqNil, binNil, shiftInt, A.down, A1.up, downs, toR, ev, putS, rowO, ofConst, cellsA, cellsC, asC, asCs, ld, ldR, bin, binInt, binStr, binBool, sliceOf, bndOf, repl, fillC, zeroC, chunks, ptrIds, tabs, upd_app, mem_nil_app, entry_zero, entry_succ, entry_nil, top_app, maxStr, ByteArray.size, A.kill, O.kill, killS_app, killM_app, Nat.reduceAdd, Nat.reduceLeDiff, Nat.reduceEqDiff, Nat.reduceMul, Int.reduceToNat, reduceIte, wf_i64, Int.reduceLE, Int.reduceNeg, beq_self_eq_true, decide_true, decide_false, ybeq_some, ybeq_none, beqT, beqF, empty_toList, exs]; rfl)) ?_)
      refine W.ret ⟨.inr rfl, by rfl, ?_⟩
      simp only [Try.f30, resA, resOne, toT, fin, exec, stepQ, wantA, yieldA, kind, qv, qv1, qv2, stO, adrId, dataC, replC, eqNil, binNil, shiftInt, A.down, A1.up, downs, toR, ev, putS, rowO, ofConst, cellsA, cellsC, asC, asCs, ld, ldR, bin, binInt, binStr, binBool, sliceOf, bndOf, repl, fillC, zeroC, chunks, ptrIds, tabs, upd_app, mem_nil_app, entry_zero, entry_succ, entry_nil, top_app, maxStr, ByteArray.size, A.kill, O.kill, killS_app, killM_app, Nat.reduceAdd, Nat.reduceLeDiff, Nat.reduceEqDiff, Nat.reduceMul, Int.reduceToNat, reduceIte, wf_i64, Int.reduceLE, Int.reduceNeg, beq_self_eq_true, decide_true, decide_false, ybeq_some, ybeq_none, beqT, beqF, empty_toList, exs]
      have : twiceB l = false := none_range hall
      rw [this]
end V
end Go.Proofs.Ytjciafpihdbedaa
end
section
/- The document's classes, over plain data: methods. -/
namespace Go.Proofs.Ytjciafpihdbedaa
namespace V
open Go.RowKit
set_option linter.unusedSimpArgs false
def typesL (l : List Slot) : List (List UInt8) := l.map fun s => s.type.toList
def likeB (x y : Method) : Bool := (x.type.toList == y.type.toList) && decide (typesL x.params = typesL y.params)
theorem typesL_ne {l m : List Slot} {i : Nat} {x y : Slot} (hx : l[i]? = some x) (hy : m[i]? = some y) (h : (x.type.toList == y.type.toList) = false) : decide (typesL l = typesL m) = false := by
  rw [decide_eq_false_iff_not]
  intro e
  have : (typesL l)[i]? = (typesL m)[i]? := by rw [e]
  simp [typesL, hx, hy] at this
  simp [this] at h
theorem typesL_eq {l m : List Slot} (hl : l.length = m.length) (h : ∀ (i : Nat) x y, l[i]? = some x → m[i]? = some y → (x.type.toList == y.type.toList) = true) : decide (typesL l = typesL m) = true := by
  rw [decide_eq_true_iff]
  apply List.ext_getElem?
  intro i
  simp only [typesL, List.getElem?_map]
  by_cases hi : i < l.length
  · rw [List.getElem?_eq_getElem hi, List.getElem?_eq_getElem (by omega)]
    have := h i _ _ (List.getElem?_eq_getElem hi) (List.getElem?_eq_getElem (by omega : i < m.length))
    simpa using this
  · rw [List.getElem?_eq_none (by omega), List.getElem?_eq_none (by omega)]
theorem like_ok (x y : Method) (hlen : x.params.length ≤ 1000000000000) (m : Mem) : COk Try.prog 56 [.agg (cMethod x), .agg (cMethod y)] m (.c (.bool (likeB x y))) := by
  refine (ok_pure tab_ok Try.func56 (by kernel_rfl) rfl rfl (by rfl) (by rfl) (by rfl) (fun R hkeep => ?_) m)
  repeat (first | refine W.seq ?_ | refine W.block ?_ | refine W.skip ?_ | refine W.exit ?_ | refine W.region tab_ok 0 (by decide) (exec_run (by simp only [exec, stepQ, wantA, yieldA, kind, qv, qv1, qv2, stO, adrId, dataC, replC, eqNil, binNil, shiftInt, A.down, A1.up, downs, toR, ev, putS, rowO, ofConst, cellsA, cellsC, asC, asCs, ld, ldR, bin, binInt, binStr, binBool, sliceOf, bndOf, repl, fillC, zeroC, chunks, ptrIds, tabs, upd_app, mem_nil_app, entry_zero, entry_succ, entry_nil, top_app, maxStr, ByteArray.size, A.kill, O.kill, killS_app, killM_app, Nat.reduceAdd, Nat.reduceLeDiff, Nat.reduceEqDiff, Nat.reduceMul, Int.reduceToNat, reduceIte, wf_i64, Int.reduceLE, Int.reduceNeg, beq_self_eq_true, decide_true, decide_false, ybeq_some, ybeq_none, beqT, beqF, empty_toList, exs, cMethod]; rfl)) ?_)
  refine W.regionK tab_ok 0 (by decide) ?_
  cases ht : (x.type.toList == y.type.toList) with
  | false =>
    refine runk_exec (by simp only [exec, stepQ, wantA, yieldA, kind, qv, qv1, qv2, stO, adrId, dataC, replC, eqNil, binNil, shiftInt, A.down, A1.up, downs, toR, ev, putS, rowO, ofConst, cellsA, cellsC, asC, asCs, ld, ldR, bin, binInt, binStr, binBool, sliceOf, bndOf, repl, fillC, zeroC, chunks, ptrIds, tabs, upd_app, mem_nil_app, entry_zero, entry_succ, entry_nil, top_app, maxStr, ByteArray.size, A.kill, O.kill, killS_app, killM_app, Nat.reduceAdd, Nat.reduceLeDiff, Nat.reduceEqDiff, Nat.reduceMul, Int.reduceToNat, reduceIte, wf_i64, Int.reduceLE, Int.reduceNeg, beq_self_eq_true, decide_true, decide_false, ybeq_some, ybeq_none, beqT, beqF, empty_toList, exs, ht]; rfl) ?_
    repeat (first | refine W.seq ?_ | refine W.block ?_ | refine W.skip ?_ | refine W.exit ?_ | refine W.region tab_ok 0 (by decide) (exec_run (by simp only [exec, stepQ, wantA, yieldA, kind, qv, qv1, qv2, stO, adrId, dataC, replC, eqNil, binNil, shiftInt, A.down, A1.up, downs, toR, ev, putS, rowO, ofConst, cellsA, cellsC, asC, asCs, ld, ldR, bin, binInt, binStr, binBool, sliceOf, bndOf, repl, fillC, zeroC, chunks, ptrIds, tabs, upd_app, mem_nil_app, entry_zero, entry_succ, entry_nil, top_app, maxStr, ByteArray.size, A.kill, O.kill, killS_app, killM_app, Nat.reduceAdd, Nat.reduceLeDiff, Nat.reduceEqDiff, Nat.reduceMul, Int.reduceToNat, reduceIte, wf_i64, Int.reduceLE, Int.reduceNeg, beq_self_eq_true, decide_true, decide_false, ybeq_some, ybeq_none, beqT, beqF, empty_toList, exs]; rfl)) ?_)
    refine W.cond rfl ?_ ?_
    · intro _
      repeat (first | refine W.seq ?_ | refine W.block ?_ | refine W.skip ?_ | refine W.exit ?_ | refine W.region tab_ok 0 (by decide) (exec_run (by simp only [exec, stepQ, wantA, yieldA, kind, qv, qv1, qv2, stO, adrId, dataC, replC, eqNil, binNil, shiftInt, A.down, A1.up, downs, toR, ev, putS, rowO, ofConst, cellsA, cellsC, asC, asCs, ld, ldR, bin, binInt, binStr, binBool, sliceOf, bndOf, repl, fillC, zeroC, chunks, ptrIds, tabs, upd_app, mem_nil_app, entry_zero, entry_succ, entry_nil, top_app, maxStr, ByteArray.size, A.kill, O.kill, killS_app, killM_app, Nat.reduceAdd, Nat.reduceLeDiff, Nat.reduceEqDiff, Nat.reduceMul, Int.reduceToNat, reduceIte, wf_i64, Int.reduceLE, Int.reduceNeg, beq_self_eq_true, decide_true, decide_false, ybeq_some, ybeq_none, beqT, beqF, empty_toList, exs]; rfl)) ?_)
      refine W.ret ⟨.inr rfl, by rfl, ?_⟩
      simp only [Try.f56, resA, resOne, toT, fin, exec, stepQ, wantA, yieldA, kind, qv, qv1, qv2, stO, adrId, dataC, replC, eqNil, binNil, shiftInt, A.down, A1.up, downs, toR, ev, putS, rowO, ofConst, cellsA, cellsC, asC, asCs, ld, ldR, bin, binInt, binStr, binBool, sliceOf, bndOf, repl, fillC, zeroC, chunks, ptrIds, tabs, upd_app, mem_nil_app, entry_zero, entry_succ, entry_nil, top_app, maxStr, ByteArray.size, A.kill, O.kill, killS_app, killM_app, Nat.reduceAdd, Nat.reduceLeDiff, Nat.reduceEqDiff, Nat.reduceMul, Int.reduceToNat, reduceIte, wf_i64, Int.reduceLE, Int.reduceNeg, beq_self_eq_true, decide_true, decide_false, ybeq_some, ybeq_none, beqT, beqF, empty_toList, exs]
      simp [likeB, ht]
    · intro h; cases h
  | true =>
    refine runk_exec (by simp only [exec, stepQ, wantA, yieldA, kind, qv, qv1, qv2, stO, adrId, dataC, replC, eqNil, binNil, shiftInt, A.down, A1.up, downs, toR, ev, putS, rowO, ofConst, cellsA, cellsC, asC, asCs, ld, ldR, bin, binInt, binStr, binBool, sliceOf, bndOf, repl, fillC, zeroC, chunks, ptrIds, tabs, upd_app, mem_nil_app, entry_zero, entry_succ, entry_nil, top_app, maxStr, ByteArray.size, A.kill, O.kill, killS_app, killM_app, Nat.reduceAdd, Nat.reduceLeDiff, Nat.reduceEqDiff, Nat.reduceMul, Int.reduceToNat, reduceIte, wf_i64, Int.reduceLE, Int.reduceNeg, beq_self_eq_true, decide_true, decide_false, ybeq_some, ybeq_none, beqT, beqF, empty_toList, exs, ht]; rfl) ?_
    repeat (first | refine W.seq ?_ | refine W.block ?_ | refine W.skip ?_ | refine W.exit ?_ | refine W.region tab_ok 0 (by decide) (exec_run (by simp only [exec, stepQ, wantA, yieldA, kind, qv, qv1, qv2, stO, adrId, dataC, replC, eqNil, binNil, shiftInt, A.down, A1.up, downs, toR, ev, putS, rowO, ofConst, cellsA, cellsC, asC, asCs, ld, ldR, bin, binInt, binStr, binBool, sliceOf, bndOf, repl, fillC, zeroC, chunks, ptrIds, tabs, upd_app, mem_nil_app, entry_zero, entry_succ, entry_nil, top_app, maxStr, ByteArray.size, A.kill, O.kill, killS_app, killM_app, Nat.reduceAdd, Nat.reduceLeDiff, Nat.reduceEqDiff, Nat.reduceMul, Int.reduceToNat, reduceIte, wf_i64, Int.reduceLE, Int.reduceNeg, beq_self_eq_true, decide_true, decide_false, ybeq_some, ybeq_none, beqT, beqF, empty_toList, exs]; rfl)) ?_)
    refine W.cond rfl ?_ ?_
    · intro hl
      repeat (first | refine W.seq ?_ | refine W.block ?_ | refine W.skip ?_ | refine W.exit ?_ | refine W.region tab_ok 0 (by decide) (exec_run (by simp only [exec, stepQ, wantA, yieldA, kind, qv, qv1, qv2, stO, adrId, dataC, replC, eqNil, binNil, shiftInt, A.down, A1.up, downs, toR, ev, putS, rowO, ofConst, cellsA, cellsC, asC, asCs, ld, ldR, bin, binInt, binStr, binBool, sliceOf, bndOf, repl, fillC, zeroC, chunks, ptrIds, tabs, upd_app, mem_nil_app, entry_zero, entry_succ, entry_nil, top_app, maxStr, ByteArray.size, A.kill, O.kill, killS_app, killM_app, Nat.reduceAdd, Nat.reduceLeDiff, Nat.reduceEqDiff, Nat.reduceMul, Int.reduceToNat, reduceIte, wf_i64, Int.reduceLE, Int.reduceNeg, beq_self_eq_true, decide_true, decide_false, ybeq_some, ybeq_none, beqT, beqF, empty_toList, exs]; rfl)) ?_)
      refine W.ret ⟨.inr rfl, by rfl, ?_⟩
      simp only [Try.f56, resA, resOne, toT, fin, exec, stepQ, wantA, yieldA, kind, qv, qv1, qv2, stO, adrId, dataC, replC, eqNil, binNil, shiftInt, A.down, A1.up, downs, toR, ev, putS, rowO, ofConst, cellsA, cellsC, asC, asCs, ld, ldR, bin, binInt, binStr, binBool, sliceOf, bndOf, repl, fillC, zeroC, chunks, ptrIds, tabs, upd_app, mem_nil_app, entry_zero, entry_succ, entry_nil, top_app, maxStr, ByteArray.size, A.kill, O.kill, killS_app, killM_app, Nat.reduceAdd, Nat.reduceLeDiff, Nat.reduceEqDiff, Nat.reduceMul, Int.reduceToNat, reduceIte, wf_i64, Int.reduceLE, Int.reduceNeg, beq_self_eq_true, decide_true, decide_false, ybeq_some, ybeq_none, beqT, beqF, empty_toList, exs]
      have : decide (typesL x.params = typesL y.params) = false := by
        rw [decide_eq_false_iff_not]
        intro e
        have := congrArg List.length e
        simp [typesL] at this
        simp [this] at hl
      simp [likeB, this]
    · intro hl
      have hll : x.params.length = y.params.length := by simp at hl; omega
      repeat (first | refine W.seq ?_ | refine W.block ?_ | refine W.skip ?_ | refine W.exit ?_ | refine W.region tab_ok 0 (by decide) (exec_run (by simp only [exec, stepQ, wantA, yieldA, kind, qv, qv1, qv2, stO, adrId, dataC, replC, eqNil, binNil, shiftInt, A.down, A1.up, downs, toR, ev, putS, rowO, ofConst, cellsA, cellsC, asC, asCs, ld, ldR, bin, binInt, binStr, binBool, sliceOf, bndOf, repl, fillC, zeroC, chunks, ptrIds, tabs, upd_app, mem_nil_app, entry_zero, entry_succ, entry_nil, top_app, maxStr, ByteArray.size, A.kill, O.kill, killS_app, killM_app, Nat.reduceAdd, Nat.reduceLeDiff, Nat.reduceEqDiff, Nat.reduceMul, Int.reduceToNat, reduceIte, wf_i64, Int.reduceLE, Int.reduceNeg, beq_self_eq_true, decide_true, decide_false, ybeq_some, ybeq_none, beqT, beqF, empty_toList, exs]; rfl)) ?_)
      refine W.loop (ι := Nat) (fun k => ⟨upd (upd (upd (upd (fun _ => .top) 2 (.ptr 2 0)) 3 (.ptr 3 0)) 22 (.c (.int .i64 x.params.length))) 23 (.c (.int .i64 k)),
        upd (upd Mem.nil 2 (some (.box 40 ((cMethod x).map .c)))) 3 (some (.box 40 ((cMethod y).map .c)))⟩)
        (fun k => k ≤ x.params.length ∧ ∀ (i : Nat) u v, i < k → x.params[i]? = some u → y.params[i]? = some v → (u.type.toList == v.type.toList) = true) (fun k => x.params.length - k) 0 ?start ⟨Nat.zero_le _, fun i u v hi => by omega⟩ ?round
      case start =>
        refine le_mk ?sle ?mle ?swf ?mwf ?kept (by rfl)
        case kept => exact kept_not hkeep
        case swf => repeat (first | exact swf_top _ | refine swf_upd ?_ (by simp [A.ids, upd_app]))
        case mwf => repeat (first | exact mwf_nil _ | refine mwf_upd ?_ (by simp [A.ids, O.ids, upd_app]))
        case mle => repeat (first | exact mle_nil _ | exact mle_refl _ | refine mle_upd ?_ (by first | rfl | (simp only [upd_app, killM_app, Nat.reduceEqDiff, reduceIte]; done)))
        case sle => repeat (first | exact sle_top _ | exact sle_refl _ | refine sle_upd ?_ (by first | rfl | (simp only [upd_app, entry_zero, entry_succ, Nat.reduceEqDiff, reduceIte]; done)))
      case round =>
        rintro k ⟨hk, hall⟩
        repeat (first | refine W.seq ?_ | refine W.block ?_ | refine W.skip ?_ | refine W.exit ?_ | refine W.region tab_ok 0 (by decide) (exec_run (by simp only [exec, stepQ, wantA, yieldA, kind, qv, qv1, qv2, stO, adrId, dataC, replC, eqNil, binNil, shiftInt, A.down, A1.up, downs, toR, ev, putS, rowO, ofConst, cellsA, cellsC, asC, asCs, ld, ldR, bin, binInt, binStr, binBool, sliceOf, bndOf, repl, fillC, zeroC, chunks, ptrIds, tabs, upd_app, mem_nil_app, entry_zero, entry_succ, entry_nil, top_app, maxStr, ByteArray.size, A.kill, O.kill, killS_app, killM_app, Nat.reduceAdd, Nat.reduceLeDiff, Nat.reduceEqDiff, Nat.reduceMul, Int.reduceToNat, reduceIte, wf_i64, Int.reduceLE, Int.reduceNeg, beq_self_eq_true, decide_true, decide_false, ybeq_some, ybeq_none, beqT, beqF, empty_toList, exs, cMethod]; rfl)) ?_)
        refine W.cond rfl ?_ ?_
        · intro hlt
          simp only [decide_eq_true_eq, Int.ofNat_lt] at hlt
          obtain ⟨u, hu⟩ : ∃ u, x.params[k]? = some u := ⟨_, List.getElem?_eq_getElem hlt⟩
          obtain ⟨v, hv⟩ : ∃ v, y.params[k]? = some v := ⟨_, List.getElem?_eq_getElem (by omega)⟩
          repeat (first | refine W.seq ?_ | refine W.block ?_ | refine W.skip ?_ | refine W.exit ?_ | refine W.region tab_ok 0 (by decide) (exec_run (by simp only [exec, stepQ, wantA, yieldA, kind, qv, qv1, qv2, stO, adrId, dataC, replC, eqNil, binNil, shiftInt, A.down, A1.up, downs, toR, ev, putS, rowO, ofConst, cellsA, cellsC, asC, asCs, ld, ldR, bin, binInt, binStr, binBool, sliceOf, bndOf, repl, fillC, zeroC, chunks, ptrIds, tabs, upd_app, mem_nil_app, entry_zero, entry_succ, entry_nil, top_app, maxStr, ByteArray.size, A.kill, O.kill, killS_app, killM_app, Nat.reduceAdd, Nat.reduceLeDiff, Nat.reduceEqDiff, Nat.reduceMul, Int.reduceToNat, reduceIte, wf_i64, Int.reduceLE, Int.reduceNeg, beq_self_eq_true, decide_true, decide_false, ybeq_some, ybeq_none, beqT, beqF, empty_toList, exs]; rfl)) ?_)
          refine W.regionDK tab_ok 0 follows_mixed (by kernel_rfl) (by decide) ?_
          refine runk_exec (by simp only [exec, stepQ, wantA, yieldA, kind, qv, qv1, qv2, stO, adrId, dataC, replC, eqNil, binNil, shiftInt, A.down, A1.up, downs, toR, ev, putS, rowO, ofConst, cellsA, cellsC, asC, asCs, ld, ldR, bin, binInt, binStr, binBool, sliceOf, bndOf, repl, fillC, zeroC, chunks, ptrIds, tabs, upd_app, mem_nil_app, entry_zero, entry_succ, entry_nil, top_app, maxStr, ByteArray.size, A.kill, O.kill, killS_app, killM_app, Nat.reduceAdd, Nat.reduceLeDiff, Nat.reduceEqDiff, Nat.reduceMul, Int.reduceToNat, reduceIte, wf_i64, Int.reduceLE, Int.reduceNeg, beq_self_eq_true, decide_true, decide_false, ybeq_some, ybeq_none, beqT, beqF, empty_toList, exs, at_map hu, at_map hv, cSlot, cMethod]; rfl) ?_
          refine W.cond rfl ?_ ?_
          · intro hne
            repeat (first | refine W.seq ?_ | refine W.block ?_ | refine W.skip ?_ | refine W.exit ?_ | refine W.region tab_ok 0 (by decide) (exec_run (by simp only [exec, stepQ, wantA, yieldA, kind, qv, qv1, qv2, stO, adrId, dataC, replC, eqNil, binNil, shiftInt, A.down, A1.up, downs, toR, ev, putS, rowO, ofConst, cellsA, cellsC, asC, asCs, ld, ldR, bin, binInt, binStr, binBool, sliceOf, bndOf, repl, fillC, zeroC, chunks, ptrIds, tabs, upd_app, mem_nil_app, entry_zero, entry_succ, entry_nil, top_app, maxStr, ByteArray.size, A.kill, O.kill, killS_app, killM_app, Nat.reduceAdd, Nat.reduceLeDiff, Nat.reduceEqDiff, Nat.reduceMul, Int.reduceToNat, reduceIte, wf_i64, Int.reduceLE, Int.reduceNeg, beq_self_eq_true, decide_true, decide_false, ybeq_some, ybeq_none, beqT, beqF, empty_toList, exs]; rfl)) ?_)
            refine W.ret ⟨.inr rfl, by rfl, ?_⟩
            simp only [Try.f56, resA, resOne, toT, fin, exec, stepQ, wantA, yieldA, kind, qv, qv1, qv2, stO, adrId, dataC, replC, eqNil, binNil, shiftInt, A.down, A1.up, downs, toR, ev, putS, rowO, ofConst, cellsA, cellsC, asC, asCs, ld, ldR, bin, binInt, binStr, binBool, sliceOf, bndOf, repl, fillC, zeroC, chunks, ptrIds, tabs, upd_app, mem_nil_app, entry_zero, entry_succ, entry_nil, top_app, maxStr, ByteArray.size, A.kill, O.kill, killS_app, killM_app, Nat.reduceAdd, Nat.reduceLeDiff, Nat.reduceEqDiff, Nat.reduceMul, Int.reduceToNat, reduceIte, wf_i64, Int.reduceLE, Int.reduceNeg, beq_self_eq_true, decide_true, decide_false, ybeq_some, ybeq_none, beqT, beqF, empty_toList, exs]
            simp [likeB, typesL_ne hu hv (by simpa using hne)]
          · intro heq
            repeat (first | refine W.seq ?_ | refine W.block ?_ | refine W.skip ?_ | refine W.exit ?_ | refine W.region tab_ok 0 (by decide) (exec_run (by simp only [exec, stepQ, wantA, yieldA, kind, qv, qv1, qv2, stO, adrId, dataC, replC, eqNil, binNil, shiftInt, A.down, A1.up, downs, toR, ev, putS, rowO, ofConst, cellsA, cellsC, asC, asCs, ld, ldR, bin, binInt, binStr, binBool, sliceOf, bndOf, repl, fillC, zeroC, chunks, ptrIds, tabs, upd_app, mem_nil_app, entry_zero, entry_succ, entry_nil, top_app, maxStr, ByteArray.size, A.kill, O.kill, killS_app, killM_app, Nat.reduceAdd, Nat.reduceLeDiff, Nat.reduceEqDiff, Nat.reduceMul, Int.reduceToNat, reduceIte, wf_i64, Int.reduceLE, Int.reduceNeg, beq_self_eq_true, decide_true, decide_false, ybeq_some, ybeq_none, beqT, beqF, empty_toList, exs]; rfl)) ?_)
            refine ⟨k + 1, ⟨hlt, fun i u' v' hi hu' hv' => ?_⟩, by omega, ?_⟩
            · rcases Nat.lt_succ_iff_lt_or_eq.1 hi with h | h
              · exact hall i u' v' h hu' hv'
              · subst h
                rw [hu] at hu'; rw [hv] at hv'; cases hu'; cases hv'
                simpa using heq
            refine le_mk ?sle ?mle ?swf ?mwf ?kept (by rfl)
            case kept => exact kept_not hkeep
            case swf => repeat (first | exact swf_top _ | refine swf_upd ?_ (by simp [A.ids, upd_app]))
            case mwf => repeat (first | exact mwf_nil _ | refine mwf_upd ?_ (by simp [A.ids, O.ids, upd_app]))
            case mle => repeat (first | exact mle_nil _ | exact mle_refl _ | refine mle_upd ?_ (by first | rfl | (simp only [upd_app, killM_app, Nat.reduceEqDiff, reduceIte, wrap_succ (show k + 1 < 9223372036854775808 by omega)]; done)))
            case sle => repeat (first | exact sle_top _ | exact sle_refl _ | refine sle_upd ?_ (by first | rfl | (simp only [upd_app, entry_zero, entry_succ, Nat.reduceEqDiff, reduceIte, wrap_succ (show k + 1 < 9223372036854775808 by omega)]; done)))
        · intro hge
          simp only [decide_eq_false_iff_not, Int.ofNat_lt] at hge
          obtain rfl : k = x.params.length := by omega
          repeat (first | refine W.seq ?_ | refine W.block ?_ | refine W.skip ?_ | refine W.exit ?_ | refine W.region tab_ok 0 (by decide) (exec_run (by simp only [exec, stepQ, wantA, yieldA, kind, qv, qv1, qv2, stO, adrId, dataC, replC, eqNil, binNil, shiftInt, A.down, A1.up, downs, toR, ev, putS, rowO, ofConst, cellsA, cellsC, asC, asCs, ld, ldR, bin, binInt, binStr, binBool, sliceOf, bndOf, repl, fillC, zeroC, chunks, ptrIds, tabs, upd_app, mem_nil_app, entry_zero, entry_succ, entry_nil, top_app, maxStr, ByteArray.size, A.kill, O.kill, killS_app, killM_app, Nat.reduceAdd, Nat.reduceLeDiff, Nat.reduceEqDiff, Nat.reduceMul, Int.reduceToNat, reduceIte, wf_i64, Int.reduceLE, Int.reduceNeg, beq_self_eq_true, decide_true, decide_false, ybeq_some, ybeq_none, beqT, beqF, empty_toList, exs]; rfl)) ?_)
          refine W.ret ⟨.inr rfl, by rfl, ?_⟩
          simp only [Try.f56, resA, resOne, toT, fin, exec, stepQ, wantA, yieldA, kind, qv, qv1, qv2, stO, adrId, dataC, replC, eqNil, binNil, shiftInt, A.down, A1.up, downs, toR, ev, putS, rowO, ofConst, cellsA, cellsC, asC, asCs, ld, ldR, bin, binInt, binStr, binBool, sliceOf, bndOf, repl, fillC, zeroC, chunks, ptrIds, tabs, upd_app, mem_nil_app, entry_zero, entry_succ, entry_nil, top_app, maxStr, ByteArray.size, A.kill, O.kill, killS_app, killM_app, Nat.reduceAdd, Nat.reduceLeDiff, Nat.reduceEqDiff, Nat.reduceMul, Int.reduceToNat, reduceIte, wf_i64, Int.reduceLE, Int.reduceNeg, beq_self_eq_true, decide_true, decide_false, ybeq_some, ybeq_none, beqT, beqF, empty_toList, exs]
          have := typesL_eq hll fun i u v hu hv => hall i u v (List.getElem?_eq_some_iff.1 hu).1 hu hv
          simp [likeB, ht, this]
end V
end Go.Proofs.Ytjciafpihdbedaa
end
section
/- The document's classes, over plain data: which method. -/
namespace Go.Proofs.Ytjciafpihdbedaa
namespace V
open Go.RowKit
set_option linter.unusedSimpArgs false
def methIs (name : ByteArray) (m : Method) : Bool := m.name.toList == name.toList
def methodF (cs : List Class) (name : ByteArray) : List ByteArray → Option (Method × ByteArray)
  | [] => none
  | n :: l => match (classD cs n).methods.find? (methIs name) with | some x => some (x, n) | none => methodF cs name l
def zeroMethod : Method := ⟨⟨#[]⟩, ⟨#[]⟩, [], []⟩
def methodC (o : Option (Method × ByteArray)) : List (Bool × List C) := match o with
  | some (x, n) => [(true, cMethod x), (false, [.str n]), (false, [.bool true])]
  | none => [(true, cMethod zeroMethod), (false, [.str ⟨#[]⟩]), (false, [.bool false])]
theorem methodF_cons {cs : List Class} {name n : ByteArray} {l : List ByteArray} (h : (classD cs n).methods.find? (methIs name) = none) : methodF cs name (n :: l) = methodF cs name l := by simp [methodF, h]
theorem method_ok (cs : List Class) (mn : C) (l : List ByteArray) (name : ByteArray) (hlen : cs.length ≤ 1000000000000) (hl : l.length ≤ 1000000000000) (hm : ∀ n, (classD cs n).methods.length ≤ 1000000000000) (m : Mem) :
    COk Try.prog 38 [.agg [.sl (cs.map cClass), mn], .c (.sl (l.map cStr)), .c (.str name)] m (.tup (methodC (methodF cs name l))) := by
  refine (ok_pure tab_ok Try.func38 (by kernel_rfl) rfl rfl (by rfl) (by rfl) (by rfl) (fun R hkeep => ?_) m)
  repeat (first | refine W.seq ?_ | refine W.block ?_ | refine W.skip ?_ | refine W.exit ?_ | refine W.region tab_ok 0 (by decide) (exec_run (by simp only [exec, stepQ, wantA, yieldA, kind, qv, qv1, qv2, stO, adrId, dataC, replC, eqNil, binNil, shiftInt, A.down, A1.up, downs, toR, ev, putS, rowO, ofConst, cellsA, cellsC, asC, asCs, ld, ldR, bin, binInt, binStr, binBool, sliceOf, bndOf, repl, fillC, zeroC, chunks, ptrIds, tabs, upd_app, mem_nil_app, entry_zero, entry_succ, entry_nil, top_app, maxStr, ByteArray.size, A.kill, O.kill, killS_app, killM_app, Nat.reduceAdd, Nat.reduceLeDiff, Nat.reduceEqDiff, Nat.reduceMul, Int.reduceToNat, reduceIte, wf_i64, Int.reduceLE, Int.reduceNeg, beq_self_eq_true, decide_true, decide_false, ybeq_some, ybeq_none, beqT, beqF, empty_toList, exs]; rfl)) ?_)
  refine W.loop (ι := Nat) (fun k => ⟨upd (upd (upd (upd (upd (upd (fun _ => .top) 2 (.c (.str name))) 3 (.ptr 3 0)) 6 (.ptr 6 0)) 15 (.c (.sl (l.map cStr)))) 16 (.c (.int .i64 l.length))) 17 (.c (.int .i64 k)),
      upd (upd Mem.nil 3 (some (.box 25 [.c (.sl (cs.map cClass)), .c mn]))) 6 (some (.box 40 [.c (.str ⟨#[]⟩), .c (.str ⟨#[]⟩), .nil, .nil]))⟩)
    (fun k => k ≤ l.length ∧ methodF cs name l = methodF cs name (l.drop k)) (fun k => l.length - k) 0 ?start ⟨Nat.zero_le _, rfl⟩ ?round
  case start =>
    refine le_mk ?sle ?mle ?swf ?mwf ?kept (by rfl)
    case kept => exact kept_not hkeep
    case swf => repeat (first | exact swf_top _ | refine swf_upd ?_ (by simp [A.ids, upd_app]))
    case mwf => repeat (first | exact mwf_nil _ | refine mwf_upd ?_ (by simp [A.ids, O.ids, upd_app]))
    case mle => repeat (first | exact mle_nil _ | exact mle_refl _ | refine mle_upd ?_ (by first | rfl | (simp only [upd_app, killM_app, Nat.reduceEqDiff, reduceIte]; done)))
    case sle => repeat (first | exact sle_top _ | exact sle_refl _ | refine sle_upd ?_ (by first | rfl | (simp only [upd_app, entry_zero, entry_succ, Nat.reduceEqDiff, reduceIte]; done)))
  case round =>
    rintro k ⟨hk, hall⟩
    repeat (first | refine W.seq ?_ | refine W.block ?_ | refine W.skip ?_ | refine W.exit ?_ | refine W.region tab_ok 0 (by decide) (exec_run (by simp only [exec, stepQ, wantA, yieldA, kind, qv, qv1, qv2, stO, adrId, dataC, replC, eqNil, binNil, shiftInt, A.down, A1.up, downs, toR, ev, putS, rowO, ofConst, cellsA, cellsC, asC, asCs, ld, ldR, bin, binInt, binStr, binBool, sliceOf, bndOf, repl, fillC, zeroC, chunks, ptrIds, tabs, upd_app, mem_nil_app, entry_zero, entry_succ, entry_nil, top_app, maxStr, ByteArray.size, A.kill, O.kill, killS_app, killM_app, Nat.reduceAdd, Nat.reduceLeDiff, Nat.reduceEqDiff, Nat.reduceMul, Int.reduceToNat, reduceIte, wf_i64, Int.reduceLE, Int.reduceNeg, beq_self_eq_true, decide_true, decide_false, ybeq_some, ybeq_none, beqT, beqF, empty_toList, exs]; rfl)) ?_)
    refine W.cond rfl ?_ ?_
    · intro hlt
      simp only [decide_eq_true_eq, Int.ofNat_lt] at hlt
      obtain ⟨n, hn⟩ : ∃ n, l[k]? = some n := ⟨_, List.getElem?_eq_getElem hlt⟩
      have hd := drop_of_getElem? hn
      have hmn := hm n
      repeat (first | refine W.seq ?_ | refine W.block ?_ | refine W.skip ?_ | refine W.exit ?_ | refine W.region tab_ok 0 (by decide) (exec_run (by simp only [exec, stepQ, wantA, yieldA, kind, qv, qv1, qv2, stO, adrId, dataC, replC, eqNil, binNil, shiftInt, A.down, A1.up, downs, toR, ev, putS, rowO, ofConst, cellsA, cellsC, asC, asCs, ld, ldR, bin, binInt, binStr, binBool, sliceOf, bndOf, repl, fillC, zeroC, chunks, ptrIds, tabs, upd_app, mem_nil_app, entry_zero, entry_succ, entry_nil, top_app, maxStr, ByteArray.size, A.kill, O.kill, killS_app, killM_app, Nat.reduceAdd, Nat.reduceLeDiff, Nat.reduceEqDiff, Nat.reduceMul, Int.reduceToNat, reduceIte, wf_i64, Int.reduceLE, Int.reduceNeg, beq_self_eq_true, decide_true, decide_false, ybeq_some, ybeq_none, beqT, beqF, empty_toList, exs, at_map hn, cStr]; rfl)) ?_)
      refine W.regionK tab_ok 0 (by decide) ?_
      refine runk_split 2 (by simp only [exec, stepQ, wantA, yieldA, kind, qv, qv1, qv2, stO, adrId, dataC, replC, eqNil, binNil, shiftInt, A.down, A1.up, downs, toR, ev, putS, rowO, ofConst, cellsA, cellsC, asC, asCs, ld, ldR, bin, binInt, binStr, binBool, sliceOf, bndOf, repl, fillC, zeroC, chunks, ptrIds, tabs, upd_app, mem_nil_app, entry_zero, entry_succ, entry_nil, top_app, maxStr, ByteArray.size, A.kill, O.kill, killS_app, killM_app, Nat.reduceAdd, Nat.reduceLeDiff, Nat.reduceEqDiff, Nat.reduceMul, Int.reduceToNat, reduceIte, wf_i64, Int.reduceLE, Int.reduceNeg, beq_self_eq_true, decide_true, decide_false, ybeq_some, ybeq_none, beqT, beqF, empty_toList, exs]; rfl) ?_
      refine runk_call rfl rfl rfl rfl rfl (by simp) (cvs_cons cv_refl (cvs_cons cv_refl cvs_nil)) (find_ok cs mn n hlen _) ?_
      refine runk_exec (by simp only [exec, stepQ, wantA, yieldA, kind, qv, qv1, qv2, stO, adrId, dataC, replC, eqNil, binNil, shiftInt, A.down, A1.up, downs, toR, ev, putS, rowO, ofConst, cellsA, cellsC, asC, asCs, ld, ldR, bin, binInt, binStr, binBool, sliceOf, bndOf, repl, fillC, zeroC, chunks, ptrIds, tabs, upd_app, mem_nil_app, entry_zero, entry_succ, entry_nil, top_app, maxStr, ByteArray.size, A.kill, O.kill, killS_app, killM_app, Nat.reduceAdd, Nat.reduceLeDiff, Nat.reduceEqDiff, Nat.reduceMul, Int.reduceToNat, reduceIte, wf_i64, Int.reduceLE, Int.reduceNeg, beq_self_eq_true, decide_true, decide_false, ybeq_some, ybeq_none, beqT, beqF, empty_toList, exs, foundC, cClass]; rfl) ?_
      repeat (first | refine W.seq ?_ | refine W.block ?_ | refine W.skip ?_ | refine W.exit ?_ | refine W.region tab_ok 0 (by decide) (exec_run (by simp only [exec, stepQ, wantA, yieldA, kind, qv, qv1, qv2, stO, adrId, dataC, replC, eqNil, binNil, shiftInt, A.down, A1.up, downs, toR, ev, putS, rowO, ofConst, cellsA, cellsC, asC, asCs, ld, ldR, bin, binInt, binStr, binBool, sliceOf, bndOf, repl, fillC, zeroC, chunks, ptrIds, tabs, upd_app, mem_nil_app, entry_zero, entry_succ, entry_nil, top_app, maxStr, ByteArray.size, A.kill, O.kill, killS_app, killM_app, Nat.reduceAdd, Nat.reduceLeDiff, Nat.reduceEqDiff, Nat.reduceMul, Int.reduceToNat, reduceIte, wf_i64, Int.reduceLE, Int.reduceNeg, beq_self_eq_true, decide_true, decide_false, ybeq_some, ybeq_none, beqT, beqF, empty_toList, exs]; rfl)) ?_)
      refine W.loop (ι := Nat) (fun j => ⟨upd (upd (upd (upd (upd (upd (upd (upd (upd (upd (fun _ => .top) 2 (.c (.str name))) 3 (.ptr 3 0)) 6 (.ptr 6 0)) 15 (.c (.sl (l.map cStr)))) 16 (.c (.int .i64 l.length))) 17 (.c (.int .i64 k))) 10 (.c (.str n))) 28 (.c (.sl ((classD cs n).methods.map cMethod)))) 29 (.c (.int .i64 (classD cs n).methods.length))) 30 (.c (.int .i64 j)),
          upd (upd Mem.nil 3 (some (.box 25 [.c (.sl (cs.map cClass)), .c mn]))) 6 (some (.box 40 [.c (.str ⟨#[]⟩), .c (.str ⟨#[]⟩), .nil, .nil]))⟩)
        (fun j => j ≤ (classD cs n).methods.length ∧ ((classD cs n).methods.take j).find? (methIs name) = none) (fun j => (classD cs n).methods.length - j) 0 ?start ⟨Nat.zero_le _, rfl⟩ ?round
      case start =>
        refine le_mk ?sle ?mle ?swf ?mwf ?kept (by rfl)
        case kept => exact kept_not hkeep
        case swf => repeat (first | exact swf_top _ | refine swf_upd ?_ (by simp [A.ids, upd_app]))
        case mwf => repeat (first | exact mwf_nil _ | refine mwf_upd ?_ (by simp [A.ids, O.ids, upd_app]))
        case mle => repeat (first | exact mle_nil _ | exact mle_refl _ | refine mle_upd ?_ (by first | rfl | (simp only [upd_app, killM_app, Nat.reduceEqDiff, reduceIte]; done)))
        case sle => repeat (first | exact sle_top _ | exact sle_refl _ | refine sle_upd ?_ (by first | rfl | (simp only [upd_app, entry_zero, entry_succ, Nat.reduceEqDiff, reduceIte]; done)))
      case round =>
        rintro j ⟨hj, hin⟩
        repeat (first | refine W.seq ?_ | refine W.block ?_ | refine W.skip ?_ | refine W.exit ?_ | refine W.region tab_ok 0 (by decide) (exec_run (by simp only [exec, stepQ, wantA, yieldA, kind, qv, qv1, qv2, stO, adrId, dataC, replC, eqNil, binNil, shiftInt, A.down, A1.up, downs, toR, ev, putS, rowO, ofConst, cellsA, cellsC, asC, asCs, ld, ldR, bin, binInt, binStr, binBool, sliceOf, bndOf, repl, fillC, zeroC, chunks, ptrIds, tabs, upd_app, mem_nil_app, entry_zero, entry_succ, entry_nil, top_app, maxStr, ByteArray.size, A.kill, O.kill, killS_app, killM_app, Nat.reduceAdd, Nat.reduceLeDiff, Nat.reduceEqDiff, Nat.reduceMul, Int.reduceToNat, reduceIte, wf_i64, Int.reduceLE, Int.reduceNeg, beq_self_eq_true, decide_true, decide_false, ybeq_some, ybeq_none, beqT, beqF, empty_toList, exs]; rfl)) ?_)
        refine W.cond rfl ?_ ?_
        · intro hlj
          simp only [decide_eq_true_eq, Int.ofNat_lt] at hlj
          obtain ⟨x, hx⟩ : ∃ x, (classD cs n).methods[j]? = some x := ⟨_, List.getElem?_eq_getElem hlj⟩
          repeat (first | refine W.seq ?_ | refine W.block ?_ | refine W.skip ?_ | refine W.exit ?_ | refine W.region tab_ok 0 (by decide) (exec_run (by simp only [exec, stepQ, wantA, yieldA, kind, qv, qv1, qv2, stO, adrId, dataC, replC, eqNil, binNil, shiftInt, A.down, A1.up, downs, toR, ev, putS, rowO, ofConst, cellsA, cellsC, asC, asCs, ld, ldR, bin, binInt, binStr, binBool, sliceOf, bndOf, repl, fillC, zeroC, chunks, ptrIds, tabs, upd_app, mem_nil_app, entry_zero, entry_succ, entry_nil, top_app, maxStr, ByteArray.size, A.kill, O.kill, killS_app, killM_app, Nat.reduceAdd, Nat.reduceLeDiff, Nat.reduceEqDiff, Nat.reduceMul, Int.reduceToNat, reduceIte, wf_i64, Int.reduceLE, Int.reduceNeg, beq_self_eq_true, decide_true, decide_false, ybeq_some, ybeq_none, beqT, beqF, empty_toList, exs, at_map hx, cMethod]; rfl)) ?_)
          refine W.cond rfl ?_ ?_
          · intro heq
            repeat (first | refine W.seq ?_ | refine W.block ?_ | refine W.skip ?_ | refine W.exit ?_ | refine W.region tab_ok 0 (by decide) (exec_run (by simp only [exec, stepQ, wantA, yieldA, kind, qv, qv1, qv2, stO, adrId, dataC, replC, eqNil, binNil, shiftInt, A.down, A1.up, downs, toR, ev, putS, rowO, ofConst, cellsA, cellsC, asC, asCs, ld, ldR, bin, binInt, binStr, binBool, sliceOf, bndOf, repl, fillC, zeroC, chunks, ptrIds, tabs, upd_app, mem_nil_app, entry_zero, entry_succ, entry_nil, top_app, maxStr, ByteArray.size, A.kill, O.kill, killS_app, killM_app, Nat.reduceAdd, Nat.reduceLeDiff, Nat.reduceEqDiff, Nat.reduceMul, Int.reduceToNat, reduceIte, wf_i64, Int.reduceLE, Int.reduceNeg, beq_self_eq_true, decide_true, decide_false, ybeq_some, ybeq_none, beqT, beqF, empty_toList, exs]; rfl)) ?_)
            refine W.ret ⟨.inr rfl, by rfl, ?_⟩
            simp only [Try.f38, resA, resOne, toT, fin, exec, stepQ, wantA, yieldA, kind, qv, qv1, qv2, stO, adrId, dataC, replC, eqNil, binNil, shiftInt, A.down, A1.up, downs, toR, ev, putS, rowO, ofConst, cellsA, cellsC, asC, asCs, ld, ldR, bin, binInt, binStr, binBool, sliceOf, bndOf, repl, fillC, zeroC, chunks, ptrIds, tabs, upd_app, mem_nil_app, entry_zero, entry_succ, entry_nil, top_app, maxStr, ByteArray.size, A.kill, O.kill, killS_app, killM_app, Nat.reduceAdd, Nat.reduceLeDiff, Nat.reduceEqDiff, Nat.reduceMul, Int.reduceToNat, reduceIte, wf_i64, Int.reduceLE, Int.reduceNeg, beq_self_eq_true, decide_true, decide_false, ybeq_some, ybeq_none, beqT, beqF, empty_toList, exs]
            rw [hall, hd]
            simp [methodF, methodC, (find_none hin hx).1 heq, cMethod]
          · intro hne
            repeat (first | refine W.seq ?_ | refine W.block ?_ | refine W.skip ?_ | refine W.exit ?_ | refine W.region tab_ok 0 (by decide) (exec_run (by simp only [exec, stepQ, wantA, yieldA, kind, qv, qv1, qv2, stO, adrId, dataC, replC, eqNil, binNil, shiftInt, A.down, A1.up, downs, toR, ev, putS, rowO, ofConst, cellsA, cellsC, asC, asCs, ld, ldR, bin, binInt, binStr, binBool, sliceOf, bndOf, repl, fillC, zeroC, chunks, ptrIds, tabs, upd_app, mem_nil_app, entry_zero, entry_succ, entry_nil, top_app, maxStr, ByteArray.size, A.kill, O.kill, killS_app, killM_app, Nat.reduceAdd, Nat.reduceLeDiff, Nat.reduceEqDiff, Nat.reduceMul, Int.reduceToNat, reduceIte, wf_i64, Int.reduceLE, Int.reduceNeg, beq_self_eq_true, decide_true, decide_false, ybeq_some, ybeq_none, beqT, beqF, empty_toList, exs]; rfl)) ?_)
            refine ⟨j + 1, ⟨hlj, (find_none hin hx).2 hne⟩, by omega, ?_⟩
            refine le_mk ?sle ?mle ?swf ?mwf ?kept (by rfl)
            case kept => exact kept_not hkeep
            case swf => repeat (first | exact swf_top _ | refine swf_upd ?_ (by simp [A.ids, upd_app]))
            case mwf => repeat (first | exact mwf_nil _ | refine mwf_upd ?_ (by simp [A.ids, O.ids, upd_app]))
            case mle => repeat (first | exact mle_nil _ | exact mle_refl _ | refine mle_upd ?_ (by first | rfl | (simp only [upd_app, killM_app, Nat.reduceEqDiff, reduceIte, wrap_succ (show j + 1 < 9223372036854775808 by omega)]; done)))
            case sle => repeat (first | exact sle_top _ | exact sle_refl _ | refine sle_upd ?_ (by first | rfl | (simp only [upd_app, entry_zero, entry_succ, Nat.reduceEqDiff, reduceIte, wrap_succ (show j + 1 < 9223372036854775808 by omega)]; done)))
        · intro hge
          simp only [decide_eq_false_iff_not, Int.ofNat_lt] at hge
          obtain rfl : j = (classD cs n).methods.length := by omega
          rw [List.take_length] at hin
          repeat (first | refine W.seq ?_ | refine W.block ?_ | refine W.skip ?_ | refine W.exit ?_ | refine W.region tab_ok 0 (by decide) (exec_run (by simp only [exec, stepQ, wantA, yieldA, kind, qv, qv1, qv2, stO, adrId, dataC, replC, eqNil, binNil, shiftInt, A.down, A1.up, downs, toR, ev, putS, rowO, ofConst, cellsA, cellsC, asC, asCs, ld, ldR, bin, binInt, binStr, binBool, sliceOf, bndOf, repl, fillC, zeroC, chunks, ptrIds, tabs, upd_app, mem_nil_app, entry_zero, entry_succ, entry_nil, top_app, maxStr, ByteArray.size, A.kill, O.kill, killS_app, killM_app, Nat.reduceAdd, Nat.reduceLeDiff, Nat.reduceEqDiff, Nat.reduceMul, Int.reduceToNat, reduceIte, wf_i64, Int.reduceLE, Int.reduceNeg, beq_self_eq_true, decide_true, decide_false, ybeq_some, ybeq_none, beqT, beqF, empty_toList, exs]; rfl)) ?_)
          refine ⟨k + 1, ⟨hlt, by rw [hall, hd, methodF_cons hin]⟩, by omega, ?_⟩
          refine le_mk ?sle ?mle ?swf ?mwf ?kept (by rfl)
          case kept => exact kept_not hkeep
          case swf => repeat (first | exact swf_top _ | refine swf_upd ?_ (by simp [A.ids, upd_app]))
          case mwf => repeat (first | exact mwf_nil _ | refine mwf_upd ?_ (by simp [A.ids, O.ids, upd_app]))
          case mle => repeat (first | exact mle_nil _ | exact mle_refl _ | refine mle_upd ?_ (by first | rfl | (simp only [upd_app, killM_app, Nat.reduceEqDiff, reduceIte, wrap_succ (show k + 1 < 9223372036854775808 by omega)]; done)))
          case sle => repeat (first | exact sle_top _ | exact sle_refl _ | refine sle_upd ?_ (by first | rfl | (simp only [upd_app, entry_zero, entry_succ, Nat.reduceEqDiff, reduceIte, wrap_succ (show k + 1 < 9223372036854775808 by omega)]; done)))
    · intro hge
      simp only [decide_eq_false_iff_not, Int.ofNat_lt] at hge
      obtain rfl : k = l.length := by omega
      rw [List.drop_length] at hall
      repeat (first | refine W.seq ?_ | refine W.block ?_ | refine W.skip ?_ | refine W.exit ?_ | refine W.region tab_ok 0 (by decide) (exec_run (by simp only [exec, stepQ, wantA, yieldA, kind, qv, qv1, qv2, stO, adrId, dataC, replC, eqNil, binNil, shiftInt, A.down, A1.up, downs, toR, ev, putS, rowO, ofConst, cellsA, cellsC, asC, asCs, ld, ldR, bin, binInt, binStr, binBool, sliceOf, bndOf, repl, fillC, zeroC, chunks, ptrIds, tabs, upd_app, mem_nil_app, entry_zero, entry_succ, entry_nil, top_app, maxStr, ByteArray.size, A.kill, O.kill, killS_app, killM_app, Nat.reduceAdd, Nat.reduceLeDiff, Nat.reduceEqDiff, Nat.reduceMul, Int.reduceToNat, reduceIte, wf_i64, Int.reduceLE, Int.reduceNeg, beq_self_eq_true, decide_true, decide_false, ybeq_some, ybeq_none, beqT, beqF, empty_toList, exs]; rfl)) ?_)
      refine W.ret ⟨.inr rfl, by rfl, ?_⟩
      simp only [Try.f38, resA, resOne, toT, fin, exec, stepQ, wantA, yieldA, kind, qv, qv1, qv2, stO, adrId, dataC, replC, eqNil, binNil, shiftInt, A.down, A1.up, downs, toR, ev, putS, rowO, ofConst, cellsA, cellsC, asC, asCs, ld, ldR, bin, binInt, binStr, binBool, sliceOf, bndOf, repl, fillC, zeroC, chunks, ptrIds, tabs, upd_app, mem_nil_app, entry_zero, entry_succ, entry_nil, top_app, maxStr, ByteArray.size, A.kill, O.kill, killS_app, killM_app, Nat.reduceAdd, Nat.reduceLeDiff, Nat.reduceEqDiff, Nat.reduceMul, Int.reduceToNat, reduceIte, wf_i64, Int.reduceLE, Int.reduceNeg, beq_self_eq_true, decide_true, decide_false, ybeq_some, ybeq_none, beqT, beqF, empty_toList, exs]
      rw [hall]
      simp [methodF, methodC, cMethod, zeroMethod, cStmts]
end V
end Go.Proofs.Ytjciafpihdbedaa
end
section
/- The document's classes, over plain data: which methods, names, fields may be. -/
namespace Go.Proofs.Ytjciafpihdbedaa
namespace V
open Go.RowKit
set_option linter.unusedSimpArgs false
/-- One method of a class, beside those ahead of it and those above. -/
def methRowB (cs : List Class) (above : List ByteArray) (l : List Method) (i : Nat) : Bool :=
  match l[i]? with
  | none => true
  | some x => !((l.take i).any fun o => o.name.toList == x.name.toList) && !((match methodF cs x.name above with | some (o, _) => !(likeB x o) | none => false) || twiceB x.params)
def methodsB (cs : List Class) (above : List ByteArray) (l : List Method) : Bool := (List.range l.length).all (methRowB cs above l)
theorem all_range {p : Nat → Bool} {n : Nat} (h : ∀ i < n, p i = true) : (List.range n).all p = true := List.all_eq_true.2 fun i hi => h i (List.mem_range.1 hi)
theorem not_range {p : Nat → Bool} {n i : Nat} (hi : i < n) (h : p i = false) : (List.range n).all p = false := List.all_eq_false.2 ⟨i, List.mem_range.2 hi, by simp [h]⟩
theorem any_take {α : Type} {p : α → Bool} {l : List α} {k : Nat} {x : α} (h : (l.take k).any p = false) (hx : l[k]? = some x) (hp : p x = false) : (l.take (k + 1)).any p = false := by
  rw [List.take_add_one, hx, List.any_append, h]
  simp [hp]
theorem any_at {α : Type} {p : α → Bool} {l : List α} {k i : Nat} {x : α} (hk : k < i) (hx : l[k]? = some x) (hp : p x = true) : (l.take i).any p = true :=
  List.any_eq_true.2 ⟨x, List.mem_of_getElem? (i := k) (by rw [List.getElem?_take, if_pos hk]; exact hx), hp⟩
theorem methods_ok (cs : List Class) (mn : C) (c : Class) (l : List ByteArray) (hlen : cs.length ≤ 1000000000000) (hl : l.length ≤ 1000000000000) (hm : ∀ n, (classD cs n).methods.length ≤ 1000000000000) (hc : c.methods.length ≤ 1000000000000) (hp : ∀ x ∈ c.methods, x.params.length ≤ 1000000000000) (m : Mem) :
    COk Try.prog 32 [.agg [.sl (cs.map cClass), mn], .agg (cClass c), .c (.sl (l.map cStr))] m (.c (.bool (methodsB cs l c.methods))) := by
  refine (ok_pure tab_ok Try.func32 (by kernel_rfl) rfl rfl (by rfl) (by rfl) (by rfl) (fun R hkeep => ?_) m)
  repeat (first | refine W.seq ?_ | refine W.block ?_ | refine W.skip ?_ | refine W.exit ?_ | refine W.region tab_ok 0 (by decide) (exec_run (by simp only [exec, stepQ, wantA, yieldA, kind, qv, qv1, qv2, stO, adrId, dataC, replC, eqNil, binNil, shiftInt, A.down, A1.up, downs, toR, ev, putS, rowO, ofConst, cellsA, cellsC, asC, asCs, ld, ldR, bin, binInt, binStr, binBool, sliceOf, bndOf, repl, fillC, zeroC, chunks, ptrIds, tabs, upd_app, mem_nil_app, entry_zero, entry_succ, entry_nil, top_app, maxStr, ByteArray.size, A.kill, O.kill, killS_app, killM_app, Nat.reduceAdd, Nat.reduceLeDiff, Nat.reduceEqDiff, Nat.reduceMul, Int.reduceToNat, reduceIte, wf_i64, Int.reduceLE, Int.reduceNeg, beq_self_eq_true, decide_true, decide_false, ybeq_some, ybeq_none, beqT, beqF, empty_toList, exs, cClass]; rfl)) ?_)
  refine W.loop (ι := Nat) (fun k => ⟨upd (upd (upd (upd (upd (upd (fun _ => .top) 2 (.c (.sl (l.map cStr)))) 3 (.ptr 3 0)) 4 (.ptr 4 0)) 15 (.c (.sl (c.methods.map cMethod)))) 16 (.c (.int .i64 c.methods.length))) 17 (.c (.int .i64 k)),
      upd (upd Mem.nil 3 (some (.box 25 [.c (.sl (cs.map cClass)), .c mn]))) 4 (some (.box 37 ((cClass c).map .c)))⟩)
    (fun k => k ≤ c.methods.length ∧ ∀ i < k, methRowB cs l c.methods i = true) (fun k => c.methods.length - k) 0 ?start ⟨Nat.zero_le _, fun i hi => by omega⟩ ?round
  case start =>
    refine le_mk ?sle ?mle ?swf ?mwf ?kept (by rfl)
    case kept => exact kept_not hkeep
    case swf => repeat (first | exact swf_top _ | refine swf_upd ?_ (by simp [A.ids, upd_app]))
    case mwf => repeat (first | exact mwf_nil _ | refine mwf_upd ?_ (by simp [A.ids, O.ids, upd_app]))
    case mle => repeat (first | exact mle_nil _ | exact mle_refl _ | refine mle_upd ?_ (by first | rfl | (simp only [upd_app, killM_app, Nat.reduceEqDiff, reduceIte]; done)))
    case sle => repeat (first | exact sle_top _ | exact sle_refl _ | refine sle_upd ?_ (by first | rfl | (simp only [upd_app, entry_zero, entry_succ, Nat.reduceEqDiff, reduceIte]; done)))
  case round =>
    rintro k ⟨hk, hall⟩
    repeat (first | refine W.seq ?_ | refine W.block ?_ | refine W.skip ?_ | refine W.exit ?_ | refine W.region tab_ok 0 (by decide) (exec_run (by simp only [exec, stepQ, wantA, yieldA, kind, qv, qv1, qv2, stO, adrId, dataC, replC, eqNil, binNil, shiftInt, A.down, A1.up, downs, toR, ev, putS, rowO, ofConst, cellsA, cellsC, asC, asCs, ld, ldR, bin, binInt, binStr, binBool, sliceOf, bndOf, repl, fillC, zeroC, chunks, ptrIds, tabs, upd_app, mem_nil_app, entry_zero, entry_succ, entry_nil, top_app, maxStr, ByteArray.size, A.kill, O.kill, killS_app, killM_app, Nat.reduceAdd, Nat.reduceLeDiff, Nat.reduceEqDiff, Nat.reduceMul, Int.reduceToNat, reduceIte, wf_i64, Int.reduceLE, Int.reduceNeg, beq_self_eq_true, decide_true, decide_false, ybeq_some, ybeq_none, beqT, beqF, empty_toList, exs]; rfl)) ?_)
    refine W.cond rfl ?_ ?_
    · intro hlt
      simp only [decide_eq_true_eq, Int.ofNat_lt] at hlt
      obtain ⟨x, hx⟩ : ∃ x, c.methods[k]? = some x := ⟨_, List.getElem?_eq_getElem hlt⟩
      have hpx := hp x (List.mem_of_getElem? hx)
      have hkl : k ≤ c.methods.length := hk
      repeat (first | refine W.seq ?_ | refine W.block ?_ | refine W.skip ?_ | refine W.exit ?_ | refine W.region tab_ok 0 (by decide) (exec_run (by simp only [exec, stepQ, wantA, yieldA, kind, qv, qv1, qv2, stO, adrId, dataC, replC, eqNil, binNil, shiftInt, A.down, A1.up, downs, toR, ev, putS, rowO, ofConst, cellsA, cellsC, asC, asCs, ld, ldR, bin, binInt, binStr, binBool, sliceOf, bndOf, repl, fillC, zeroC, chunks, ptrIds, tabs, upd_app, mem_nil_app, entry_zero, entry_succ, entry_nil, top_app, maxStr, ByteArray.size, A.kill, O.kill, killS_app, killM_app, Nat.reduceAdd, Nat.reduceLeDiff, Nat.reduceEqDiff, Nat.reduceMul, Int.reduceToNat, reduceIte, wf_i64, Int.reduceLE, Int.reduceNeg, beq_self_eq_true, decide_true, decide_false, ybeq_some, ybeq_none, beqT, beqF, empty_toList, exs, at_map hx, cMethod, cClass, Nat.zero_le, true_or, hkl, ← List.map_take, List.length_take, Nat.min_eq_left hkl]; rfl)) ?_)
      refine W.loop (ι := Nat) (fun j => ⟨upd (upd (upd (upd (upd (upd (upd (upd (upd (upd (fun _ => .top) 2 (.c (.sl (l.map cStr)))) 3 (.ptr 3 0)) 4 (.ptr 4 0)) 15 (.c (.sl (c.methods.map cMethod)))) 16 (.c (.int .i64 c.methods.length))) 17 (.c (.int .i64 k))) 8 (.ptr 8 0)) 25 (.c (.sl ((c.methods.take k).map cMethod)))) 26 (.c (.int .i64 k))) 27 (.c (.int .i64 j)),
          upd (upd (upd Mem.nil 3 (some (.box 25 [.c (.sl (cs.map cClass)), .c mn]))) 4 (some (.box 37 ((cClass c).map .c)))) 8 (some (.box 40 ((cMethod x).map .c)))⟩)
        (fun j => j ≤ k ∧ (c.methods.take j).any (fun o => o.name.toList == x.name.toList) = false) (fun j => k - j) 0 ?start ⟨Nat.zero_le _, rfl⟩ ?round
      case start =>
        refine le_mk ?sle ?mle ?swf ?mwf ?kept (by rfl)
        case kept => exact kept_not hkeep
        case swf => repeat (first | exact swf_top _ | refine swf_upd ?_ (by simp [A.ids, upd_app]))
        case mwf => repeat (first | exact mwf_nil _ | refine mwf_upd ?_ (by simp [A.ids, O.ids, upd_app]))
        case mle => repeat (first | exact mle_nil _ | exact mle_refl _ | refine mle_upd ?_ (by first | rfl | (simp only [upd_app, killM_app, Nat.reduceEqDiff, reduceIte]; done)))
        case sle => repeat (first | exact sle_top _ | exact sle_refl _ | refine sle_upd ?_ (by first | rfl | (simp only [upd_app, entry_zero, entry_succ, Nat.reduceEqDiff, reduceIte]; done)))
      case round =>
        rintro j ⟨hj, hin⟩
        repeat (first | refine W.seq ?_ | refine W.block ?_ | refine W.skip ?_ | refine W.exit ?_ | refine W.region tab_ok 0 (by decide) (exec_run (by simp only [exec, stepQ, wantA, yieldA, kind, qv, qv1, qv2, stO, adrId, dataC, replC, eqNil, binNil, shiftInt, A.down, A1.up, downs, toR, ev, putS, rowO, ofConst, cellsA, cellsC, asC, asCs, ld, ldR, bin, binInt, binStr, binBool, sliceOf, bndOf, repl, fillC, zeroC, chunks, ptrIds, tabs, upd_app, mem_nil_app, entry_zero, entry_succ, entry_nil, top_app, maxStr, ByteArray.size, A.kill, O.kill, killS_app, killM_app, Nat.reduceAdd, Nat.reduceLeDiff, Nat.reduceEqDiff, Nat.reduceMul, Int.reduceToNat, reduceIte, wf_i64, Int.reduceLE, Int.reduceNeg, beq_self_eq_true, decide_true, decide_false, ybeq_some, ybeq_none, beqT, beqF, empty_toList, exs]; rfl)) ?_)
        refine W.cond rfl ?_ ?_
        · intro hlj
          simp only [decide_eq_true_eq, Int.ofNat_lt] at hlj
          obtain ⟨y, hy⟩ : ∃ y, c.methods[j]? = some y := ⟨_, List.getElem?_eq_getElem (by omega)⟩
          have hy' : (c.methods.take k)[j]? = some y := by rw [List.getElem?_take, if_pos hlj]; exact hy
          repeat (first | refine W.seq ?_ | refine W.block ?_ | refine W.skip ?_ | refine W.exit ?_ | refine W.region tab_ok 0 (by decide) (exec_run (by simp only [exec, stepQ, wantA, yieldA, kind, qv, qv1, qv2, stO, adrId, dataC, replC, eqNil, binNil, shiftInt, A.down, A1.up, downs, toR, ev, putS, rowO, ofConst, cellsA, cellsC, asC, asCs, ld, ldR, bin, binInt, binStr, binBool, sliceOf, bndOf, repl, fillC, zeroC, chunks, ptrIds, tabs, upd_app, mem_nil_app, entry_zero, entry_succ, entry_nil, top_app, maxStr, ByteArray.size, A.kill, O.kill, killS_app, killM_app, Nat.reduceAdd, Nat.reduceLeDiff, Nat.reduceEqDiff, Nat.reduceMul, Int.reduceToNat, reduceIte, wf_i64, Int.reduceLE, Int.reduceNeg, beq_self_eq_true, decide_true, decide_false, ybeq_some, ybeq_none, beqT, beqF, empty_toList, exs, at_map hy', cMethod]; rfl)) ?_)
          refine W.cond rfl ?_ ?_
          · intro heq
            repeat (first | refine W.seq ?_ | refine W.block ?_ | refine W.skip ?_ | refine W.exit ?_ | refine W.region tab_ok 0 (by decide) (exec_run (by simp only [exec, stepQ, wantA, yieldA, kind, qv, qv1, qv2, stO, adrId, dataC, replC, eqNil, binNil, shiftInt, A.down, A1.up, downs, toR, ev, putS, rowO, ofConst, cellsA, cellsC, asC, asCs, ld, ldR, bin, binInt, binStr, binBool, sliceOf, bndOf, repl, fillC, zeroC, chunks, ptrIds, tabs, upd_app, mem_nil_app, entry_zero, entry_succ, entry_nil, top_app, maxStr, ByteArray.size, A.kill, O.kill, killS_app, killM_app, Nat.reduceAdd, Nat.reduceLeDiff, Nat.reduceEqDiff, Nat.reduceMul, Int.reduceToNat, reduceIte, wf_i64, Int.reduceLE, Int.reduceNeg, beq_self_eq_true, decide_true, decide_false, ybeq_some, ybeq_none, beqT, beqF, empty_toList, exs]; rfl)) ?_)
            refine W.ret ⟨.inr rfl, by rfl, ?_⟩
            simp only [Try.f32, resA, resOne, toT, fin, exec, stepQ, wantA, yieldA, kind, qv, qv1, qv2, stO, adrId, dataC, replC, eqNil, binNil, shiftInt, A.down, A1.up, downs, toR, ev, putS, rowO, ofConst, cellsA, cellsC, asC, asCs, ld, ldR, bin, binInt, binStr, binBool, sliceOf, bndOf, repl, fillC, zeroC, chunks, ptrIds, tabs, upd_app, mem_nil_app, entry_zero, entry_succ, entry_nil, top_app, maxStr, ByteArray.size, A.kill, O.kill, killS_app, killM_app, Nat.reduceAdd, Nat.reduceLeDiff, Nat.reduceEqDiff, Nat.reduceMul, Int.reduceToNat, reduceIte, wf_i64, Int.reduceLE, Int.reduceNeg, beq_self_eq_true, decide_true, decide_false, ybeq_some, ybeq_none, beqT, beqF, empty_toList, exs]
            have : methodsB cs l c.methods = false := not_range hlt (by simp only [methRowB, hx]; rw [any_at hlj hy heq]; rfl)
            rw [this]
          · intro hne
            repeat (first | refine W.seq ?_ | refine W.block ?_ | refine W.skip ?_ | refine W.exit ?_ | refine W.region tab_ok 0 (by decide) (exec_run (by simp only [exec, stepQ, wantA, yieldA, kind, qv, qv1, qv2, stO, adrId, dataC, replC, eqNil, binNil, shiftInt, A.down, A1.up, downs, toR, ev, putS, rowO, ofConst, cellsA, cellsC, asC, asCs, ld, ldR, bin, binInt, binStr, binBool, sliceOf, bndOf, repl, fillC, zeroC, chunks, ptrIds, tabs, upd_app, mem_nil_app, entry_zero, entry_succ, entry_nil, top_app, maxStr, ByteArray.size, A.kill, O.kill, killS_app, killM_app, Nat.reduceAdd, Nat.reduceLeDiff, Nat.reduceEqDiff, Nat.reduceMul, Int.reduceToNat, reduceIte, wf_i64, Int.reduceLE, Int.reduceNeg, beq_self_eq_true, decide_true, decide_false, ybeq_some, ybeq_none, beqT, beqF, empty_toList, exs]; rfl)) ?_)
            refine ⟨j + 1, ⟨hlj, any_take hin hy hne⟩, by omega, ?_⟩
            refine le_mk ?sle ?mle ?swf ?mwf ?kept (by rfl)
            case kept => exact kept_not hkeep
            case swf => repeat (first | exact swf_top _ | refine swf_upd ?_ (by simp [A.ids, upd_app]))
            case mwf => repeat (first | exact mwf_nil _ | refine mwf_upd ?_ (by simp [A.ids, O.ids, upd_app]))
            case mle => repeat (first | exact mle_nil _ | exact mle_refl _ | refine mle_upd ?_ (by first | rfl | (simp only [upd_app, killM_app, Nat.reduceEqDiff, reduceIte, wrap_succ (show j + 1 < 9223372036854775808 by omega)]; done)))
            case sle => repeat (first | exact sle_top _ | exact sle_refl _ | refine sle_upd ?_ (by first | rfl | (simp only [upd_app, entry_zero, entry_succ, Nat.reduceEqDiff, reduceIte, wrap_succ (show j + 1 < 9223372036854775808 by omega)]; done)))
        · intro hge
          simp only [decide_eq_false_iff_not, Int.ofNat_lt] at hge
          obtain rfl : j = k := by omega
          have hrow : methRowB cs l c.methods j = !((match methodF cs x.name l with | some (o, _) => !(likeB x o) | none => false) || twiceB x.params) := by
            simp only [methRowB, hx]; rw [hin]; rfl
          repeat (first | refine W.seq ?_ | refine W.block ?_ | refine W.skip ?_ | refine W.exit ?_ | refine W.region tab_ok 0 (by decide) (exec_run (by simp only [exec, stepQ, wantA, yieldA, kind, qv, qv1, qv2, stO, adrId, dataC, replC, eqNil, binNil, shiftInt, A.down, A1.up, downs, toR, ev, putS, rowO, ofConst, cellsA, cellsC, asC, asCs, ld, ldR, bin, binInt, binStr, binBool, sliceOf, bndOf, repl, fillC, zeroC, chunks, ptrIds, tabs, upd_app, mem_nil_app, entry_zero, entry_succ, entry_nil, top_app, maxStr, ByteArray.size, A.kill, O.kill, killS_app, killM_app, Nat.reduceAdd, Nat.reduceLeDiff, Nat.reduceEqDiff, Nat.reduceMul, Int.reduceToNat, reduceIte, wf_i64, Int.reduceLE, Int.reduceNeg, beq_self_eq_true, decide_true, decide_false, ybeq_some, ybeq_none, beqT, beqF, empty_toList, exs]; rfl)) ?_)
          refine W.regionK tab_ok 0 (by decide) ?_
          refine runk_split 4 (by simp only [exec, stepQ, wantA, yieldA, kind, qv, qv1, qv2, stO, adrId, dataC, replC, eqNil, binNil, shiftInt, A.down, A1.up, downs, toR, ev, putS, rowO, ofConst, cellsA, cellsC, asC, asCs, ld, ldR, bin, binInt, binStr, binBool, sliceOf, bndOf, repl, fillC, zeroC, chunks, ptrIds, tabs, upd_app, mem_nil_app, entry_zero, entry_succ, entry_nil, top_app, maxStr, ByteArray.size, A.kill, O.kill, killS_app, killM_app, Nat.reduceAdd, Nat.reduceLeDiff, Nat.reduceEqDiff, Nat.reduceMul, Int.reduceToNat, reduceIte, wf_i64, Int.reduceLE, Int.reduceNeg, beq_self_eq_true, decide_true, decide_false, ybeq_some, ybeq_none, beqT, beqF, empty_toList, exs, cMethod]; rfl) ?_
          refine runk_call rfl rfl rfl rfl rfl (by simp) (cvs_cons cv_refl (cvs_cons cv_refl (cvs_cons cv_refl cvs_nil))) (method_ok cs mn l x.name hlen hl hm _) ?_
          cases hf : methodF cs x.name l with
          | none =>
            refine runk_exec (by simp only [exec, stepQ, wantA, yieldA, kind, qv, qv1, qv2, stO, adrId, dataC, replC, eqNil, binNil, shiftInt, A.down, A1.up, downs, toR, ev, putS, rowO, ofConst, cellsA, cellsC, asC, asCs, ld, ldR, bin, binInt, binStr, binBool, sliceOf, bndOf, repl, fillC, zeroC, chunks, ptrIds, tabs, upd_app, mem_nil_app, entry_zero, entry_succ, entry_nil, top_app, maxStr, ByteArray.size, A.kill, O.kill, killS_app, killM_app, Nat.reduceAdd, Nat.reduceLeDiff, Nat.reduceEqDiff, Nat.reduceMul, Int.reduceToNat, reduceIte, wf_i64, Int.reduceLE, Int.reduceNeg, beq_self_eq_true, decide_true, decide_false, ybeq_some, ybeq_none, beqT, beqF, empty_toList, exs, methodC, hf, cMethod, zeroMethod]; rfl) ?_
            rw [hf] at hrow
            repeat (first | refine W.seq ?_ | refine W.block ?_ | refine W.skip ?_ | refine W.exit ?_ | refine W.region tab_ok 0 (by decide) (exec_run (by simp only [exec, stepQ, wantA, yieldA, kind, qv, qv1, qv2, stO, adrId, dataC, replC, eqNil, binNil, shiftInt, A.down, A1.up, downs, toR, ev, putS, rowO, ofConst, cellsA, cellsC, asC, asCs, ld, ldR, bin, binInt, binStr, binBool, sliceOf, bndOf, repl, fillC, zeroC, chunks, ptrIds, tabs, upd_app, mem_nil_app, entry_zero, entry_succ, entry_nil, top_app, maxStr, ByteArray.size, A.kill, O.kill, killS_app, killM_app, Nat.reduceAdd, Nat.reduceLeDiff, Nat.reduceEqDiff, Nat.reduceMul, Int.reduceToNat, reduceIte, wf_i64, Int.reduceLE, Int.reduceNeg, beq_self_eq_true, decide_true, decide_false, ybeq_some, ybeq_none, beqT, beqF, empty_toList, exs]; rfl)) ?_)
            refine W.regionK tab_ok 0 (by decide) ?_
            refine runk_split 10 (by simp only [exec, stepQ, wantA, yieldA, kind, qv, qv1, qv2, stO, adrId, dataC, replC, eqNil, binNil, shiftInt, A.down, A1.up, downs, toR, ev, putS, rowO, ofConst, cellsA, cellsC, asC, asCs, ld, ldR, bin, binInt, binStr, binBool, sliceOf, bndOf, repl, fillC, zeroC, chunks, ptrIds, tabs, upd_app, mem_nil_app, entry_zero, entry_succ, entry_nil, top_app, maxStr, ByteArray.size, A.kill, O.kill, killS_app, killM_app, Nat.reduceAdd, Nat.reduceLeDiff, Nat.reduceEqDiff, Nat.reduceMul, Int.reduceToNat, reduceIte, wf_i64, Int.reduceLE, Int.reduceNeg, beq_self_eq_true, decide_true, decide_false, ybeq_some, ybeq_none, beqT, beqF, empty_toList, exs, cMethod]; rfl) ?_
            refine runk_call rfl rfl rfl rfl rfl (by simp) (cvs_cons cv_refl cvs_nil) (twice_ok x.params hpx _) ?_
            refine runk_exec (by simp only [exec, stepQ, wantA, yieldA, kind, qv, qv1, qv2, stO, adrId, dataC, replC, eqNil, binNil, shiftInt, A.down, A1.up, downs, toR, ev, putS, rowO, ofConst, cellsA, cellsC, asC, asCs, ld, ldR, bin, binInt, binStr, binBool, sliceOf, bndOf, repl, fillC, zeroC, chunks, ptrIds, tabs, upd_app, mem_nil_app, entry_zero, entry_succ, entry_nil, top_app, maxStr, ByteArray.size, A.kill, O.kill, killS_app, killM_app, Nat.reduceAdd, Nat.reduceLeDiff, Nat.reduceEqDiff, Nat.reduceMul, Int.reduceToNat, reduceIte, wf_i64, Int.reduceLE, Int.reduceNeg, beq_self_eq_true, decide_true, decide_false, ybeq_some, ybeq_none, beqT, beqF, empty_toList, exs]; rfl) ?_
            refine W.cond rfl ?_ ?_
            · intro ht
              repeat (first | refine W.seq ?_ | refine W.block ?_ | refine W.skip ?_ | refine W.exit ?_ | refine W.region tab_ok 0 (by decide) (exec_run (by simp only [exec, stepQ, wantA, yieldA, kind, qv, qv1, qv2, stO, adrId, dataC, replC, eqNil, binNil, shiftInt, A.down, A1.up, downs, toR, ev, putS, rowO, ofConst, cellsA, cellsC, asC, asCs, ld, ldR, bin, binInt, binStr, binBool, sliceOf, bndOf, repl, fillC, zeroC, chunks, ptrIds, tabs, upd_app, mem_nil_app, entry_zero, entry_succ, entry_nil, top_app, maxStr, ByteArray.size, A.kill, O.kill, killS_app, killM_app, Nat.reduceAdd, Nat.reduceLeDiff, Nat.reduceEqDiff, Nat.reduceMul, Int.reduceToNat, reduceIte, wf_i64, Int.reduceLE, Int.reduceNeg, beq_self_eq_true, decide_true, decide_false, ybeq_some, ybeq_none, beqT, beqF, empty_toList, exs]; rfl)) ?_)
              refine W.ret ⟨.inr rfl, by rfl, ?_⟩
              simp only [Try.f32, resA, resOne, toT, fin, exec, stepQ, wantA, yieldA, kind, qv, qv1, qv2, stO, adrId, dataC, replC, eqNil, binNil, shiftInt, A.down, A1.up, downs, toR, ev, putS, rowO, ofConst, cellsA, cellsC, asC, asCs, ld, ldR, bin, binInt, binStr, binBool, sliceOf, bndOf, repl, fillC, zeroC, chunks, ptrIds, tabs, upd_app, mem_nil_app, entry_zero, entry_succ, entry_nil, top_app, maxStr, ByteArray.size, A.kill, O.kill, killS_app, killM_app, Nat.reduceAdd, Nat.reduceLeDiff, Nat.reduceEqDiff, Nat.reduceMul, Int.reduceToNat, reduceIte, wf_i64, Int.reduceLE, Int.reduceNeg, beq_self_eq_true, decide_true, decide_false, ybeq_some, ybeq_none, beqT, beqF, empty_toList, exs]
              have : methodsB cs l c.methods = false := not_range hlt (by rw [hrow, ht]; rfl)
              rw [this]
            · intro ht
              repeat (first | refine W.seq ?_ | refine W.block ?_ | refine W.skip ?_ | refine W.exit ?_ | refine W.region tab_ok 0 (by decide) (exec_run (by simp only [exec, stepQ, wantA, yieldA, kind, qv, qv1, qv2, stO, adrId, dataC, replC, eqNil, binNil, shiftInt, A.down, A1.up, downs, toR, ev, putS, rowO, ofConst, cellsA, cellsC, asC, asCs, ld, ldR, bin, binInt, binStr, binBool, sliceOf, bndOf, repl, fillC, zeroC, chunks, ptrIds, tabs, upd_app, mem_nil_app, entry_zero, entry_succ, entry_nil, top_app, maxStr, ByteArray.size, A.kill, O.kill, killS_app, killM_app, Nat.reduceAdd, Nat.reduceLeDiff, Nat.reduceEqDiff, Nat.reduceMul, Int.reduceToNat, reduceIte, wf_i64, Int.reduceLE, Int.reduceNeg, beq_self_eq_true, decide_true, decide_false, ybeq_some, ybeq_none, beqT, beqF, empty_toList, exs]; rfl)) ?_)
              refine ⟨j + 1, ⟨hlt, fun i hi => ?_⟩, by omega, ?_⟩
              · rcases Nat.lt_succ_iff_lt_or_eq.1 hi with h | h
                · exact hall i h
                · subst h; rw [hrow, ht]; rfl
              refine le_mk ?sle ?mle ?swf ?mwf ?kept (by rfl)
              case kept => exact kept_not hkeep
              case swf => repeat (first | exact swf_top _ | refine swf_upd ?_ (by simp [A.ids, upd_app]))
              case mwf => repeat (first | exact mwf_nil _ | refine mwf_upd ?_ (by simp [A.ids, O.ids, upd_app]))
              case mle => repeat (first | exact mle_nil _ | exact mle_refl _ | refine mle_upd ?_ (by first | rfl | (simp only [upd_app, killM_app, Nat.reduceEqDiff, reduceIte, wrap_succ (show j + 1 < 9223372036854775808 by omega)]; done)))
              case sle => repeat (first | exact sle_top _ | exact sle_refl _ | refine sle_upd ?_ (by first | rfl | (simp only [upd_app, entry_zero, entry_succ, Nat.reduceEqDiff, reduceIte, wrap_succ (show j + 1 < 9223372036854775808 by omega)]; done)))
          | some p =>
            obtain ⟨o, nm⟩ := p
            rw [hf] at hrow
            refine runk_exec (by simp only [exec, stepQ, wantA, yieldA, kind, qv, qv1, qv2, stO, adrId, dataC, replC, eqNil, binNil, shiftInt, A.down, A1.up, downs, toR, ev, putS, rowO, ofConst, cellsA, cellsC, asC, asCs, ld, ldR, bin, binInt, binStr, binBool, sliceOf, bndOf, repl, fillC, zeroC, chunks, ptrIds, tabs, upd_app, mem_nil_app, entry_zero, entry_succ, entry_nil, top_app, maxStr, ByteArray.size, A.kill, O.kill, killS_app, killM_app, Nat.reduceAdd, Nat.reduceLeDiff, Nat.reduceEqDiff, Nat.reduceMul, Int.reduceToNat, reduceIte, wf_i64, Int.reduceLE, Int.reduceNeg, beq_self_eq_true, decide_true, decide_false, ybeq_some, ybeq_none, beqT, beqF, empty_toList, exs, methodC, hf, cMethod]; rfl) ?_
            repeat (first | refine W.seq ?_ | refine W.block ?_ | refine W.skip ?_ | refine W.exit ?_ | refine W.region tab_ok 0 (by decide) (exec_run (by simp only [exec, stepQ, wantA, yieldA, kind, qv, qv1, qv2, stO, adrId, dataC, replC, eqNil, binNil, shiftInt, A.down, A1.up, downs, toR, ev, putS, rowO, ofConst, cellsA, cellsC, asC, asCs, ld, ldR, bin, binInt, binStr, binBool, sliceOf, bndOf, repl, fillC, zeroC, chunks, ptrIds, tabs, upd_app, mem_nil_app, entry_zero, entry_succ, entry_nil, top_app, maxStr, ByteArray.size, A.kill, O.kill, killS_app, killM_app, Nat.reduceAdd, Nat.reduceLeDiff, Nat.reduceEqDiff, Nat.reduceMul, Int.reduceToNat, reduceIte, wf_i64, Int.reduceLE, Int.reduceNeg, beq_self_eq_true, decide_true, decide_false, ybeq_some, ybeq_none, beqT, beqF, empty_toList, exs]; rfl)) ?_)
            refine W.regionK tab_ok 0 (by decide) ?_
            refine runk_split 4 (by simp only [exec, stepQ, wantA, yieldA, kind, qv, qv1, qv2, stO, adrId, dataC, replC, eqNil, binNil, shiftInt, A.down, A1.up, downs, toR, ev, putS, rowO, ofConst, cellsA, cellsC, asC, asCs, ld, ldR, bin, binInt, binStr, binBool, sliceOf, bndOf, repl, fillC, zeroC, chunks, ptrIds, tabs, upd_app, mem_nil_app, entry_zero, entry_succ, entry_nil, top_app, maxStr, ByteArray.size, A.kill, O.kill, killS_app, killM_app, Nat.reduceAdd, Nat.reduceLeDiff, Nat.reduceEqDiff, Nat.reduceMul, Int.reduceToNat, reduceIte, wf_i64, Int.reduceLE, Int.reduceNeg, beq_self_eq_true, decide_true, decide_false, ybeq_some, ybeq_none, beqT, beqF, empty_toList, exs]; rfl) ?_
            refine runk_call rfl rfl rfl rfl rfl (by simp) (cvs_cons cv_refl (cvs_cons cv_refl cvs_nil)) (like_ok x o hpx _) ?_
            cases hlk : likeB x o with
            | false =>
              refine runk_exec (by simp only [exec, stepQ, wantA, yieldA, kind, qv, qv1, qv2, stO, adrId, dataC, replC, eqNil, binNil, shiftInt, A.down, A1.up, downs, toR, ev, putS, rowO, ofConst, cellsA, cellsC, asC, asCs, ld, ldR, bin, binInt, binStr, binBool, sliceOf, bndOf, repl, fillC, zeroC, chunks, ptrIds, tabs, upd_app, mem_nil_app, entry_zero, entry_succ, entry_nil, top_app, maxStr, ByteArray.size, A.kill, O.kill, killS_app, killM_app, Nat.reduceAdd, Nat.reduceLeDiff, Nat.reduceEqDiff, Nat.reduceMul, Int.reduceToNat, reduceIte, wf_i64, Int.reduceLE, Int.reduceNeg, beq_self_eq_true, decide_true, decide_false, ybeq_some, ybeq_none, beqT, beqF, empty_toList, exs, hlk]; rfl) ?_
              refine W.cond rfl ?_ ?_
              · intro _
                repeat (first | refine W.seq ?_ | refine W.block ?_ | refine W.skip ?_ | refine W.exit ?_ | refine W.region tab_ok 0 (by decide) (exec_run (by simp only [exec, stepQ, wantA, yieldA, kind, qv, qv1, qv2, stO, adrId, dataC, replC, eqNil, binNil, shiftInt, A.down, A1.up, downs, toR, ev, putS, rowO, ofConst, cellsA, cellsC, asC, asCs, ld, ldR, bin, binInt, binStr, binBool, sliceOf, bndOf, repl, fillC, zeroC, chunks, ptrIds, tabs, upd_app, mem_nil_app, entry_zero, entry_succ, entry_nil, top_app, maxStr, ByteArray.size, A.kill, O.kill, killS_app, killM_app, Nat.reduceAdd, Nat.reduceLeDiff, Nat.reduceEqDiff, Nat.reduceMul, Int.reduceToNat, reduceIte, wf_i64, Int.reduceLE, Int.reduceNeg, beq_self_eq_true, decide_true, decide_false, ybeq_some, ybeq_none, beqT, beqF, empty_toList, exs]; rfl)) ?_)
                refine W.ret ⟨.inr rfl, by rfl, ?_⟩
                simp only [Try.f32, resA, resOne, toT, fin, exec, stepQ, wantA, yieldA, kind, qv, qv1, qv2, stO, adrId, dataC, replC, eqNil, binNil, shiftInt, A.down, A1.up, downs, toR, ev, putS, rowO, ofConst, cellsA, cellsC, asC, asCs, ld, ldR, bin, binInt, binStr, binBool, sliceOf, bndOf, repl, fillC, zeroC, chunks, ptrIds, tabs, upd_app, mem_nil_app, entry_zero, entry_succ, entry_nil, top_app, maxStr, ByteArray.size, A.kill, O.kill, killS_app, killM_app, Nat.reduceAdd, Nat.reduceLeDiff, Nat.reduceEqDiff, Nat.reduceMul, Int.reduceToNat, reduceIte, wf_i64, Int.reduceLE, Int.reduceNeg, beq_self_eq_true, decide_true, decide_false, ybeq_some, ybeq_none, beqT, beqF, empty_toList, exs]
                have : methodsB cs l c.methods = false := not_range hlt (by rw [hrow]; simp [hlk])
                rw [this]
              · intro h; cases h
            | true =>
              have hrow : methRowB cs l c.methods j = !(twiceB x.params) := by rw [hrow]; simp [hlk]
              refine runk_split 5 (by simp only [exec, stepQ, wantA, yieldA, kind, qv, qv1, qv2, stO, adrId, dataC, replC, eqNil, binNil, shiftInt, A.down, A1.up, downs, toR, ev, putS, rowO, ofConst, cellsA, cellsC, asC, asCs, ld, ldR, bin, binInt, binStr, binBool, sliceOf, bndOf, repl, fillC, zeroC, chunks, ptrIds, tabs, upd_app, mem_nil_app, entry_zero, entry_succ, entry_nil, top_app, maxStr, ByteArray.size, A.kill, O.kill, killS_app, killM_app, Nat.reduceAdd, Nat.reduceLeDiff, Nat.reduceEqDiff, Nat.reduceMul, Int.reduceToNat, reduceIte, wf_i64, Int.reduceLE, Int.reduceNeg, beq_self_eq_true, decide_true, decide_false, ybeq_some, ybeq_none, beqT, beqF, empty_toList, exs, hlk, cMethod]; rfl) ?_
              refine runk_call rfl rfl rfl rfl rfl (by simp) (cvs_cons cv_refl cvs_nil) (twice_ok x.params hpx _) ?_
              refine runk_exec (by simp only [exec, stepQ, wantA, yieldA, kind, qv, qv1, qv2, stO, adrId, dataC, replC, eqNil, binNil, shiftInt, A.down, A1.up, downs, toR, ev, putS, rowO, ofConst, cellsA, cellsC, asC, asCs, ld, ldR, bin, binInt, binStr, binBool, sliceOf, bndOf, repl, fillC, zeroC, chunks, ptrIds, tabs, upd_app, mem_nil_app, entry_zero, entry_succ, entry_nil, top_app, maxStr, ByteArray.size, A.kill, O.kill, killS_app, killM_app, Nat.reduceAdd, Nat.reduceLeDiff, Nat.reduceEqDiff, Nat.reduceMul, Int.reduceToNat, reduceIte, wf_i64, Int.reduceLE, Int.reduceNeg, beq_self_eq_true, decide_true, decide_false, ybeq_some, ybeq_none, beqT, beqF, empty_toList, exs]; rfl) ?_
              refine W.cond rfl ?_ ?_
              · intro ht
                repeat (first | refine W.seq ?_ | refine W.block ?_ | refine W.skip ?_ | refine W.exit ?_ | refine W.region tab_ok 0 (by decide) (exec_run (by simp only [exec, stepQ, wantA, yieldA, kind, qv, qv1, qv2, stO, adrId, dataC, replC, eqNil, binNil, shiftInt, A.down, A1.up, downs, toR, ev, putS, rowO, ofConst, cellsA, cellsC, asC, asCs, ld, ldR, bin, binInt, binStr, binBool, sliceOf, bndOf, repl, fillC, zeroC, chunks, ptrIds, tabs, upd_app, mem_nil_app, entry_zero, entry_succ, entry_nil, top_app, maxStr, ByteArray.size, A.kill, O.kill, killS_app, killM_app, Nat.reduceAdd, Nat.reduceLeDiff, Nat.reduceEqDiff, Nat.reduceMul, Int.reduceToNat, reduceIte, wf_i64, Int.reduceLE, Int.reduceNeg, beq_self_eq_true, decide_true, decide_false, ybeq_some, ybeq_none, beqT, beqF, empty_toList, exs]; rfl)) ?_)
                refine W.ret ⟨.inr rfl, by rfl, ?_⟩
                simp only [Try.f32, resA, resOne, toT, fin, exec, stepQ, wantA, yieldA, kind, qv, qv1, qv2, stO, adrId, dataC, replC, eqNil, binNil, shiftInt, A.down, A1.up, downs, toR, ev, putS, rowO, ofConst, cellsA, cellsC, asC, asCs, ld, ldR, bin, binInt, binStr, binBool, sliceOf, bndOf, repl, fillC, zeroC, chunks, ptrIds, tabs, upd_app, mem_nil_app, entry_zero, entry_succ, entry_nil, top_app, maxStr, ByteArray.size, A.kill, O.kill, killS_app, killM_app, Nat.reduceAdd, Nat.reduceLeDiff, Nat.reduceEqDiff, Nat.reduceMul, Int.reduceToNat, reduceIte, wf_i64, Int.reduceLE, Int.reduceNeg, beq_self_eq_true, decide_true, decide_false, ybeq_some, ybeq_none, beqT, beqF, empty_toList, exs]
                have : methodsB cs l c.methods = false := not_range hlt (by rw [hrow, ht]; rfl)
                rw [this]
              · intro ht
                repeat (first | refine W.seq ?_ | refine W.block ?_ | refine W.skip ?_ | refine W.exit ?_ | refine W.region tab_ok 0 (by decide) (exec_run (by simp only [exec, stepQ, wantA, yieldA, kind, qv, qv1, qv2, stO, adrId, dataC, replC, eqNil, binNil, shiftInt, A.down, A1.up, downs, toR, ev, putS, rowO, ofConst, cellsA, cellsC, asC, asCs, ld, ldR, bin, binInt, binStr, binBool, sliceOf, bndOf, repl, fillC, zeroC, chunks, ptrIds, tabs, upd_app, mem_nil_app, entry_zero, entry_succ, entry_nil, top_app, maxStr, ByteArray.size, A.kill, O.kill, killS_app, killM_app, Nat.reduceAdd, Nat.reduceLeDiff, Nat.reduceEqDiff, Nat.reduceMul, Int.reduceToNat, reduceIte, wf_i64, Int.reduceLE, Int.reduceNeg, beq_self_eq_true, decide_true, decide_false, ybeq_some, ybeq_none, beqT, beqF, empty_toList, exs]; rfl)) ?_)
                refine ⟨j + 1, ⟨hlt, fun i hi => ?_⟩, by omega, ?_⟩
                · rcases Nat.lt_succ_iff_lt_or_eq.1 hi with h | h
                  · exact hall i h
                  · subst h; rw [hrow, ht]; rfl
                refine le_mk ?sle ?mle ?swf ?mwf ?kept (by rfl)
                case kept => exact kept_not hkeep
                case swf => repeat (first | exact swf_top _ | refine swf_upd ?_ (by simp [A.ids, upd_app]))
                case mwf => repeat (first | exact mwf_nil _ | refine mwf_upd ?_ (by simp [A.ids, O.ids, upd_app]))
                case mle => repeat (first | exact mle_nil _ | exact mle_refl _ | refine mle_upd ?_ (by first | rfl | (simp only [upd_app, killM_app, Nat.reduceEqDiff, reduceIte, wrap_succ (show j + 1 < 9223372036854775808 by omega)]; done)))
                case sle => repeat (first | exact sle_top _ | exact sle_refl _ | refine sle_upd ?_ (by first | rfl | (simp only [upd_app, entry_zero, entry_succ, Nat.reduceEqDiff, reduceIte, wrap_succ (show j + 1 < 9223372036854775808 by omega)]; done)))
    · intro hge
      simp only [decide_eq_false_iff_not, Int.ofNat_lt] at hge
      obtain rfl : k = c.methods.length := by omega
      repeat (first | refine W.seq ?_ | refine W.block ?_ | refine W.skip ?_ | refine W.exit ?_ | refine W.region tab_ok 0 (by decide) (exec_run (by simp only [exec, stepQ, wantA, yieldA, kind, qv, qv1, qv2, stO, adrId, dataC, replC, eqNil, binNil, shiftInt, A.down, A1.up, downs, toR, ev, putS, rowO, ofConst, cellsA, cellsC, asC, asCs, ld, ldR, bin, binInt, binStr, binBool, sliceOf, bndOf, repl, fillC, zeroC, chunks, ptrIds, tabs, upd_app, mem_nil_app, entry_zero, entry_succ, entry_nil, top_app, maxStr, ByteArray.size, A.kill, O.kill, killS_app, killM_app, Nat.reduceAdd, Nat.reduceLeDiff, Nat.reduceEqDiff, Nat.reduceMul, Int.reduceToNat, reduceIte, wf_i64, Int.reduceLE, Int.reduceNeg, beq_self_eq_true, decide_true, decide_false, ybeq_some, ybeq_none, beqT, beqF, empty_toList, exs]; rfl)) ?_)
      refine W.ret ⟨.inr rfl, by rfl, ?_⟩
      simp only [Try.f32, resA, resOne, toT, fin, exec, stepQ, wantA, yieldA, kind, qv, qv1, qv2, stO, adrId, dataC, replC, eqNil, binNil, shiftInt, A.down, A1.up, downs, toR, ev, putS, rowO, ofConst, cellsA, cellsC, asC, asCs, ld, ldR, bin, binInt, binStr, binBool, sliceOf, bndOf, repl, fillC, zeroC, chunks, ptrIds, tabs, upd_app, mem_nil_app, entry_zero, entry_succ, entry_nil, top_app, maxStr, ByteArray.size, A.kill, O.kill, killS_app, killM_app, Nat.reduceAdd, Nat.reduceLeDiff, Nat.reduceEqDiff, Nat.reduceMul, Int.reduceToNat, reduceIte, wf_i64, Int.reduceLE, Int.reduceNeg, beq_self_eq_true, decide_true, decide_false, ybeq_some, ybeq_none, beqT, beqF, empty_toList, exs]
      rw [show methodsB cs l c.methods = true from all_range hall]
end V
end Go.Proofs.Ytjciafpihdbedaa
end
section
/- The document's classes, over plain data: names and fields. -/
namespace Go.Proofs.Ytjciafpihdbedaa
namespace V
open Go.RowKit
set_option linter.unusedSimpArgs false
def nameRowB (cs : List Class) (i : Nat) : Bool :=
  match cs[i]? with
  | none => true
  | some c => !((cs.take i).any fun d => c.name.toList == d.name.toList) && (c.super.toList == [] || (cs.find? (nameIs c.super)).isSome)
def namesB (cs : List Class) : Bool := (List.range cs.length).all (nameRowB cs)
theorem names_ok (cs : List Class) (mn : C) (hlen : cs.length ≤ 1000000000000) (m : Mem) : COk Try.prog 28 [.agg [.sl (cs.map cClass), mn]] m (.c (.bool (namesB cs))) := by
  refine (ok_pure tab_ok Try.func28 (by kernel_rfl) rfl rfl (by rfl) (by rfl) (by rfl) (fun R hkeep => ?_) m)
  repeat (first | refine W.seq ?_ | refine W.block ?_ | refine W.skip ?_ | refine W.exit ?_ | refine W.region tab_ok 0 (by decide) (exec_run (by simp only [exec, stepQ, wantA, yieldA, kind, qv, qv1, qv2, stO, adrId, dataC, replC, eqNil, binNil, shiftInt, A.down, A1.up, downs, toR, ev, putS, rowO, ofConst, cellsA, cellsC, asC, asCs, ld, ldR, bin, binInt, binStr, binBool, sliceOf, bndOf, repl, fillC, zeroC, chunks, ptrIds, tabs, upd_app, mem_nil_app, entry_zero, entry_succ, entry_nil, top_app, maxStr, ByteArray.size, A.kill, O.kill, killS_app, killM_app, Nat.reduceAdd, Nat.reduceLeDiff, Nat.reduceEqDiff, Nat.reduceMul, Int.reduceToNat, reduceIte, wf_i64, Int.reduceLE, Int.reduceNeg, beq_self_eq_true, decide_true, decide_false, ybeq_some, ybeq_none, beqT, beqF, empty_toList, exs]; rfl)) ?_)
  refine W.loop (ι := Nat) (fun k => ⟨upd (upd (upd (upd (fun _ => .top) 1 (.ptr 1 0)) 10 (.c (.sl (cs.map cClass)))) 11 (.c (.int .i64 cs.length))) 12 (.c (.int .i64 k)),
      upd Mem.nil 1 (some (.box 25 [.c (.sl (cs.map cClass)), .c mn]))⟩)
    (fun k => k ≤ cs.length ∧ ∀ i < k, nameRowB cs i = true) (fun k => cs.length - k) 0 ?start ⟨Nat.zero_le _, fun i hi => by omega⟩ ?round
  case start =>
    refine le_mk ?sle ?mle ?swf ?mwf ?kept (by rfl)
    case kept => exact kept_not hkeep
    case swf => repeat (first | exact swf_top _ | refine swf_upd ?_ (by simp [A.ids, upd_app]))
    case mwf => repeat (first | exact mwf_nil _ | refine mwf_upd ?_ (by simp [A.ids, O.ids, upd_app]))
    case mle => repeat (first | exact mle_nil _ | exact mle_refl _ | refine mle_upd ?_ (by first | rfl | (simp only [upd_app, killM_app, Nat.reduceEqDiff, reduceIte]; done)))
    case sle => repeat (first | exact sle_top _ | exact sle_refl _ | refine sle_upd ?_ (by first | rfl | (simp only [upd_app, entry_zero, entry_succ, Nat.reduceEqDiff, reduceIte]; done)))
  case round =>
    rintro k ⟨hk, hall⟩
    repeat (first | refine W.seq ?_ | refine W.block ?_ | refine W.skip ?_ | refine W.exit ?_ | refine W.region tab_ok 0 (by decide) (exec_run (by simp only [exec, stepQ, wantA, yieldA, kind, qv, qv1, qv2, stO, adrId, dataC, replC, eqNil, binNil, shiftInt, A.down, A1.up, downs, toR, ev, putS, rowO, ofConst, cellsA, cellsC, asC, asCs, ld, ldR, bin, binInt, binStr, binBool, sliceOf, bndOf, repl, fillC, zeroC, chunks, ptrIds, tabs, upd_app, mem_nil_app, entry_zero, entry_succ, entry_nil, top_app, maxStr, ByteArray.size, A.kill, O.kill, killS_app, killM_app, Nat.reduceAdd, Nat.reduceLeDiff, Nat.reduceEqDiff, Nat.reduceMul, Int.reduceToNat, reduceIte, wf_i64, Int.reduceLE, Int.reduceNeg, beq_self_eq_true, decide_true, decide_false, ybeq_some, ybeq_none, beqT, beqF, empty_toList, exs]; rfl)) ?_)
    refine W.cond rfl ?_ ?_
    · intro hlt
      simp only [decide_eq_true_eq, Int.ofNat_lt] at hlt
      obtain ⟨x, hx⟩ : ∃ x, cs[k]? = some x := ⟨_, List.getElem?_eq_getElem hlt⟩
      have hkl : k ≤ cs.length := hk
      repeat (first | refine W.seq ?_ | refine W.block ?_ | refine W.skip ?_ | refine W.exit ?_ | refine W.region tab_ok 0 (by decide) (exec_run (by simp only [exec, stepQ, wantA, yieldA, kind, qv, qv1, qv2, stO, adrId, dataC, replC, eqNil, binNil, shiftInt, A.down, A1.up, downs, toR, ev, putS, rowO, ofConst, cellsA, cellsC, asC, asCs, ld, ldR, bin, binInt, binStr, binBool, sliceOf, bndOf, repl, fillC, zeroC, chunks, ptrIds, tabs, upd_app, mem_nil_app, entry_zero, entry_succ, entry_nil, top_app, maxStr, ByteArray.size, A.kill, O.kill, killS_app, killM_app, Nat.reduceAdd, Nat.reduceLeDiff, Nat.reduceEqDiff, Nat.reduceMul, Int.reduceToNat, reduceIte, wf_i64, Int.reduceLE, Int.reduceNeg, beq_self_eq_true, decide_true, decide_false, ybeq_some, ybeq_none, beqT, beqF, empty_toList, exs, at_map hx, cClass, Nat.zero_le, true_or, hkl, ← List.map_take, List.length_take, Nat.min_eq_left hkl]; rfl)) ?_)
      refine W.loop (ι := Nat) (fun j => ⟨upd (upd (upd (upd (upd (upd (upd (upd (fun _ => .top) 1 (.ptr 1 0)) 10 (.c (.sl (cs.map cClass)))) 11 (.c (.int .i64 cs.length))) 12 (.c (.int .i64 k))) 4 (.ptr 4 0)) 20 (.c (.sl ((cs.take k).map cClass)))) 21 (.c (.int .i64 k))) 22 (.c (.int .i64 j)),
          upd (upd Mem.nil 1 (some (.box 25 [.c (.sl (cs.map cClass)), .c mn]))) 4 (some (.box 37 ((cClass x).map .c)))⟩)
        (fun j => j ≤ k ∧ (cs.take j).any (fun d => x.name.toList == d.name.toList) = false) (fun j => k - j) 0 ?start ⟨Nat.zero_le _, rfl⟩ ?round
      case start =>
        refine le_mk ?sle ?mle ?swf ?mwf ?kept (by rfl)
        case kept => exact kept_not hkeep
        case swf => repeat (first | exact swf_top _ | refine swf_upd ?_ (by simp [A.ids, upd_app]))
        case mwf => repeat (first | exact mwf_nil _ | refine mwf_upd ?_ (by simp [A.ids, O.ids, upd_app]))
        case mle => repeat (first | exact mle_nil _ | exact mle_refl _ | refine mle_upd ?_ (by first | rfl | (simp only [upd_app, killM_app, Nat.reduceEqDiff, reduceIte]; done)))
        case sle => repeat (first | exact sle_top _ | exact sle_refl _ | refine sle_upd ?_ (by first | rfl | (simp only [upd_app, entry_zero, entry_succ, Nat.reduceEqDiff, reduceIte]; done)))
      case round =>
        rintro j ⟨hj, hin⟩
        repeat (first | refine W.seq ?_ | refine W.block ?_ | refine W.skip ?_ | refine W.exit ?_ | refine W.region tab_ok 0 (by decide) (exec_run (by simp only [exec, stepQ, wantA, yieldA, kind, qv, qv1, qv2, stO, adrId, dataC, replC, eqNil, binNil, shiftInt, A.down, A1.up, downs, toR, ev, putS, rowO, ofConst, cellsA, cellsC, asC, asCs, ld, ldR, bin, binInt, binStr, binBool, sliceOf, bndOf, repl, fillC, zeroC, chunks, ptrIds, tabs, upd_app, mem_nil_app, entry_zero, entry_succ, entry_nil, top_app, maxStr, ByteArray.size, A.kill, O.kill, killS_app, killM_app, Nat.reduceAdd, Nat.reduceLeDiff, Nat.reduceEqDiff, Nat.reduceMul, Int.reduceToNat, reduceIte, wf_i64, Int.reduceLE, Int.reduceNeg, beq_self_eq_true, decide_true, decide_false, ybeq_some, ybeq_none, beqT, beqF, empty_toList, exs]; rfl)) ?_)
        refine W.cond rfl ?_ ?_
        · intro hlj
          simp only [decide_eq_true_eq, Int.ofNat_lt] at hlj
          obtain ⟨y, hy⟩ : ∃ y, cs[j]? = some y := ⟨_, List.getElem?_eq_getElem (by omega)⟩
          have hy' : (cs.take k)[j]? = some y := by rw [List.getElem?_take, if_pos hlj]; exact hy
          repeat (first | refine W.seq ?_ | refine W.block ?_ | refine W.skip ?_ | refine W.exit ?_ | refine W.region tab_ok 0 (by decide) (exec_run (by simp only [exec, stepQ, wantA, yieldA, kind, qv, qv1, qv2, stO, adrId, dataC, replC, eqNil, binNil, shiftInt, A.down, A1.up, downs, toR, ev, putS, rowO, ofConst, cellsA, cellsC, asC, asCs, ld, ldR, bin, binInt, binStr, binBool, sliceOf, bndOf, repl, fillC, zeroC, chunks, ptrIds, tabs, upd_app, mem_nil_app, entry_zero, entry_succ, entry_nil, top_app, maxStr, ByteArray.size, A.kill, O.kill, killS_app, killM_app, Nat.reduceAdd, Nat.reduceLeDiff, Nat.reduceEqDiff, Nat.reduceMul, Int.reduceToNat, reduceIte, wf_i64, Int.reduceLE, Int.reduceNeg, beq_self_eq_true, decide_true, decide_false, ybeq_some, ybeq_none, beqT, beqF, empty_toList, exs, at_map hy', cClass]; rfl)) ?_)
          refine W.cond rfl ?_ ?_
          · intro heq
            repeat (first | refine W.seq ?_ | refine W.block ?_ | refine W.skip ?_ | refine W.exit ?_ | refine W.region tab_ok 0 (by decide) (exec_run (by simp only [exec, stepQ, wantA, yieldA, kind, qv, qv1, qv2, stO, adrId, dataC, replC, eqNil, binNil, shiftInt, A.down, A1.up, downs, toR, ev, putS, rowO, ofConst, cellsA, cellsC, asC, asCs, ld, ldR, bin, binInt, binStr, binBool, sliceOf, bndOf, repl, fillC, zeroC, chunks, ptrIds, tabs, upd_app, mem_nil_app, entry_zero, entry_succ, entry_nil, top_app, maxStr, ByteArray.size, A.kill, O.kill, killS_app, killM_app, Nat.reduceAdd, Nat.reduceLeDiff, Nat.reduceEqDiff, Nat.reduceMul, Int.reduceToNat, reduceIte, wf_i64, Int.reduceLE, Int.reduceNeg, beq_self_eq_true, decide_true, decide_false, ybeq_some, ybeq_none, beqT, beqF, empty_toList, exs]; rfl)) ?_)
            refine W.ret ⟨.inr rfl, by rfl, ?_⟩
            simp only [Try.f28, resA, resOne, toT, fin, exec, stepQ, wantA, yieldA, kind, qv, qv1, qv2, stO, adrId, dataC, replC, eqNil, binNil, shiftInt, A.down, A1.up, downs, toR, ev, putS, rowO, ofConst, cellsA, cellsC, asC, asCs, ld, ldR, bin, binInt, binStr, binBool, sliceOf, bndOf, repl, fillC, zeroC, chunks, ptrIds, tabs, upd_app, mem_nil_app, entry_zero, entry_succ, entry_nil, top_app, maxStr, ByteArray.size, A.kill, O.kill, killS_app, killM_app, Nat.reduceAdd, Nat.reduceLeDiff, Nat.reduceEqDiff, Nat.reduceMul, Int.reduceToNat, reduceIte, wf_i64, Int.reduceLE, Int.reduceNeg, beq_self_eq_true, decide_true, decide_false, ybeq_some, ybeq_none, beqT, beqF, empty_toList, exs]
            have : namesB cs = false := not_range hlt (by simp only [nameRowB, hx]; rw [any_at hlj hy heq]; rfl)
            rw [this]
          · intro hne
            repeat (first | refine W.seq ?_ | refine W.block ?_ | refine W.skip ?_ | refine W.exit ?_ | refine W.region tab_ok 0 (by decide) (exec_run (by simp only [exec, stepQ, wantA, yieldA, kind, qv, qv1, qv2, stO, adrId, dataC, replC, eqNil, binNil, shiftInt, A.down, A1.up, downs, toR, ev, putS, rowO, ofConst, cellsA, cellsC, asC, asCs, ld, ldR, bin, binInt, binStr, binBool, sliceOf, bndOf, repl, fillC, zeroC, chunks, ptrIds, tabs, upd_app, mem_nil_app, entry_zero, entry_succ, entry_nil, top_app, maxStr, ByteArray.size, A.kill, O.kill, killS_app, killM_app, Nat.reduceAdd, Nat.reduceLeDiff, Nat.reduceEqDiff, Nat.reduceMul, Int.reduceToNat, reduceIte, wf_i64, Int.reduceLE, Int.reduceNeg, beq_self_eq_true, decide_true, decide_false, ybeq_some, ybeq_none, beqT, beqF, empty_toList, exs]; rfl)) ?_)
            refine ⟨j + 1, ⟨hlj, any_take hin hy hne⟩, by omega, ?_⟩
            refine le_mk ?sle ?mle ?swf ?mwf ?kept (by rfl)
            case kept => exact kept_not hkeep
            case swf => repeat (first | exact swf_top _ | refine swf_upd ?_ (by simp [A.ids, upd_app]))
            case mwf => repeat (first | exact mwf_nil _ | refine mwf_upd ?_ (by simp [A.ids, O.ids, upd_app]))
            case mle => repeat (first | exact mle_nil _ | exact mle_refl _ | refine mle_upd ?_ (by first | rfl | (simp only [upd_app, killM_app, Nat.reduceEqDiff, reduceIte, wrap_succ (show j + 1 < 9223372036854775808 by omega)]; done)))
            case sle => repeat (first | exact sle_top _ | exact sle_refl _ | refine sle_upd ?_ (by first | rfl | (simp only [upd_app, entry_zero, entry_succ, Nat.reduceEqDiff, reduceIte, wrap_succ (show j + 1 < 9223372036854775808 by omega)]; done)))
        · intro hge
          simp only [decide_eq_false_iff_not, Int.ofNat_lt] at hge
          obtain rfl : j = k := by omega
          have hrow : nameRowB cs j = (x.super.toList == [] || (cs.find? (nameIs x.super)).isSome) := by
            simp only [nameRowB, hx]; rw [hin]; rfl
          repeat (first | refine W.seq ?_ | refine W.block ?_ | refine W.skip ?_ | refine W.exit ?_ | refine W.region tab_ok 0 (by decide) (exec_run (by simp only [exec, stepQ, wantA, yieldA, kind, qv, qv1, qv2, stO, adrId, dataC, replC, eqNil, binNil, shiftInt, A.down, A1.up, downs, toR, ev, putS, rowO, ofConst, cellsA, cellsC, asC, asCs, ld, ldR, bin, binInt, binStr, binBool, sliceOf, bndOf, repl, fillC, zeroC, chunks, ptrIds, tabs, upd_app, mem_nil_app, entry_zero, entry_succ, entry_nil, top_app, maxStr, ByteArray.size, A.kill, O.kill, killS_app, killM_app, Nat.reduceAdd, Nat.reduceLeDiff, Nat.reduceEqDiff, Nat.reduceMul, Int.reduceToNat, reduceIte, wf_i64, Int.reduceLE, Int.reduceNeg, beq_self_eq_true, decide_true, decide_false, ybeq_some, ybeq_none, beqT, beqF, empty_toList, exs]; rfl)) ?_)
          refine W.regionK tab_ok 0 (by decide) ?_
          refine runk_split 3 (by simp only [exec, stepQ, wantA, yieldA, kind, qv, qv1, qv2, stO, adrId, dataC, replC, eqNil, binNil, shiftInt, A.down, A1.up, downs, toR, ev, putS, rowO, ofConst, cellsA, cellsC, asC, asCs, ld, ldR, bin, binInt, binStr, binBool, sliceOf, bndOf, repl, fillC, zeroC, chunks, ptrIds, tabs, upd_app, mem_nil_app, entry_zero, entry_succ, entry_nil, top_app, maxStr, ByteArray.size, A.kill, O.kill, killS_app, killM_app, Nat.reduceAdd, Nat.reduceLeDiff, Nat.reduceEqDiff, Nat.reduceMul, Int.reduceToNat, reduceIte, wf_i64, Int.reduceLE, Int.reduceNeg, beq_self_eq_true, decide_true, decide_false, ybeq_some, ybeq_none, beqT, beqF, empty_toList, exs, cClass]; rfl) ?_
          refine runk_call rfl rfl rfl rfl rfl (by simp) (cvs_cons cv_refl (cvs_cons cv_refl cvs_nil)) (find_ok cs mn x.super hlen _) ?_
          refine runk_exec (by simp only [exec, stepQ, wantA, yieldA, kind, qv, qv1, qv2, stO, adrId, dataC, replC, eqNil, binNil, shiftInt, A.down, A1.up, downs, toR, ev, putS, rowO, ofConst, cellsA, cellsC, asC, asCs, ld, ldR, bin, binInt, binStr, binBool, sliceOf, bndOf, repl, fillC, zeroC, chunks, ptrIds, tabs, upd_app, mem_nil_app, entry_zero, entry_succ, entry_nil, top_app, maxStr, ByteArray.size, A.kill, O.kill, killS_app, killM_app, Nat.reduceAdd, Nat.reduceLeDiff, Nat.reduceEqDiff, Nat.reduceMul, Int.reduceToNat, reduceIte, wf_i64, Int.reduceLE, Int.reduceNeg, beq_self_eq_true, decide_true, decide_false, ybeq_some, ybeq_none, beqT, beqF, empty_toList, exs, foundC, cClass]; rfl) ?_
          cases hs : (x.super.toList == []) with
          | true =>
            repeat (first | refine W.seq ?_ | refine W.block ?_ | refine W.skip ?_ | refine W.exit ?_ | refine W.region tab_ok 0 (by decide) (exec_run (by simp only [exec, stepQ, wantA, yieldA, kind, qv, qv1, qv2, stO, adrId, dataC, replC, eqNil, binNil, shiftInt, A.down, A1.up, downs, toR, ev, putS, rowO, ofConst, cellsA, cellsC, asC, asCs, ld, ldR, bin, binInt, binStr, binBool, sliceOf, bndOf, repl, fillC, zeroC, chunks, ptrIds, tabs, upd_app, mem_nil_app, entry_zero, entry_succ, entry_nil, top_app, maxStr, ByteArray.size, A.kill, O.kill, killS_app, killM_app, Nat.reduceAdd, Nat.reduceLeDiff, Nat.reduceEqDiff, Nat.reduceMul, Int.reduceToNat, reduceIte, wf_i64, Int.reduceLE, Int.reduceNeg, beq_self_eq_true, decide_true, decide_false, ybeq_some, ybeq_none, beqT, beqF, empty_toList, exs, hs]; rfl)) ?_)
            refine W.cond rfl ?_ ?_
            · intro h; cases h
            · intro _
              repeat (first | refine W.seq ?_ | refine W.block ?_ | refine W.skip ?_ | refine W.exit ?_ | refine W.region tab_ok 0 (by decide) (exec_run (by simp only [exec, stepQ, wantA, yieldA, kind, qv, qv1, qv2, stO, adrId, dataC, replC, eqNil, binNil, shiftInt, A.down, A1.up, downs, toR, ev, putS, rowO, ofConst, cellsA, cellsC, asC, asCs, ld, ldR, bin, binInt, binStr, binBool, sliceOf, bndOf, repl, fillC, zeroC, chunks, ptrIds, tabs, upd_app, mem_nil_app, entry_zero, entry_succ, entry_nil, top_app, maxStr, ByteArray.size, A.kill, O.kill, killS_app, killM_app, Nat.reduceAdd, Nat.reduceLeDiff, Nat.reduceEqDiff, Nat.reduceMul, Int.reduceToNat, reduceIte, wf_i64, Int.reduceLE, Int.reduceNeg, beq_self_eq_true, decide_true, decide_false, ybeq_some, ybeq_none, beqT, beqF, empty_toList, exs]; rfl)) ?_)
              refine ⟨j + 1, ⟨hlt, fun i hi => ?_⟩, by omega, ?_⟩
              · rcases Nat.lt_succ_iff_lt_or_eq.1 hi with h | h
                · exact hall i h
                · subst h; rw [hrow, hs]; rfl
              refine le_mk ?sle ?mle ?swf ?mwf ?kept (by rfl)
              case kept => exact kept_not hkeep
              case swf => repeat (first | exact swf_top _ | refine swf_upd ?_ (by simp [A.ids, upd_app]))
              case mwf => repeat (first | exact mwf_nil _ | refine mwf_upd ?_ (by simp [A.ids, O.ids, upd_app]))
              case mle => repeat (first | exact mle_nil _ | exact mle_refl _ | refine mle_upd ?_ (by first | rfl | (simp only [upd_app, killM_app, Nat.reduceEqDiff, reduceIte, wrap_succ (show j + 1 < 9223372036854775808 by omega)]; done)))
              case sle => repeat (first | exact sle_top _ | exact sle_refl _ | refine sle_upd ?_ (by first | rfl | (simp only [upd_app, entry_zero, entry_succ, Nat.reduceEqDiff, reduceIte, wrap_succ (show j + 1 < 9223372036854775808 by omega)]; done)))
          | false =>
            repeat (first | refine W.seq ?_ | refine W.block ?_ | refine W.skip ?_ | refine W.exit ?_ | refine W.region tab_ok 0 (by decide) (exec_run (by simp only [exec, stepQ, wantA, yieldA, kind, qv, qv1, qv2, stO, adrId, dataC, replC, eqNil, binNil, shiftInt, A.down, A1.up, downs, toR, ev, putS, rowO, ofConst, cellsA, cellsC, asC, asCs, ld, ldR, bin, binInt, binStr, binBool, sliceOf, bndOf, repl, fillC, zeroC, chunks, ptrIds, tabs, upd_app, mem_nil_app, entry_zero, entry_succ, entry_nil, top_app, maxStr, ByteArray.size, A.kill, O.kill, killS_app, killM_app, Nat.reduceAdd, Nat.reduceLeDiff, Nat.reduceEqDiff, Nat.reduceMul, Int.reduceToNat, reduceIte, wf_i64, Int.reduceLE, Int.reduceNeg, beq_self_eq_true, decide_true, decide_false, ybeq_some, ybeq_none, beqT, beqF, empty_toList, exs, hs]; rfl)) ?_)
            refine W.cond rfl ?_ ?_
            · intro ht
              repeat (first | refine W.seq ?_ | refine W.block ?_ | refine W.skip ?_ | refine W.exit ?_ | refine W.region tab_ok 0 (by decide) (exec_run (by simp only [exec, stepQ, wantA, yieldA, kind, qv, qv1, qv2, stO, adrId, dataC, replC, eqNil, binNil, shiftInt, A.down, A1.up, downs, toR, ev, putS, rowO, ofConst, cellsA, cellsC, asC, asCs, ld, ldR, bin, binInt, binStr, binBool, sliceOf, bndOf, repl, fillC, zeroC, chunks, ptrIds, tabs, upd_app, mem_nil_app, entry_zero, entry_succ, entry_nil, top_app, maxStr, ByteArray.size, A.kill, O.kill, killS_app, killM_app, Nat.reduceAdd, Nat.reduceLeDiff, Nat.reduceEqDiff, Nat.reduceMul, Int.reduceToNat, reduceIte, wf_i64, Int.reduceLE, Int.reduceNeg, beq_self_eq_true, decide_true, decide_false, ybeq_some, ybeq_none, beqT, beqF, empty_toList, exs]; rfl)) ?_)
              refine W.ret ⟨.inr rfl, by rfl, ?_⟩
              simp only [Try.f28, resA, resOne, toT, fin, exec, stepQ, wantA, yieldA, kind, qv, qv1, qv2, stO, adrId, dataC, replC, eqNil, binNil, shiftInt, A.down, A1.up, downs, toR, ev, putS, rowO, ofConst, cellsA, cellsC, asC, asCs, ld, ldR, bin, binInt, binStr, binBool, sliceOf, bndOf, repl, fillC, zeroC, chunks, ptrIds, tabs, upd_app, mem_nil_app, entry_zero, entry_succ, entry_nil, top_app, maxStr, ByteArray.size, A.kill, O.kill, killS_app, killM_app, Nat.reduceAdd, Nat.reduceLeDiff, Nat.reduceEqDiff, Nat.reduceMul, Int.reduceToNat, reduceIte, wf_i64, Int.reduceLE, Int.reduceNeg, beq_self_eq_true, decide_true, decide_false, ybeq_some, ybeq_none, beqT, beqF, empty_toList, exs]
              have : namesB cs = false := not_range hlt (by rw [hrow, hs]; simpa using ht)
              rw [this]
            · intro ht
              repeat (first | refine W.seq ?_ | refine W.block ?_ | refine W.skip ?_ | refine W.exit ?_ | refine W.region tab_ok 0 (by decide) (exec_run (by simp only [exec, stepQ, wantA, yieldA, kind, qv, qv1, qv2, stO, adrId, dataC, replC, eqNil, binNil, shiftInt, A.down, A1.up, downs, toR, ev, putS, rowO, ofConst, cellsA, cellsC, asC, asCs, ld, ldR, bin, binInt, binStr, binBool, sliceOf, bndOf, repl, fillC, zeroC, chunks, ptrIds, tabs, upd_app, mem_nil_app, entry_zero, entry_succ, entry_nil, top_app, maxStr, ByteArray.size, A.kill, O.kill, killS_app, killM_app, Nat.reduceAdd, Nat.reduceLeDiff, Nat.reduceEqDiff, Nat.reduceMul, Int.reduceToNat, reduceIte, wf_i64, Int.reduceLE, Int.reduceNeg, beq_self_eq_true, decide_true, decide_false, ybeq_some, ybeq_none, beqT, beqF, empty_toList, exs]; rfl)) ?_)
              refine ⟨j + 1, ⟨hlt, fun i hi => ?_⟩, by omega, ?_⟩
              · rcases Nat.lt_succ_iff_lt_or_eq.1 hi with h | h
                · exact hall i h
                · subst h; rw [hrow, hs]; simpa using ht
              refine le_mk ?sle ?mle ?swf ?mwf ?kept (by rfl)
              case kept => exact kept_not hkeep
              case swf => repeat (first | exact swf_top _ | refine swf_upd ?_ (by simp [A.ids, upd_app]))
              case mwf => repeat (first | exact mwf_nil _ | refine mwf_upd ?_ (by simp [A.ids, O.ids, upd_app]))
              case mle => repeat (first | exact mle_nil _ | exact mle_refl _ | refine mle_upd ?_ (by first | rfl | (simp only [upd_app, killM_app, Nat.reduceEqDiff, reduceIte, wrap_succ (show j + 1 < 9223372036854775808 by omega)]; done)))
              case sle => repeat (first | exact sle_top _ | exact sle_refl _ | refine sle_upd ?_ (by first | rfl | (simp only [upd_app, entry_zero, entry_succ, Nat.reduceEqDiff, reduceIte, wrap_succ (show j + 1 < 9223372036854775808 by omega)]; done)))
    · intro hge
      simp only [decide_eq_false_iff_not, Int.ofNat_lt] at hge
      obtain rfl : k = cs.length := by omega
      repeat (first | refine W.seq ?_ | refine W.block ?_ | refine W.skip ?_ | refine W.exit ?_ | refine W.region tab_ok 0 (by decide) (exec_run (by simp only [exec, stepQ, wantA, yieldA, kind, qv, qv1, qv2, stO, adrId, dataC, replC, eqNil, binNil, shiftInt, A.down, A1.up, downs, toR, ev, putS, rowO, ofConst, cellsA, cellsC, asC, asCs, ld, ldR, bin, binInt, binStr, binBool, sliceOf, bndOf, repl, fillC, zeroC, chunks, ptrIds, tabs, upd_app, mem_nil_app, entry_zero, entry_succ, entry_nil, top_app, maxStr, ByteArray.size, A.kill, O.kill, killS_app, killM_app, Nat.reduceAdd, Nat.reduceLeDiff, Nat.reduceEqDiff, Nat.reduceMul, Int.reduceToNat, reduceIte, wf_i64, Int.reduceLE, Int.reduceNeg, beq_self_eq_true, decide_true, decide_false, ybeq_some, ybeq_none, beqT, beqF, empty_toList, exs]; rfl)) ?_)
      refine W.ret ⟨.inr rfl, by rfl, ?_⟩
      simp only [Try.f28, resA, resOne, toT, fin, exec, stepQ, wantA, yieldA, kind, qv, qv1, qv2, stO, adrId, dataC, replC, eqNil, binNil, shiftInt, A.down, A1.up, downs, toR, ev, putS, rowO, ofConst, cellsA, cellsC, asC, asCs, ld, ldR, bin, binInt, binStr, binBool, sliceOf, bndOf, repl, fillC, zeroC, chunks, ptrIds, tabs, upd_app, mem_nil_app, entry_zero, entry_succ, entry_nil, top_app, maxStr, ByteArray.size, A.kill, O.kill, killS_app, killM_app, Nat.reduceAdd, Nat.reduceLeDiff, Nat.reduceEqDiff, Nat.reduceMul, Int.reduceToNat, reduceIte, wf_i64, Int.reduceLE, Int.reduceNeg, beq_self_eq_true, decide_true, decide_false, ybeq_some, ybeq_none, beqT, beqF, empty_toList, exs]
      rw [show namesB cs = true from all_range hall]
/-- The fields of some classes, the last one's first. -/
def fieldsF (cs : List Class) (l : List ByteArray) : List Slot := l.reverse.flatMap fun n => (classD cs n).fields
theorem fields_ok (cs : List Class) (mn : C) (l : List ByteArray) (hlen : cs.length ≤ 1000000000000) (hl : l.length ≤ 1000000000000) (hf : (fieldsF cs l).length ≤ 1000000000) (m : Mem) :
    COk Try.prog 31 [.agg [.sl (cs.map cClass), mn], .c (.sl (l.map cStr))] m (.c (.sl ((fieldsF cs l).map cSlot))) := by
  refine (ok_pure tab_ok Try.func31 (by kernel_rfl) rfl rfl (by rfl) (by rfl) (by rfl) (fun R hkeep => ?_) m)
  repeat (first | refine W.seq ?_ | refine W.block ?_ | refine W.skip ?_ | refine W.exit ?_ | refine W.region tab_ok 0 (by decide) (exec_run (by simp only [exec, stepQ, wantA, yieldA, kind, qv, qv1, qv2, stO, adrId, dataC, replC, eqNil, binNil, shiftInt, A.down, A1.up, downs, toR, ev, putS, rowO, ofConst, cellsA, cellsC, asC, asCs, ld, ldR, bin, binInt, binStr, binBool, sliceOf, bndOf, repl, fillC, zeroC, chunks, ptrIds, tabs, upd_app, mem_nil_app, entry_zero, entry_succ, entry_nil, top_app, maxStr, ByteArray.size, A.kill, O.kill, killS_app, killM_app, Nat.reduceAdd, Nat.reduceLeDiff, Nat.reduceEqDiff, Nat.reduceMul, Int.reduceToNat, reduceIte, wf_i64, Int.reduceLE, Int.reduceNeg, beq_self_eq_true, decide_true, decide_false, ybeq_some, ybeq_none, beqT, beqF, empty_toList, exs, wrap_pred (show l.length < 9223372036854775808 by omega)]; rfl)) ?_)
  refine W.newArr 5 5 45 2 rfl rfl ?_
  refine W.loop (ι := Nat) (fun k => ⟨upd (upd (upd (upd (fun _ => .top) 1 (.c (.sl (l.map cStr)))) 2 (.ptr 2 0)) 5 (.own 5)) 6 (.c (.int .i64 ((k : Int) - 1))),
      upd (upd Mem.nil 2 (some (.box 25 [.c (.sl (cs.map cClass)), .c mn]))) 5 (some (.arr 45 2 ((fieldsF cs (l.drop k)).map cSlot)))⟩)
    (fun k => k ≤ l.length) (fun k => k) l.length ?start (Nat.le_refl _) ?round
  case start =>
    refine le_mk ?sle ?mle ?swf ?mwf ?kept (by rfl)
    case kept => exact kept_not hkeep
    case swf => repeat (first | exact swf_top _ | refine swf_upd ?_ (by simp [A.ids, upd_app]))
    case mwf => repeat (first | exact mwf_nil _ | refine mwf_upd ?_ (by simp [A.ids, O.ids, upd_app]))
    case mle => repeat (first | exact mle_nil _ | exact mle_refl _ | refine mle_upd ?_ (by first | rfl | (simp only [upd_app, killM_app, Nat.reduceEqDiff, reduceIte, List.drop_length, fieldsF, List.reverse_nil, List.flatMap_nil, List.map_nil]; done)))
    case sle => repeat (first | exact sle_top _ | exact sle_refl _ | refine sle_upd ?_ (by first | rfl | (simp only [upd_app, entry_zero, entry_succ, Nat.reduceEqDiff, reduceIte, List.drop_length, fieldsF, List.reverse_nil, List.flatMap_nil, List.map_nil]; done)))
  case round =>
    intro k hk
    cases k with
    | zero =>
      repeat (first | refine W.seq ?_ | refine W.block ?_ | refine W.skip ?_ | refine W.exit ?_ | refine W.region tab_ok 0 (by decide) (exec_run (by simp only [exec, stepQ, wantA, yieldA, kind, qv, qv1, qv2, stO, adrId, dataC, replC, eqNil, binNil, shiftInt, A.down, A1.up, downs, toR, ev, putS, rowO, ofConst, cellsA, cellsC, asC, asCs, ld, ldR, bin, binInt, binStr, binBool, sliceOf, bndOf, repl, fillC, zeroC, chunks, ptrIds, tabs, upd_app, mem_nil_app, entry_zero, entry_succ, entry_nil, top_app, maxStr, ByteArray.size, A.kill, O.kill, killS_app, killM_app, Nat.reduceAdd, Nat.reduceLeDiff, Nat.reduceEqDiff, Nat.reduceMul, Int.reduceToNat, reduceIte, wf_i64, Int.reduceLE, Int.reduceNeg, beq_self_eq_true, decide_true, decide_false, ybeq_some, ybeq_none, beqT, beqF, empty_toList, exs]; rfl)) ?_)
      refine W.cond rfl ?_ ?_
      · intro h; exact absurd h (by decide)
      · intro _
        repeat (first | refine W.seq ?_ | refine W.block ?_ | refine W.skip ?_ | refine W.exit ?_ | refine W.region tab_ok 0 (by decide) (exec_run (by simp only [exec, stepQ, wantA, yieldA, kind, qv, qv1, qv2, stO, adrId, dataC, replC, eqNil, binNil, shiftInt, A.down, A1.up, downs, toR, ev, putS, rowO, ofConst, cellsA, cellsC, asC, asCs, ld, ldR, bin, binInt, binStr, binBool, sliceOf, bndOf, repl, fillC, zeroC, chunks, ptrIds, tabs, upd_app, mem_nil_app, entry_zero, entry_succ, entry_nil, top_app, maxStr, ByteArray.size, A.kill, O.kill, killS_app, killM_app, Nat.reduceAdd, Nat.reduceLeDiff, Nat.reduceEqDiff, Nat.reduceMul, Int.reduceToNat, reduceIte, wf_i64, Int.reduceLE, Int.reduceNeg, beq_self_eq_true, decide_true, decide_false, ybeq_some, ybeq_none, beqT, beqF, empty_toList, exs]; rfl)) ?_)
        refine W.ret ⟨.inr rfl, by rfl, ?_⟩
        simp only [Try.f31, resA, resOne, toT, fin, exec, stepQ, wantA, yieldA, kind, qv, qv1, qv2, stO, adrId, dataC, replC, eqNil, binNil, shiftInt, A.down, A1.up, downs, toR, ev, putS, rowO, ofConst, cellsA, cellsC, asC, asCs, ld, ldR, bin, binInt, binStr, binBool, sliceOf, bndOf, repl, fillC, zeroC, chunks, ptrIds, tabs, upd_app, mem_nil_app, entry_zero, entry_succ, entry_nil, top_app, maxStr, ByteArray.size, A.kill, O.kill, killS_app, killM_app, Nat.reduceAdd, Nat.reduceLeDiff, Nat.reduceEqDiff, Nat.reduceMul, Int.reduceToNat, reduceIte, wf_i64, Int.reduceLE, Int.reduceNeg, beq_self_eq_true, decide_true, decide_false, ybeq_some, ybeq_none, beqT, beqF, empty_toList, exs]
    | succ j =>
      obtain ⟨n, hn⟩ : ∃ n, l[j]? = some n := ⟨_, List.getElem?_eq_getElem (by omega)⟩
      have hd := drop_of_getElem? hn
      have hff : fieldsF cs (l.drop j) = fieldsF cs (l.drop (j + 1)) ++ (classD cs n).fields := by rw [hd]; simp [fieldsF]
      have hle : (fieldsF cs (l.drop j)).length ≤ (fieldsF cs l).length := by
        have : fieldsF cs l = fieldsF cs (l.drop j) ++ fieldsF cs (l.take j) := by
          unfold fieldsF
          rw [← List.flatMap_append, ← List.reverse_append, List.take_append_drop]
        rw [this, List.length_append]; omega
      have hl2 : (fieldsF cs (l.drop j)).length = (fieldsF cs (l.drop (j + 1))).length + (classD cs n).fields.length := by rw [hff, List.length_append]
      repeat (first | refine W.seq ?_ | refine W.block ?_ | refine W.skip ?_ | refine W.exit ?_ | refine W.region tab_ok 0 (by decide) (exec_run (by simp only [exec, stepQ, wantA, yieldA, kind, qv, qv1, qv2, stO, adrId, dataC, replC, eqNil, binNil, shiftInt, A.down, A1.up, downs, toR, ev, putS, rowO, ofConst, cellsA, cellsC, asC, asCs, ld, ldR, bin, binInt, binStr, binBool, sliceOf, bndOf, repl, fillC, zeroC, chunks, ptrIds, tabs, upd_app, mem_nil_app, entry_zero, entry_succ, entry_nil, top_app, maxStr, ByteArray.size, A.kill, O.kill, killS_app, killM_app, Nat.reduceAdd, Nat.reduceLeDiff, Nat.reduceEqDiff, Nat.reduceMul, Int.reduceToNat, reduceIte, wf_i64, Int.reduceLE, Int.reduceNeg, beq_self_eq_true, decide_true, decide_false, ybeq_some, ybeq_none, beqT, beqF, empty_toList, exs, int_pred]; rfl)) ?_)
      refine W.cond rfl ?_ ?_
      · intro _
        repeat (first | refine W.seq ?_ | refine W.block ?_ | refine W.skip ?_ | refine W.exit ?_ | refine W.region tab_ok 0 (by decide) (exec_run (by simp only [exec, stepQ, wantA, yieldA, kind, qv, qv1, qv2, stO, adrId, dataC, replC, eqNil, binNil, shiftInt, A.down, A1.up, downs, toR, ev, putS, rowO, ofConst, cellsA, cellsC, asC, asCs, ld, ldR, bin, binInt, binStr, binBool, sliceOf, bndOf, repl, fillC, zeroC, chunks, ptrIds, tabs, upd_app, mem_nil_app, entry_zero, entry_succ, entry_nil, top_app, maxStr, ByteArray.size, A.kill, O.kill, killS_app, killM_app, Nat.reduceAdd, Nat.reduceLeDiff, Nat.reduceEqDiff, Nat.reduceMul, Int.reduceToNat, reduceIte, wf_i64, Int.reduceLE, Int.reduceNeg, beq_self_eq_true, decide_true, decide_false, ybeq_some, ybeq_none, beqT, beqF, empty_toList, exs]; rfl)) ?_)
        refine W.regionDK tab_ok 0 follows_mixed (by kernel_rfl) (by decide) ?_
        refine runk_split 5 (by simp only [exec, stepQ, wantA, yieldA, kind, qv, qv1, qv2, stO, adrId, dataC, replC, eqNil, binNil, shiftInt, A.down, A1.up, downs, toR, ev, putS, rowO, ofConst, cellsA, cellsC, asC, asCs, ld, ldR, bin, binInt, binStr, binBool, sliceOf, bndOf, repl, fillC, zeroC, chunks, ptrIds, tabs, upd_app, mem_nil_app, entry_zero, entry_succ, entry_nil, top_app, maxStr, ByteArray.size, A.kill, O.kill, killS_app, killM_app, Nat.reduceAdd, Nat.reduceLeDiff, Nat.reduceEqDiff, Nat.reduceMul, Int.reduceToNat, reduceIte, wf_i64, Int.reduceLE, Int.reduceNeg, beq_self_eq_true, decide_true, decide_false, ybeq_some, ybeq_none, beqT, beqF, empty_toList, exs, int_pred, at_map hn, cStr]; rfl) ?_
        refine runk_call rfl rfl rfl rfl rfl (by simp) (cvs_cons cv_refl (cvs_cons cv_refl cvs_nil)) (find_ok cs mn n hlen _) ?_
        refine runk_exec (by simp only [exec, stepQ, wantA, yieldA, kind, qv, qv1, qv2, stO, adrId, dataC, replC, eqNil, binNil, shiftInt, A.down, A1.up, downs, toR, ev, putS, rowO, ofConst, cellsA, cellsC, asC, asCs, ld, ldR, bin, binInt, binStr, binBool, sliceOf, bndOf, repl, fillC, zeroC, chunks, ptrIds, tabs, upd_app, mem_nil_app, entry_zero, entry_succ, entry_nil, top_app, maxStr, ByteArray.size, A.kill, O.kill, killS_app, killM_app, Nat.reduceAdd, Nat.reduceLeDiff, Nat.reduceEqDiff, Nat.reduceMul, Int.reduceToNat, reduceIte, wf_i64, Int.reduceLE, Int.reduceNeg, beq_self_eq_true, decide_true, decide_false, ybeq_some, ybeq_none, beqT, beqF, empty_toList, exs, foundC, cClass]; rfl) ?_
        repeat (first | refine W.seq ?_ | refine W.block ?_ | refine W.skip ?_ | refine W.exit ?_ | refine W.region tab_ok 0 (by decide) (exec_run (by simp only [exec, stepQ, wantA, yieldA, kind, qv, qv1, qv2, stO, adrId, dataC, replC, eqNil, binNil, shiftInt, A.down, A1.up, downs, toR, ev, putS, rowO, ofConst, cellsA, cellsC, asC, asCs, ld, ldR, bin, binInt, binStr, binBool, sliceOf, bndOf, repl, fillC, zeroC, chunks, ptrIds, tabs, upd_app, mem_nil_app, entry_zero, entry_succ, entry_nil, top_app, maxStr, ByteArray.size, A.kill, O.kill, killS_app, killM_app, Nat.reduceAdd, Nat.reduceLeDiff, Nat.reduceEqDiff, Nat.reduceMul, Int.reduceToNat, reduceIte, wf_i64, Int.reduceLE, Int.reduceNeg, beq_self_eq_true, decide_true, decide_false, ybeq_some, ybeq_none, beqT, beqF, empty_toList, exs]; rfl)) ?_)
        refine W.regionK tab_ok 0 (by decide) ?_
        refine runk_split 3 (by simp only [exec, stepQ, wantA, yieldA, kind, qv, qv1, qv2, stO, adrId, dataC, replC, eqNil, binNil, shiftInt, A.down, A1.up, downs, toR, ev, putS, rowO, ofConst, cellsA, cellsC, asC, asCs, ld, ldR, bin, binInt, binStr, binBool, sliceOf, bndOf, repl, fillC, zeroC, chunks, ptrIds, tabs, upd_app, mem_nil_app, entry_zero, entry_succ, entry_nil, top_app, maxStr, ByteArray.size, A.kill, O.kill, killS_app, killM_app, Nat.reduceAdd, Nat.reduceLeDiff, Nat.reduceEqDiff, Nat.reduceMul, Int.reduceToNat, reduceIte, wf_i64, Int.reduceLE, Int.reduceNeg, beq_self_eq_true, decide_true, decide_false, ybeq_some, ybeq_none, beqT, beqF, empty_toList, exs]; rfl) ?_
        refine runk_append tab_ok 5 rfl rfl rfl rfl rfl rfl rfl rfl (by first | rfl | (simp only [exec, stepQ, wantA, yieldA, kind, qv, qv1, qv2, stO, adrId, dataC, replC, eqNil, binNil, shiftInt, A.down, A1.up, downs, toR, ev, putS, rowO, ofConst, cellsA, cellsC, asC, asCs, ld, ldR, bin, binInt, binStr, binBool, sliceOf, bndOf, repl, fillC, zeroC, chunks, ptrIds, tabs, upd_app, mem_nil_app, entry_zero, entry_succ, entry_nil, top_app, maxStr, ByteArray.size, A.kill, O.kill, killS_app, killM_app, Nat.reduceAdd, Nat.reduceLeDiff, Nat.reduceEqDiff, Nat.reduceMul, Int.reduceToNat, reduceIte, wf_i64, Int.reduceLE, Int.reduceNeg, beq_self_eq_true, decide_true, decide_false, ybeq_some, ybeq_none, beqT, beqF, empty_toList, exs]; rfl)) rfl rfl rfl rfl (nokeep hkeep) (by simp [cSlot]) (by simp only [List.length_map]; omega) (by decide) ?_
        refine runk_exec (by simp only [exec, stepQ, wantA, yieldA, kind, qv, qv1, qv2, stO, adrId, dataC, replC, eqNil, binNil, shiftInt, A.down, A1.up, downs, toR, ev, putS, rowO, ofConst, cellsA, cellsC, asC, asCs, ld, ldR, bin, binInt, binStr, binBool, sliceOf, bndOf, repl, fillC, zeroC, chunks, ptrIds, tabs, upd_app, mem_nil_app, entry_zero, entry_succ, entry_nil, top_app, maxStr, ByteArray.size, A.kill, O.kill, killS_app, killM_app, Nat.reduceAdd, Nat.reduceLeDiff, Nat.reduceEqDiff, Nat.reduceMul, Int.reduceToNat, reduceIte, wf_i64, Int.reduceLE, Int.reduceNeg, beq_self_eq_true, decide_true, decide_false, ybeq_some, ybeq_none, beqT, beqF, empty_toList, exs]; rfl) ?_
        repeat (first | refine W.seq ?_ | refine W.block ?_ | refine W.skip ?_ | refine W.exit ?_ | refine W.region tab_ok 0 (by decide) (exec_run (by simp only [exec, stepQ, wantA, yieldA, kind, qv, qv1, qv2, stO, adrId, dataC, replC, eqNil, binNil, shiftInt, A.down, A1.up, downs, toR, ev, putS, rowO, ofConst, cellsA, cellsC, asC, asCs, ld, ldR, bin, binInt, binStr, binBool, sliceOf, bndOf, repl, fillC, zeroC, chunks, ptrIds, tabs, upd_app, mem_nil_app, entry_zero, entry_succ, entry_nil, top_app, maxStr, ByteArray.size, A.kill, O.kill, killS_app, killM_app, Nat.reduceAdd, Nat.reduceLeDiff, Nat.reduceEqDiff, Nat.reduceMul, Int.reduceToNat, reduceIte, wf_i64, Int.reduceLE, Int.reduceNeg, beq_self_eq_true, decide_true, decide_false, ybeq_some, ybeq_none, beqT, beqF, empty_toList, exs, int_pred, wrap_pred (show j < 9223372036854775808 by omega)]; rfl)) ?_)
        refine ⟨j, by omega, by omega, ?_⟩
        refine le_mk ?sle ?mle ?swf ?mwf ?kept (by rfl)
        case kept => exact kept_not hkeep
        case swf => repeat (first | exact swf_top _ | refine swf_upd ?_ (by simp [A.ids, upd_app]))
        case mwf => repeat (first | exact mwf_nil _ | refine mwf_upd ?_ (by simp [A.ids, O.ids, upd_app]))
        case mle => repeat (first | exact mle_nil _ | exact mle_refl _ | refine mle_upd ?_ (by first | rfl | (simp only [upd_app, killM_app, Nat.reduceEqDiff, reduceIte, hff, List.map_append]; done)))
        case sle => repeat (first | exact sle_top _ | exact sle_refl _ | refine sle_upd ?_ (by first | rfl | (simp only [upd_app, entry_zero, entry_succ, Nat.reduceEqDiff, reduceIte, hff, List.map_append]; done)))
      · intro h; simp at h
end V
end Go.Proofs.Ytjciafpihdbedaa
end
section
/- The document's classes, over plain data: Check, Chain, Below. -/
namespace Go.Proofs.Ytjciafpihdbedaa
namespace V
open Go.RowKit
set_option linter.unusedSimpArgs false
/-- Nothing in a class is too long. -/
def SmallC (cs : List Class) : Prop := ∀ c ∈ cs, c.fields.length ≤ 1048576 ∧ c.methods.length ≤ 1048576 ∧ ∀ m ∈ c.methods, m.params.length ≤ 1048576
theorem SmallC.classD {cs : List Class} (h : SmallC cs) (n : ByteArray) : (classD cs n).fields.length ≤ 1048576 ∧ (classD cs n).methods.length ≤ 1048576 := by
  unfold V.classD
  cases hf : cs.find? (nameIs n) with
  | none => simp
  | some c => have := h c (List.mem_of_find?_eq_some hf); exact ⟨this.1, this.2.1⟩
theorem chainF_len (cs : List Class) : ∀ (k : Nat) (n : ByteArray), (chainF cs k n).length ≤ k
  | 0, _ => Nat.le_refl _
  | k + 1, n => by
    unfold chainF
    cases cs.find? (nameIs n) with
    | none => simp
    | some c => have := chainF_len cs k c.super; simp; omega
theorem fieldsF_len {cs : List Class} (h : SmallC cs) : ∀ l : List ByteArray, (fieldsF cs l).length ≤ l.length * 1048576
  | [] => by simp [fieldsF]
  | n :: l => by
    have ih := fieldsF_len h l
    have := (h.classD n).1
    unfold fieldsF at *
    rw [List.reverse_cons, List.flatMap_append, List.length_append, List.length_cons]
    have e : ([n].flatMap fun n => (V.classD cs n).fields).length = (V.classD cs n).fields.length := by simp
    rw [e, Nat.add_mul]
    omega
def classRowB (cs : List Class) (i : Nat) : Bool :=
  match cs[i]? with
  | none => true
  | some c => !(decide (cs.length < (chainF cs (cs.length + 1) c.name).length) || twiceB (fieldsF cs (chainF cs (cs.length + 1) c.name))) && methodsB cs ((chainF cs (cs.length + 1) c.name).drop 1) c.methods
def refErr (e : Int) (cs : List Class) : Int :=
  if e = 0 then (if 16 < cs.length then 6 else if namesB cs = false then 60 else if (List.range cs.length).all (classRowB cs) = true then 0 else 60) else e
theorem find_self {cs : List Class} {c : Class} (h : c ∈ cs) : ∃ d, cs.find? (nameIs c.name) = some d := by
  cases hf : cs.find? (nameIs c.name) with
  | some d => exact ⟨d, rfl⟩
  | none =>
    have := List.find?_eq_none.1 hf c h
    simp [nameIs] at this
theorem refCheck_ok (p : Program) (e : Int) (he : (Lit.int .i64 e).wf = true) (hS : SmallC p.classes) (hlen : p.classes.length ≤ 1000000000) (hck : ∀ m, COk Try.prog 27 [.agg (cProg p)] m (.c (.int .i64 e))) (m : Mem) :
    COk Try.prog 10 [.agg (cProg p)] m (.c (.int .i64 (refErr e p.classes))) := by
  obtain ⟨cs, mn⟩ := p
  dsimp only at hS hlen hck ⊢
  refine (ok_pure tab_ok Try.func10 (by kernel_rfl) rfl rfl (by rfl) (by rfl) (by rfl) (fun R hkeep => ?_) m)
  repeat (first | refine W.seq ?_ | refine W.block ?_ | refine W.skip ?_ | refine W.exit ?_ | refine W.region tab_ok 0 (by decide) (exec_run (by simp only [exec, stepQ, wantA, yieldA, kind, qv, qv1, qv2, stO, adrId, dataC, replC, eqNil, binNil, shiftInt, A.down, A1.up, downs, toR, ev, putS, rowO, ofConst, cellsA, cellsC, asC, asCs, ld, ldR, bin, binInt, binStr, binBool, sliceOf, bndOf, repl, fillC, zeroC, chunks, ptrIds, tabs, upd_app, mem_nil_app, entry_zero, entry_succ, entry_nil, top_app, maxStr, ByteArray.size, A.kill, O.kill, killS_app, killM_app, Nat.reduceAdd, Nat.reduceLeDiff, Nat.reduceEqDiff, Nat.reduceMul, Int.reduceToNat, reduceIte, wf_i64, Int.reduceLE, Int.reduceNeg, beq_self_eq_true, decide_true, decide_false, ybeq_some, ybeq_none, beqT, beqF, empty_toList, exs, cProg]; rfl)) ?_)
  refine W.regionK tab_ok 0 (by decide) ?_
  refine runk_split 1 (by simp only [exec, stepQ, wantA, yieldA, kind, qv, qv1, qv2, stO, adrId, dataC, replC, eqNil, binNil, shiftInt, A.down, A1.up, downs, toR, ev, putS, rowO, ofConst, cellsA, cellsC, asC, asCs, ld, ldR, bin, binInt, binStr, binBool, sliceOf, bndOf, repl, fillC, zeroC, chunks, ptrIds, tabs, upd_app, mem_nil_app, entry_zero, entry_succ, entry_nil, top_app, maxStr, ByteArray.size, A.kill, O.kill, killS_app, killM_app, Nat.reduceAdd, Nat.reduceLeDiff, Nat.reduceEqDiff, Nat.reduceMul, Int.reduceToNat, reduceIte, wf_i64, Int.reduceLE, Int.reduceNeg, beq_self_eq_true, decide_true, decide_false, ybeq_some, ybeq_none, beqT, beqF, empty_toList, exs, cProg]; rfl) ?_
  refine runk_call rfl rfl rfl rfl rfl (by simp) (cvs_cons cv_refl cvs_nil) (hck _) ?_
  refine runk_exec (by simp only [exec, stepQ, wantA, yieldA, kind, qv, qv1, qv2, stO, adrId, dataC, replC, eqNil, binNil, shiftInt, A.down, A1.up, downs, toR, ev, putS, rowO, ofConst, cellsA, cellsC, asC, asCs, ld, ldR, bin, binInt, binStr, binBool, sliceOf, bndOf, repl, fillC, zeroC, chunks, ptrIds, tabs, upd_app, mem_nil_app, entry_zero, entry_succ, entry_nil, top_app, maxStr, ByteArray.size, A.kill, O.kill, killS_app, killM_app, Nat.reduceAdd, Nat.reduceLeDiff, Nat.reduceEqDiff, Nat.reduceMul, Int.reduceToNat, reduceIte, wf_i64, Int.reduceLE, Int.reduceNeg, beq_self_eq_true, decide_true, decide_false, ybeq_some, ybeq_none, beqT, beqF, empty_toList, exs]; rfl) ?_
  repeat (first | refine W.seq ?_ | refine W.block ?_ | refine W.skip ?_ | refine W.exit ?_ | refine W.region tab_ok 0 (by decide) (exec_run (by simp only [exec, stepQ, wantA, yieldA, kind, qv, qv1, qv2, stO, adrId, dataC, replC, eqNil, binNil, shiftInt, A.down, A1.up, downs, toR, ev, putS, rowO, ofConst, cellsA, cellsC, asC, asCs, ld, ldR, bin, binInt, binStr, binBool, sliceOf, bndOf, repl, fillC, zeroC, chunks, ptrIds, tabs, upd_app, mem_nil_app, entry_zero, entry_succ, entry_nil, top_app, maxStr, ByteArray.size, A.kill, O.kill, killS_app, killM_app, Nat.reduceAdd, Nat.reduceLeDiff, Nat.reduceEqDiff, Nat.reduceMul, Int.reduceToNat, reduceIte, wf_i64, Int.reduceLE, Int.reduceNeg, beq_self_eq_true, decide_true, decide_false, ybeq_some, ybeq_none, beqT, beqF, empty_toList, exs]; rfl)) ?_)
  refine W.cond rfl ?_ ?_
  · intro h
    have he : e ≠ 0 := by simpa using h
    repeat (first | refine W.seq ?_ | refine W.block ?_ | refine W.skip ?_ | refine W.exit ?_ | refine W.region tab_ok 0 (by decide) (exec_run (by simp only [exec, stepQ, wantA, yieldA, kind, qv, qv1, qv2, stO, adrId, dataC, replC, eqNil, binNil, shiftInt, A.down, A1.up, downs, toR, ev, putS, rowO, ofConst, cellsA, cellsC, asC, asCs, ld, ldR, bin, binInt, binStr, binBool, sliceOf, bndOf, repl, fillC, zeroC, chunks, ptrIds, tabs, upd_app, mem_nil_app, entry_zero, entry_succ, entry_nil, top_app, maxStr, ByteArray.size, A.kill, O.kill, killS_app, killM_app, Nat.reduceAdd, Nat.reduceLeDiff, Nat.reduceEqDiff, Nat.reduceMul, Int.reduceToNat, reduceIte, wf_i64, Int.reduceLE, Int.reduceNeg, beq_self_eq_true, decide_true, decide_false, ybeq_some, ybeq_none, beqT, beqF, empty_toList, exs]; rfl)) ?_)
    refine W.ret ⟨.inr rfl, by rfl, ?_⟩
    simp only [Try.f10, resA, resOne, toT, fin, exec, stepQ, wantA, yieldA, kind, qv, qv1, qv2, stO, adrId, dataC, replC, eqNil, binNil, shiftInt, A.down, A1.up, downs, toR, ev, putS, rowO, ofConst, cellsA, cellsC, asC, asCs, ld, ldR, bin, binInt, binStr, binBool, sliceOf, bndOf, repl, fillC, zeroC, chunks, ptrIds, tabs, upd_app, mem_nil_app, entry_zero, entry_succ, entry_nil, top_app, maxStr, ByteArray.size, A.kill, O.kill, killS_app, killM_app, Nat.reduceAdd, Nat.reduceLeDiff, Nat.reduceEqDiff, Nat.reduceMul, Int.reduceToNat, reduceIte, wf_i64, Int.reduceLE, Int.reduceNeg, beq_self_eq_true, decide_true, decide_false, ybeq_some, ybeq_none, beqT, beqF, empty_toList, exs]
    simp [refErr, he]
  intro h
  have he : e = 0 := by simpa using h
  subst he
  repeat (first | refine W.seq ?_ | refine W.block ?_ | refine W.skip ?_ | refine W.exit ?_ | refine W.region tab_ok 0 (by decide) (exec_run (by simp only [exec, stepQ, wantA, yieldA, kind, qv, qv1, qv2, stO, adrId, dataC, replC, eqNil, binNil, shiftInt, A.down, A1.up, downs, toR, ev, putS, rowO, ofConst, cellsA, cellsC, asC, asCs, ld, ldR, bin, binInt, binStr, binBool, sliceOf, bndOf, repl, fillC, zeroC, chunks, ptrIds, tabs, upd_app, mem_nil_app, entry_zero, entry_succ, entry_nil, top_app, maxStr, ByteArray.size, A.kill, O.kill, killS_app, killM_app, Nat.reduceAdd, Nat.reduceLeDiff, Nat.reduceEqDiff, Nat.reduceMul, Int.reduceToNat, reduceIte, wf_i64, Int.reduceLE, Int.reduceNeg, beq_self_eq_true, decide_true, decide_false, ybeq_some, ybeq_none, beqT, beqF, empty_toList, exs, cProg]; rfl)) ?_)
  refine W.cond rfl ?_ ?_
  · intro h
    have h16 : 16 < cs.length := by simp at h; omega
    repeat (first | refine W.seq ?_ | refine W.block ?_ | refine W.skip ?_ | refine W.exit ?_ | refine W.region tab_ok 0 (by decide) (exec_run (by simp only [exec, stepQ, wantA, yieldA, kind, qv, qv1, qv2, stO, adrId, dataC, replC, eqNil, binNil, shiftInt, A.down, A1.up, downs, toR, ev, putS, rowO, ofConst, cellsA, cellsC, asC, asCs, ld, ldR, bin, binInt, binStr, binBool, sliceOf, bndOf, repl, fillC, zeroC, chunks, ptrIds, tabs, upd_app, mem_nil_app, entry_zero, entry_succ, entry_nil, top_app, maxStr, ByteArray.size, A.kill, O.kill, killS_app, killM_app, Nat.reduceAdd, Nat.reduceLeDiff, Nat.reduceEqDiff, Nat.reduceMul, Int.reduceToNat, reduceIte, wf_i64, Int.reduceLE, Int.reduceNeg, beq_self_eq_true, decide_true, decide_false, ybeq_some, ybeq_none, beqT, beqF, empty_toList, exs]; rfl)) ?_)
    refine W.ret ⟨.inr rfl, by rfl, ?_⟩
    simp only [Try.f10, resA, resOne, toT, fin, exec, stepQ, wantA, yieldA, kind, qv, qv1, qv2, stO, adrId, dataC, replC, eqNil, binNil, shiftInt, A.down, A1.up, downs, toR, ev, putS, rowO, ofConst, cellsA, cellsC, asC, asCs, ld, ldR, bin, binInt, binStr, binBool, sliceOf, bndOf, repl, fillC, zeroC, chunks, ptrIds, tabs, upd_app, mem_nil_app, entry_zero, entry_succ, entry_nil, top_app, maxStr, ByteArray.size, A.kill, O.kill, killS_app, killM_app, Nat.reduceAdd, Nat.reduceLeDiff, Nat.reduceEqDiff, Nat.reduceMul, Int.reduceToNat, reduceIte, wf_i64, Int.reduceLE, Int.reduceNeg, beq_self_eq_true, decide_true, decide_false, ybeq_some, ybeq_none, beqT, beqF, empty_toList, exs]
    simp [refErr, h16]
  intro h
  have h16 : ¬ 16 < cs.length := by simp at h; omega
  repeat (first | refine W.seq ?_ | refine W.block ?_ | refine W.skip ?_ | refine W.exit ?_ | refine W.region tab_ok 0 (by decide) (exec_run (by simp only [exec, stepQ, wantA, yieldA, kind, qv, qv1, qv2, stO, adrId, dataC, replC, eqNil, binNil, shiftInt, A.down, A1.up, downs, toR, ev, putS, rowO, ofConst, cellsA, cellsC, asC, asCs, ld, ldR, bin, binInt, binStr, binBool, sliceOf, bndOf, repl, fillC, zeroC, chunks, ptrIds, tabs, upd_app, mem_nil_app, entry_zero, entry_succ, entry_nil, top_app, maxStr, ByteArray.size, A.kill, O.kill, killS_app, killM_app, Nat.reduceAdd, Nat.reduceLeDiff, Nat.reduceEqDiff, Nat.reduceMul, Int.reduceToNat, reduceIte, wf_i64, Int.reduceLE, Int.reduceNeg, beq_self_eq_true, decide_true, decide_false, ybeq_some, ybeq_none, beqT, beqF, empty_toList, exs]; rfl)) ?_)
  refine W.regionK tab_ok 0 (by decide) ?_
  refine runk_split 1 (by simp only [exec, stepQ, wantA, yieldA, kind, qv, qv1, qv2, stO, adrId, dataC, replC, eqNil, binNil, shiftInt, A.down, A1.up, downs, toR, ev, putS, rowO, ofConst, cellsA, cellsC, asC, asCs, ld, ldR, bin, binInt, binStr, binBool, sliceOf, bndOf, repl, fillC, zeroC, chunks, ptrIds, tabs, upd_app, mem_nil_app, entry_zero, entry_succ, entry_nil, top_app, maxStr, ByteArray.size, A.kill, O.kill, killS_app, killM_app, Nat.reduceAdd, Nat.reduceLeDiff, Nat.reduceEqDiff, Nat.reduceMul, Int.reduceToNat, reduceIte, wf_i64, Int.reduceLE, Int.reduceNeg, beq_self_eq_true, decide_true, decide_false, ybeq_some, ybeq_none, beqT, beqF, empty_toList, exs, cProg]; rfl) ?_
  refine runk_call rfl rfl rfl rfl rfl (by simp) (cvs_cons cv_refl cvs_nil) (names_ok cs (.sl (cStmts mn)) (by omega) _) ?_
  refine runk_exec (by simp only [exec, stepQ, wantA, yieldA, kind, qv, qv1, qv2, stO, adrId, dataC, replC, eqNil, binNil, shiftInt, A.down, A1.up, downs, toR, ev, putS, rowO, ofConst, cellsA, cellsC, asC, asCs, ld, ldR, bin, binInt, binStr, binBool, sliceOf, bndOf, repl, fillC, zeroC, chunks, ptrIds, tabs, upd_app, mem_nil_app, entry_zero, entry_succ, entry_nil, top_app, maxStr, ByteArray.size, A.kill, O.kill, killS_app, killM_app, Nat.reduceAdd, Nat.reduceLeDiff, Nat.reduceEqDiff, Nat.reduceMul, Int.reduceToNat, reduceIte, wf_i64, Int.reduceLE, Int.reduceNeg, beq_self_eq_true, decide_true, decide_false, ybeq_some, ybeq_none, beqT, beqF, empty_toList, exs]; rfl) ?_
  refine W.cond rfl ?_ ?_
  · intro h
    have hn : namesB cs = false := by simpa using h
    repeat (first | refine W.seq ?_ | refine W.block ?_ | refine W.skip ?_ | refine W.exit ?_ | refine W.region tab_ok 0 (by decide) (exec_run (by simp only [exec, stepQ, wantA, yieldA, kind, qv, qv1, qv2, stO, adrId, dataC, replC, eqNil, binNil, shiftInt, A.down, A1.up, downs, toR, ev, putS, rowO, ofConst, cellsA, cellsC, asC, asCs, ld, ldR, bin, binInt, binStr, binBool, sliceOf, bndOf, repl, fillC, zeroC, chunks, ptrIds, tabs, upd_app, mem_nil_app, entry_zero, entry_succ, entry_nil, top_app, maxStr, ByteArray.size, A.kill, O.kill, killS_app, killM_app, Nat.reduceAdd, Nat.reduceLeDiff, Nat.reduceEqDiff, Nat.reduceMul, Int.reduceToNat, reduceIte, wf_i64, Int.reduceLE, Int.reduceNeg, beq_self_eq_true, decide_true, decide_false, ybeq_some, ybeq_none, beqT, beqF, empty_toList, exs]; rfl)) ?_)
    refine W.ret ⟨.inr rfl, by rfl, ?_⟩
    simp only [Try.f10, resA, resOne, toT, fin, exec, stepQ, wantA, yieldA, kind, qv, qv1, qv2, stO, adrId, dataC, replC, eqNil, binNil, shiftInt, A.down, A1.up, downs, toR, ev, putS, rowO, ofConst, cellsA, cellsC, asC, asCs, ld, ldR, bin, binInt, binStr, binBool, sliceOf, bndOf, repl, fillC, zeroC, chunks, ptrIds, tabs, upd_app, mem_nil_app, entry_zero, entry_succ, entry_nil, top_app, maxStr, ByteArray.size, A.kill, O.kill, killS_app, killM_app, Nat.reduceAdd, Nat.reduceLeDiff, Nat.reduceEqDiff, Nat.reduceMul, Int.reduceToNat, reduceIte, wf_i64, Int.reduceLE, Int.reduceNeg, beq_self_eq_true, decide_true, decide_false, ybeq_some, ybeq_none, beqT, beqF, empty_toList, exs]
    simp [refErr, h16, hn]
  intro h
  have hn : namesB cs = true := by simpa using h
  repeat (first | refine W.seq ?_ | refine W.block ?_ | refine W.skip ?_ | refine W.exit ?_ | refine W.region tab_ok 0 (by decide) (exec_run (by simp only [exec, stepQ, wantA, yieldA, kind, qv, qv1, qv2, stO, adrId, dataC, replC, eqNil, binNil, shiftInt, A.down, A1.up, downs, toR, ev, putS, rowO, ofConst, cellsA, cellsC, asC, asCs, ld, ldR, bin, binInt, binStr, binBool, sliceOf, bndOf, repl, fillC, zeroC, chunks, ptrIds, tabs, upd_app, mem_nil_app, entry_zero, entry_succ, entry_nil, top_app, maxStr, ByteArray.size, A.kill, O.kill, killS_app, killM_app, Nat.reduceAdd, Nat.reduceLeDiff, Nat.reduceEqDiff, Nat.reduceMul, Int.reduceToNat, reduceIte, wf_i64, Int.reduceLE, Int.reduceNeg, beq_self_eq_true, decide_true, decide_false, ybeq_some, ybeq_none, beqT, beqF, empty_toList, exs, cProg]; rfl)) ?_)
  refine W.loop (ι := Nat) (fun k => ⟨upd (upd (upd (upd (fun _ => .top) 1 (.ptr 1 0)) 20 (.c (.sl (cs.map cClass)))) 21 (.c (.int .i64 cs.length))) 22 (.c (.int .i64 k)),
      upd Mem.nil 1 (some (.box 25 [.c (.sl (cs.map cClass)), .c (.sl (cStmts mn))]))⟩)
    (fun k => k ≤ cs.length ∧ ∀ i < k, classRowB cs i = true) (fun k => cs.length - k) 0 ?start ⟨Nat.zero_le _, fun i hi => by omega⟩ ?round
  case start =>
    refine le_mk ?sle ?mle ?swf ?mwf ?kept (by rfl)
    case kept => exact kept_not hkeep
    case swf => repeat (first | exact swf_top _ | refine swf_upd ?_ (by simp [A.ids, upd_app]))
    case mwf => repeat (first | exact mwf_nil _ | refine mwf_upd ?_ (by simp [A.ids, O.ids, upd_app]))
    case mle => repeat (first | exact mle_nil _ | exact mle_refl _ | refine mle_upd ?_ (by first | rfl | (simp only [upd_app, killM_app, Nat.reduceEqDiff, reduceIte]; done)))
    case sle => repeat (first | exact sle_top _ | exact sle_refl _ | refine sle_upd ?_ (by first | rfl | (simp only [upd_app, entry_zero, entry_succ, Nat.reduceEqDiff, reduceIte]; done)))
  case round =>
    rintro k ⟨hk, hall⟩
    repeat (first | refine W.seq ?_ | refine W.block ?_ | refine W.skip ?_ | refine W.exit ?_ | refine W.region tab_ok 0 (by decide) (exec_run (by simp only [exec, stepQ, wantA, yieldA, kind, qv, qv1, qv2, stO, adrId, dataC, replC, eqNil, binNil, shiftInt, A.down, A1.up, downs, toR, ev, putS, rowO, ofConst, cellsA, cellsC, asC, asCs, ld, ldR, bin, binInt, binStr, binBool, sliceOf, bndOf, repl, fillC, zeroC, chunks, ptrIds, tabs, upd_app, mem_nil_app, entry_zero, entry_succ, entry_nil, top_app, maxStr, ByteArray.size, A.kill, O.kill, killS_app, killM_app, Nat.reduceAdd, Nat.reduceLeDiff, Nat.reduceEqDiff, Nat.reduceMul, Int.reduceToNat, reduceIte, wf_i64, Int.reduceLE, Int.reduceNeg, beq_self_eq_true, decide_true, decide_false, ybeq_some, ybeq_none, beqT, beqF, empty_toList, exs]; rfl)) ?_)
    refine W.cond rfl ?_ ?_
    · intro hlt
      simp only [decide_eq_true_eq, Int.ofNat_lt] at hlt
      obtain ⟨x, hx⟩ : ∃ x, cs[k]? = some x := ⟨_, List.getElem?_eq_getElem hlt⟩
      have hmem := List.mem_of_getElem? hx
      have hSx := hS x hmem
      have hcl := chainF_len cs (cs.length + 1) x.name
      have hfl := fieldsF_len hS (chainF cs (cs.length + 1) x.name)
      have hfl2 : (fieldsF cs (chainF cs (cs.length + 1) x.name)).length ≤ 1000000000 := by
        have : (chainF cs (cs.length + 1) x.name).length * 1048576 ≤ 17 * 1048576 := Nat.mul_le_mul_right _ (by omega)
        omega
      have hpos : 1 ≤ (chainF cs (cs.length + 1) x.name).length := by
        obtain ⟨d, hd⟩ := find_self hmem
        simp [chainF, hd]
      generalize hch : chainF cs (cs.length + 1) x.name = ch at *
      have hrow : classRowB cs k = (!(decide (cs.length < ch.length) || twiceB (fieldsF cs ch)) && methodsB cs (ch.drop 1) x.methods) := by simp only [classRowB, hx, hch]
      repeat (first | refine W.seq ?_ | refine W.block ?_ | refine W.skip ?_ | refine W.exit ?_ | refine W.region tab_ok 0 (by decide) (exec_run (by simp only [exec, stepQ, wantA, yieldA, kind, qv, qv1, qv2, stO, adrId, dataC, replC, eqNil, binNil, shiftInt, A.down, A1.up, downs, toR, ev, putS, rowO, ofConst, cellsA, cellsC, asC, asCs, ld, ldR, bin, binInt, binStr, binBool, sliceOf, bndOf, repl, fillC, zeroC, chunks, ptrIds, tabs, upd_app, mem_nil_app, entry_zero, entry_succ, entry_nil, top_app, maxStr, ByteArray.size, A.kill, O.kill, killS_app, killM_app, Nat.reduceAdd, Nat.reduceLeDiff, Nat.reduceEqDiff, Nat.reduceMul, Int.reduceToNat, reduceIte, wf_i64, Int.reduceLE, Int.reduceNeg, beq_self_eq_true, decide_true, decide_false, ybeq_some, ybeq_none, beqT, beqF, empty_toList, exs, at_map hx, cClass]; rfl)) ?_)
      refine W.regionK tab_ok 0 (by decide) ?_
      refine runk_split 3 (by simp only [exec, stepQ, wantA, yieldA, kind, qv, qv1, qv2, stO, adrId, dataC, replC, eqNil, binNil, shiftInt, A.down, A1.up, downs, toR, ev, putS, rowO, ofConst, cellsA, cellsC, asC, asCs, ld, ldR, bin, binInt, binStr, binBool, sliceOf, bndOf, repl, fillC, zeroC, chunks, ptrIds, tabs, upd_app, mem_nil_app, entry_zero, entry_succ, entry_nil, top_app, maxStr, ByteArray.size, A.kill, O.kill, killS_app, killM_app, Nat.reduceAdd, Nat.reduceLeDiff, Nat.reduceEqDiff, Nat.reduceMul, Int.reduceToNat, reduceIte, wf_i64, Int.reduceLE, Int.reduceNeg, beq_self_eq_true, decide_true, decide_false, ybeq_some, ybeq_none, beqT, beqF, empty_toList, exs, cClass]; rfl) ?_
      refine runk_call rfl rfl rfl rfl rfl (by simp) (cvs_cons cv_refl (cvs_cons cv_refl cvs_nil)) (hch ▸ chain_ok cs (.sl (cStmts mn)) x.name hlen _) ?_
      refine runk_exec (by simp only [exec, stepQ, wantA, yieldA, kind, qv, qv1, qv2, stO, adrId, dataC, replC, eqNil, binNil, shiftInt, A.down, A1.up, downs, toR, ev, putS, rowO, ofConst, cellsA, cellsC, asC, asCs, ld, ldR, bin, binInt, binStr, binBool, sliceOf, bndOf, repl, fillC, zeroC, chunks, ptrIds, tabs, upd_app, mem_nil_app, entry_zero, entry_succ, entry_nil, top_app, maxStr, ByteArray.size, A.kill, O.kill, killS_app, killM_app, Nat.reduceAdd, Nat.reduceLeDiff, Nat.reduceEqDiff, Nat.reduceMul, Int.reduceToNat, reduceIte, wf_i64, Int.reduceLE, Int.reduceNeg, beq_self_eq_true, decide_true, decide_false, ybeq_some, ybeq_none, beqT, beqF, empty_toList, exs]; rfl) ?_
      have bad : classRowB cs k = false → refErr 0 cs = 60 := fun h => by simp [refErr, h16, hn, not_range hlt h]
      by_cases hlong : cs.length < ch.length
      · have hl' : decide ((cs.length : Int) < (ch.length : Int)) = true := by simp; omega
        repeat (first | refine W.seq ?_ | refine W.block ?_ | refine W.skip ?_ | refine W.exit ?_ | refine W.region tab_ok 0 (by decide) (exec_run (by simp only [exec, stepQ, wantA, yieldA, kind, qv, qv1, qv2, stO, adrId, dataC, replC, eqNil, binNil, shiftInt, A.down, A1.up, downs, toR, ev, putS, rowO, ofConst, cellsA, cellsC, asC, asCs, ld, ldR, bin, binInt, binStr, binBool, sliceOf, bndOf, repl, fillC, zeroC, chunks, ptrIds, tabs, upd_app, mem_nil_app, entry_zero, entry_succ, entry_nil, top_app, maxStr, ByteArray.size, A.kill, O.kill, killS_app, killM_app, Nat.reduceAdd, Nat.reduceLeDiff, Nat.reduceEqDiff, Nat.reduceMul, Int.reduceToNat, reduceIte, wf_i64, Int.reduceLE, Int.reduceNeg, beq_self_eq_true, decide_true, decide_false, ybeq_some, ybeq_none, beqT, beqF, empty_toList, exs, hl']; rfl)) ?_)
        refine W.cond rfl ?_ ?_
        · intro _
          repeat (first | refine W.seq ?_ | refine W.block ?_ | refine W.skip ?_ | refine W.exit ?_ | refine W.region tab_ok 0 (by decide) (exec_run (by simp only [exec, stepQ, wantA, yieldA, kind, qv, qv1, qv2, stO, adrId, dataC, replC, eqNil, binNil, shiftInt, A.down, A1.up, downs, toR, ev, putS, rowO, ofConst, cellsA, cellsC, asC, asCs, ld, ldR, bin, binInt, binStr, binBool, sliceOf, bndOf, repl, fillC, zeroC, chunks, ptrIds, tabs, upd_app, mem_nil_app, entry_zero, entry_succ, entry_nil, top_app, maxStr, ByteArray.size, A.kill, O.kill, killS_app, killM_app, Nat.reduceAdd, Nat.reduceLeDiff, Nat.reduceEqDiff, Nat.reduceMul, Int.reduceToNat, reduceIte, wf_i64, Int.reduceLE, Int.reduceNeg, beq_self_eq_true, decide_true, decide_false, ybeq_some, ybeq_none, beqT, beqF, empty_toList, exs]; rfl)) ?_)
          refine W.ret ⟨.inr rfl, by rfl, ?_⟩
          simp only [Try.f10, resA, resOne, toT, fin, exec, stepQ, wantA, yieldA, kind, qv, qv1, qv2, stO, adrId, dataC, replC, eqNil, binNil, shiftInt, A.down, A1.up, downs, toR, ev, putS, rowO, ofConst, cellsA, cellsC, asC, asCs, ld, ldR, bin, binInt, binStr, binBool, sliceOf, bndOf, repl, fillC, zeroC, chunks, ptrIds, tabs, upd_app, mem_nil_app, entry_zero, entry_succ, entry_nil, top_app, maxStr, ByteArray.size, A.kill, O.kill, killS_app, killM_app, Nat.reduceAdd, Nat.reduceLeDiff, Nat.reduceEqDiff, Nat.reduceMul, Int.reduceToNat, reduceIte, wf_i64, Int.reduceLE, Int.reduceNeg, beq_self_eq_true, decide_true, decide_false, ybeq_some, ybeq_none, beqT, beqF, empty_toList, exs]
          rw [bad (by rw [hrow]; simp [hlong])]
        · intro h; cases h
      · have hl' : decide ((cs.length : Int) < (ch.length : Int)) = false := by simp; omega
        repeat (first | refine W.seq ?_ | refine W.block ?_ | refine W.skip ?_ | refine W.exit ?_ | refine W.region tab_ok 0 (by decide) (exec_run (by simp only [exec, stepQ, wantA, yieldA, kind, qv, qv1, qv2, stO, adrId, dataC, replC, eqNil, binNil, shiftInt, A.down, A1.up, downs, toR, ev, putS, rowO, ofConst, cellsA, cellsC, asC, asCs, ld, ldR, bin, binInt, binStr, binBool, sliceOf, bndOf, repl, fillC, zeroC, chunks, ptrIds, tabs, upd_app, mem_nil_app, entry_zero, entry_succ, entry_nil, top_app, maxStr, ByteArray.size, A.kill, O.kill, killS_app, killM_app, Nat.reduceAdd, Nat.reduceLeDiff, Nat.reduceEqDiff, Nat.reduceMul, Int.reduceToNat, reduceIte, wf_i64, Int.reduceLE, Int.reduceNeg, beq_self_eq_true, decide_true, decide_false, ybeq_some, ybeq_none, beqT, beqF, empty_toList, exs]; rfl)) ?_)
        refine W.regionK tab_ok 0 (by decide) ?_
        refine runk_split 9 (by simp only [exec, stepQ, wantA, yieldA, kind, qv, qv1, qv2, stO, adrId, dataC, replC, eqNil, binNil, shiftInt, A.down, A1.up, downs, toR, ev, putS, rowO, ofConst, cellsA, cellsC, asC, asCs, ld, ldR, bin, binInt, binStr, binBool, sliceOf, bndOf, repl, fillC, zeroC, chunks, ptrIds, tabs, upd_app, mem_nil_app, entry_zero, entry_succ, entry_nil, top_app, maxStr, ByteArray.size, A.kill, O.kill, killS_app, killM_app, Nat.reduceAdd, Nat.reduceLeDiff, Nat.reduceEqDiff, Nat.reduceMul, Int.reduceToNat, reduceIte, wf_i64, Int.reduceLE, Int.reduceNeg, beq_self_eq_true, decide_true, decide_false, ybeq_some, ybeq_none, beqT, beqF, empty_toList, exs, hl']; rfl) ?_
        refine runk_call rfl rfl rfl rfl rfl (by simp) (cvs_cons cv_refl (cvs_cons cv_refl cvs_nil)) (fields_ok cs (.sl (cStmts mn)) ch (by omega) (by omega) hfl2 _) ?_
        refine runk_split 0 (by simp only [exec, stepQ, wantA, yieldA, kind, qv, qv1, qv2, stO, adrId, dataC, replC, eqNil, binNil, shiftInt, A.down, A1.up, downs, toR, ev, putS, rowO, ofConst, cellsA, cellsC, asC, asCs, ld, ldR, bin, binInt, binStr, binBool, sliceOf, bndOf, repl, fillC, zeroC, chunks, ptrIds, tabs, upd_app, mem_nil_app, entry_zero, entry_succ, entry_nil, top_app, maxStr, ByteArray.size, A.kill, O.kill, killS_app, killM_app, Nat.reduceAdd, Nat.reduceLeDiff, Nat.reduceEqDiff, Nat.reduceMul, Int.reduceToNat, reduceIte, wf_i64, Int.reduceLE, Int.reduceNeg, beq_self_eq_true, decide_true, decide_false, ybeq_some, ybeq_none, beqT, beqF, empty_toList, exs]; rfl) ?_
        refine runk_call rfl rfl rfl rfl rfl (by simp) (cvs_cons cv_refl cvs_nil) (twice_ok (fieldsF cs ch) (by omega) _) ?_
        refine runk_exec (by simp only [exec, stepQ, wantA, yieldA, kind, qv, qv1, qv2, stO, adrId, dataC, replC, eqNil, binNil, shiftInt, A.down, A1.up, downs, toR, ev, putS, rowO, ofConst, cellsA, cellsC, asC, asCs, ld, ldR, bin, binInt, binStr, binBool, sliceOf, bndOf, repl, fillC, zeroC, chunks, ptrIds, tabs, upd_app, mem_nil_app, entry_zero, entry_succ, entry_nil, top_app, maxStr, ByteArray.size, A.kill, O.kill, killS_app, killM_app, Nat.reduceAdd, Nat.reduceLeDiff, Nat.reduceEqDiff, Nat.reduceMul, Int.reduceToNat, reduceIte, wf_i64, Int.reduceLE, Int.reduceNeg, beq_self_eq_true, decide_true, decide_false, ybeq_some, ybeq_none, beqT, beqF, empty_toList, exs]; rfl) ?_
        refine W.cond rfl ?_ ?_
        · intro h
          repeat (first | refine W.seq ?_ | refine W.block ?_ | refine W.skip ?_ | refine W.exit ?_ | refine W.region tab_ok 0 (by decide) (exec_run (by simp only [exec, stepQ, wantA, yieldA, kind, qv, qv1, qv2, stO, adrId, dataC, replC, eqNil, binNil, shiftInt, A.down, A1.up, downs, toR, ev, putS, rowO, ofConst, cellsA, cellsC, asC, asCs, ld, ldR, bin, binInt, binStr, binBool, sliceOf, bndOf, repl, fillC, zeroC, chunks, ptrIds, tabs, upd_app, mem_nil_app, entry_zero, entry_succ, entry_nil, top_app, maxStr, ByteArray.size, A.kill, O.kill, killS_app, killM_app, Nat.reduceAdd, Nat.reduceLeDiff, Nat.reduceEqDiff, Nat.reduceMul, Int.reduceToNat, reduceIte, wf_i64, Int.reduceLE, Int.reduceNeg, beq_self_eq_true, decide_true, decide_false, ybeq_some, ybeq_none, beqT, beqF, empty_toList, exs]; rfl)) ?_)
          refine W.ret ⟨.inr rfl, by rfl, ?_⟩
          simp only [Try.f10, resA, resOne, toT, fin, exec, stepQ, wantA, yieldA, kind, qv, qv1, qv2, stO, adrId, dataC, replC, eqNil, binNil, shiftInt, A.down, A1.up, downs, toR, ev, putS, rowO, ofConst, cellsA, cellsC, asC, asCs, ld, ldR, bin, binInt, binStr, binBool, sliceOf, bndOf, repl, fillC, zeroC, chunks, ptrIds, tabs, upd_app, mem_nil_app, entry_zero, entry_succ, entry_nil, top_app, maxStr, ByteArray.size, A.kill, O.kill, killS_app, killM_app, Nat.reduceAdd, Nat.reduceLeDiff, Nat.reduceEqDiff, Nat.reduceMul, Int.reduceToNat, reduceIte, wf_i64, Int.reduceLE, Int.reduceNeg, beq_self_eq_true, decide_true, decide_false, ybeq_some, ybeq_none, beqT, beqF, empty_toList, exs]
          rw [bad (by rw [hrow, h]; simp)]
        · intro htw
          repeat (first | refine W.seq ?_ | refine W.block ?_ | refine W.skip ?_ | refine W.exit ?_ | refine W.region tab_ok 0 (by decide) (exec_run (by simp only [exec, stepQ, wantA, yieldA, kind, qv, qv1, qv2, stO, adrId, dataC, replC, eqNil, binNil, shiftInt, A.down, A1.up, downs, toR, ev, putS, rowO, ofConst, cellsA, cellsC, asC, asCs, ld, ldR, bin, binInt, binStr, binBool, sliceOf, bndOf, repl, fillC, zeroC, chunks, ptrIds, tabs, upd_app, mem_nil_app, entry_zero, entry_succ, entry_nil, top_app, maxStr, ByteArray.size, A.kill, O.kill, killS_app, killM_app, Nat.reduceAdd, Nat.reduceLeDiff, Nat.reduceEqDiff, Nat.reduceMul, Int.reduceToNat, reduceIte, wf_i64, Int.reduceLE, Int.reduceNeg, beq_self_eq_true, decide_true, decide_false, ybeq_some, ybeq_none, beqT, beqF, empty_toList, exs]; rfl)) ?_)
          have hcs : ∀ x ∈ ch.map cStr, x.length = 1 := by simp [cStr]
          refine W.regionDK tab_ok 0 follows_mixed (by kernel_rfl) (by decide) ?_
          refine runk_split 4 (by simp only [exec, stepQ, wantA, yieldA, kind, qv, qv1, qv2, stO, adrId, dataC, replC, eqNil, binNil, shiftInt, A.down, A1.up, downs, toR, ev, putS, rowO, ofConst, cellsA, cellsC, asC, asCs, ld, ldR, bin, binInt, binStr, binBool, sliceOf, bndOf, repl, fillC, zeroC, chunks, ptrIds, tabs, upd_app, mem_nil_app, entry_zero, entry_succ, entry_nil, top_app, maxStr, ByteArray.size, A.kill, O.kill, killS_app, killM_app, Nat.reduceAdd, Nat.reduceLeDiff, Nat.reduceEqDiff, Nat.reduceMul, Int.reduceToNat, reduceIte, wf_i64, Int.reduceLE, Int.reduceNeg, beq_self_eq_true, decide_true, decide_false, ybeq_some, ybeq_none, beqT, beqF, empty_toList, exs, hpos, eq_true hcs, Nat.le_refl, ← List.map_take, List.take_length, ← List.map_drop]; rfl) ?_
          refine runk_call rfl rfl rfl rfl rfl (by simp) (cvs_cons cv_refl (cvs_cons cv_refl (cvs_cons cv_refl cvs_nil))) (methods_ok cs (.sl (cStmts mn)) x (ch.drop 1) (by omega) (by rw [List.length_drop]; omega) (fun n => Nat.le_trans (hS.classD n).2 (by omega)) (by omega) (fun m hm => Nat.le_trans (hSx.2.2 m hm) (by omega)) _) ?_
          refine runk_exec (by simp only [exec, stepQ, wantA, yieldA, kind, qv, qv1, qv2, stO, adrId, dataC, replC, eqNil, binNil, shiftInt, A.down, A1.up, downs, toR, ev, putS, rowO, ofConst, cellsA, cellsC, asC, asCs, ld, ldR, bin, binInt, binStr, binBool, sliceOf, bndOf, repl, fillC, zeroC, chunks, ptrIds, tabs, upd_app, mem_nil_app, entry_zero, entry_succ, entry_nil, top_app, maxStr, ByteArray.size, A.kill, O.kill, killS_app, killM_app, Nat.reduceAdd, Nat.reduceLeDiff, Nat.reduceEqDiff, Nat.reduceMul, Int.reduceToNat, reduceIte, wf_i64, Int.reduceLE, Int.reduceNeg, beq_self_eq_true, decide_true, decide_false, ybeq_some, ybeq_none, beqT, beqF, empty_toList, exs]; rfl) ?_
          refine W.cond rfl ?_ ?_
          · intro h
            repeat (first | refine W.seq ?_ | refine W.block ?_ | refine W.skip ?_ | refine W.exit ?_ | refine W.region tab_ok 0 (by decide) (exec_run (by simp only [exec, stepQ, wantA, yieldA, kind, qv, qv1, qv2, stO, adrId, dataC, replC, eqNil, binNil, shiftInt, A.down, A1.up, downs, toR, ev, putS, rowO, ofConst, cellsA, cellsC, asC, asCs, ld, ldR, bin, binInt, binStr, binBool, sliceOf, bndOf, repl, fillC, zeroC, chunks, ptrIds, tabs, upd_app, mem_nil_app, entry_zero, entry_succ, entry_nil, top_app, maxStr, ByteArray.size, A.kill, O.kill, killS_app, killM_app, Nat.reduceAdd, Nat.reduceLeDiff, Nat.reduceEqDiff, Nat.reduceMul, Int.reduceToNat, reduceIte, wf_i64, Int.reduceLE, Int.reduceNeg, beq_self_eq_true, decide_true, decide_false, ybeq_some, ybeq_none, beqT, beqF, empty_toList, exs]; rfl)) ?_)
            refine W.ret ⟨.inr rfl, by rfl, ?_⟩
            simp only [Try.f10, resA, resOne, toT, fin, exec, stepQ, wantA, yieldA, kind, qv, qv1, qv2, stO, adrId, dataC, replC, eqNil, binNil, shiftInt, A.down, A1.up, downs, toR, ev, putS, rowO, ofConst, cellsA, cellsC, asC, asCs, ld, ldR, bin, binInt, binStr, binBool, sliceOf, bndOf, repl, fillC, zeroC, chunks, ptrIds, tabs, upd_app, mem_nil_app, entry_zero, entry_succ, entry_nil, top_app, maxStr, ByteArray.size, A.kill, O.kill, killS_app, killM_app, Nat.reduceAdd, Nat.reduceLeDiff, Nat.reduceEqDiff, Nat.reduceMul, Int.reduceToNat, reduceIte, wf_i64, Int.reduceLE, Int.reduceNeg, beq_self_eq_true, decide_true, decide_false, ybeq_some, ybeq_none, beqT, beqF, empty_toList, exs]
            have h' : methodsB cs (ch.drop 1) x.methods = false := by simpa using h
            rw [bad (by rw [hrow, h']; simp)]
          · intro h
            have h' : methodsB cs (ch.drop 1) x.methods = true := by simpa using h
            repeat (first | refine W.seq ?_ | refine W.block ?_ | refine W.skip ?_ | refine W.exit ?_ | refine W.region tab_ok 0 (by decide) (exec_run (by simp only [exec, stepQ, wantA, yieldA, kind, qv, qv1, qv2, stO, adrId, dataC, replC, eqNil, binNil, shiftInt, A.down, A1.up, downs, toR, ev, putS, rowO, ofConst, cellsA, cellsC, asC, asCs, ld, ldR, bin, binInt, binStr, binBool, sliceOf, bndOf, repl, fillC, zeroC, chunks, ptrIds, tabs, upd_app, mem_nil_app, entry_zero, entry_succ, entry_nil, top_app, maxStr, ByteArray.size, A.kill, O.kill, killS_app, killM_app, Nat.reduceAdd, Nat.reduceLeDiff, Nat.reduceEqDiff, Nat.reduceMul, Int.reduceToNat, reduceIte, wf_i64, Int.reduceLE, Int.reduceNeg, beq_self_eq_true, decide_true, decide_false, ybeq_some, ybeq_none, beqT, beqF, empty_toList, exs]; rfl)) ?_)
            refine ⟨k + 1, ⟨hlt, fun i hi => ?_⟩, by omega, ?_⟩
            · rcases Nat.lt_succ_iff_lt_or_eq.1 hi with q | q
              · exact hall i q
              · subst q; rw [hrow, h', htw]; simp [hlong]
            refine le_mk ?sle ?mle ?swf ?mwf ?kept (by rfl)
            case kept => exact kept_not hkeep
            case swf => repeat (first | exact swf_top _ | refine swf_upd ?_ (by simp [A.ids, upd_app]))
            case mwf => repeat (first | exact mwf_nil _ | refine mwf_upd ?_ (by simp [A.ids, O.ids, upd_app]))
            case mle => repeat (first | exact mle_nil _ | exact mle_refl _ | refine mle_upd ?_ (by first | rfl | (simp only [upd_app, killM_app, Nat.reduceEqDiff, reduceIte, wrap_succ (show k + 1 < 9223372036854775808 by omega)]; done)))
            case sle => repeat (first | exact sle_top _ | exact sle_refl _ | refine sle_upd ?_ (by first | rfl | (simp only [upd_app, entry_zero, entry_succ, Nat.reduceEqDiff, reduceIte, wrap_succ (show k + 1 < 9223372036854775808 by omega)]; done)))
    · intro hge
      simp only [decide_eq_false_iff_not, Int.ofNat_lt] at hge
      obtain rfl : k = cs.length := by omega
      repeat (first | refine W.seq ?_ | refine W.block ?_ | refine W.skip ?_ | refine W.exit ?_ | refine W.region tab_ok 0 (by decide) (exec_run (by simp only [exec, stepQ, wantA, yieldA, kind, qv, qv1, qv2, stO, adrId, dataC, replC, eqNil, binNil, shiftInt, A.down, A1.up, downs, toR, ev, putS, rowO, ofConst, cellsA, cellsC, asC, asCs, ld, ldR, bin, binInt, binStr, binBool, sliceOf, bndOf, repl, fillC, zeroC, chunks, ptrIds, tabs, upd_app, mem_nil_app, entry_zero, entry_succ, entry_nil, top_app, maxStr, ByteArray.size, A.kill, O.kill, killS_app, killM_app, Nat.reduceAdd, Nat.reduceLeDiff, Nat.reduceEqDiff, Nat.reduceMul, Int.reduceToNat, reduceIte, wf_i64, Int.reduceLE, Int.reduceNeg, beq_self_eq_true, decide_true, decide_false, ybeq_some, ybeq_none, beqT, beqF, empty_toList, exs]; rfl)) ?_)
      refine W.ret ⟨.inr rfl, by rfl, ?_⟩
      simp only [Try.f10, resA, resOne, toT, fin, exec, stepQ, wantA, yieldA, kind, qv, qv1, qv2, stO, adrId, dataC, replC, eqNil, binNil, shiftInt, A.down, A1.up, downs, toR, ev, putS, rowO, ofConst, cellsA, cellsC, asC, asCs, ld, ldR, bin, binInt, binStr, binBool, sliceOf, bndOf, repl, fillC, zeroC, chunks, ptrIds, tabs, upd_app, mem_nil_app, entry_zero, entry_succ, entry_nil, top_app, maxStr, ByteArray.size, A.kill, O.kill, killS_app, killM_app, Nat.reduceAdd, Nat.reduceLeDiff, Nat.reduceEqDiff, Nat.reduceMul, Int.reduceToNat, reduceIte, wf_i64, Int.reduceLE, Int.reduceNeg, beq_self_eq_true, decide_true, decide_false, ybeq_some, ybeq_none, beqT, beqF, empty_toList, exs]
      simp [refErr, h16, hn, all_range hall]
end V
end Go.Proofs.Ytjciafpihdbedaa
end
section
/- Trees read as show/Base has them, and as plain data: from one to the other. -/
namespace Go.Proofs.Ytjciafpihdbedaa
namespace V
open Go.RowKit

theorem cellsAt_of {w : World} {b : Nat} : ∀ {cs : List Value} {o : Nat}, (∀ (j : Nat) v, cs[j]? = some v → w.cell? ⟨b, o + j, none⟩ = some v) → cellsAt w b o cs
  | [], _, _ => trivial
  | v :: cs, o, h => ⟨by simpa using h 0 v rfl, cellsAt_of fun j u hj => by have := h (j + 1) u (by simpa using hj); rwa [show o + (j + 1) = o + 1 + j by omega] at this⟩
theorem cellsAt_get {w : World} {b : Nat} : ∀ {cs : List Value} {o : Nat}, cellsAt w b o cs → ∀ (j : Nat) v, cs[j]? = some v → w.cell? ⟨b, o + j, none⟩ = some v
  | [], _, _, j, v, h => by simp at h
  | u :: cs, o, h, 0, v, hv => by simp at hv; subst hv; exact h.1
  | u :: cs, o, h, j + 1, v, hv => by
    have := cellsAt_get h.2 j v (by simpa using hv)
    rwa [show o + (j + 1) = o + 1 + j by omega]
section
variable {w : World} {I : Nat → Nat → Prop}
theorem rc_rsl {α : Type} {f : α → List C} {sz : Nat} {R : List Value → α → Prop} {J : Nat → Prop} {v : Value} {l : List α} (hI : ∀ b o, I b o → J b) (hz : 0 < sz) (hf : ∀ x ∈ l, (f x).length = sz) (hR : ∀ cs x, x ∈ l → RCs w I cs (f x) → R cs x) (h : RC w I v (.sl (l.map f))) : RSl sz R w J v l := by
  cases h with
  | @sl a n cap e _ g h1 h2 h3 h4 h5 h6 =>
    refine ⟨a, n, cap, rfl, by simpa using h1, h2, by unfold maxC; unfold maxLen at h3; omega, fun i x hx => ?_⟩
    have hx' := at_map (f := f) hx
    have hm := List.mem_of_getElem? hx
    have he : e = sz := by rw [← hf x hm, h4 _ (List.mem_of_getElem? hx')]
    subst he
    obtain ⟨b, off, rfl, hc⟩ := h5 _ _ hx'
    refine ⟨b, off, (List.range e).map (g i), rfl, hI b _ (hc 0 hz).1, cellsAt_of fun j u hj => ?_, hR _ _ hm (RCs.of (by simp [hf x hm]) fun j u c hj hcj => ?_)⟩
    · rw [List.getElem?_map] at hj
      by_cases hje : j < e
      · rw [List.getElem?_range hje] at hj; cases hj; exact (hc j hje).2
      · rw [List.getElem?_eq_none (by simp; omega)] at hj; cases hj
    · rw [List.getElem?_map] at hj
      by_cases hje : j < e
      · rw [List.getElem?_range hje] at hj; cases hj; exact h6 _ _ _ _ hx' hcj
      · rw [List.getElem?_eq_none (by simp; omega)] at hj; cases hj
theorem rsl_rc {α : Type} {f : α → List C} {sz : Nat} {R : List Value → α → Prop} {J : Nat → Prop} {v : Value} {l : List α} (hI : ∀ b o, J b → I b o) (hR : ∀ cs x, x ∈ l → R cs x → cs.length = sz ∧ RCs w I cs (f x)) (h : RSl sz R w J v l) : RC w I v (.sl (l.map f)) := by
  obtain ⟨a, n, cap, rfl, h1, h2, h3, h4⟩ := h
  have hch : ∀ (i : Nat) x, l[i]? = some x → ∃ cs : List Value, ∃ b off, a = some ⟨b, off, none⟩ ∧ J b ∧ cellsAt w b (off + i * sz) cs ∧ cs.length = sz ∧ RCs w I cs (f x) := fun i x hx => by
    obtain ⟨b, off, cs, e1, e2, e3, e4⟩ := h4 i x hx
    obtain ⟨e5, e6⟩ := hR cs x (List.mem_of_getElem? hx) e4
    exact ⟨cs, b, off, e1, e2, e3, e5, e6⟩
  obtain ⟨g, hg⟩ : ∃ g : Nat → List Value, ∀ (i : Nat) x, l[i]? = some x → ∃ b off, a = some ⟨b, off, none⟩ ∧ J b ∧ cellsAt w b (off + i * sz) (g i) ∧ (g i).length = sz ∧ RCs w I (g i) (f x) := by
    have : ∀ i, ∃ g : List Value, ∀ x, l[i]? = some x → ∃ b off, a = some ⟨b, off, none⟩ ∧ J b ∧ cellsAt w b (off + i * sz) g ∧ g.length = sz ∧ RCs w I g (f x) := fun i => by
      cases hx : l[i]? with
      | none => exact ⟨[], fun x h => by cases h⟩
      | some x =>
        obtain ⟨cs, b, off, q⟩ := hch i x hx
        exact ⟨cs, fun y hy => by cases hy; exact ⟨b, off, q⟩⟩
    exact Classical.skolem.1 this
  have el : ∀ (i : Nat) y, (l.map f)[i]? = some y → ∃ x, l[i]? = some x ∧ y = f x := fun i y hy => by
    rw [List.getElem?_map] at hy
    cases hx : l[i]? with
    | none => rw [hx] at hy; cases hy
    | some x => rw [hx] at hy; exact ⟨x, rfl, (Option.some.inj hy).symm⟩
  refine .sl (e := sz) (fun i j => (g i).getD j undef) (by simpa using h1) h2 (by unfold maxLen; unfold maxC at h3; omega) (fun y hy => ?_) (fun i y hy => ?_) (fun i j y c hy hc => ?_)
  · obtain ⟨i, hi⟩ := List.getElem?_of_mem hy
    obtain ⟨x, hx, rfl⟩ := el i y hi
    obtain ⟨b, off, -, -, -, q1, q2⟩ := hg i x hx
    rw [← q2.length, q1]
  · obtain ⟨x, hx, rfl⟩ := el i y hy
    obtain ⟨b, off, q1, q2, q3, q4, -⟩ := hg i x hx
    refine ⟨b, off, q1, fun j hj => ⟨hI b _ q2, ?_⟩⟩
    have hj' : j < (g i).length := by omega
    rw [cellsAt_get q3 j _ (List.getElem?_eq_getElem hj')]
    simp [hj']
  · obtain ⟨x, hx, rfl⟩ := el i y hy
    obtain ⟨b, off, -, -, -, -, q2⟩ := hg i x hx
    obtain ⟨u, h5, h6⟩ := q2.at j c hc
    simp [h5]; exact h6
variable (hI : ∀ b o, I b o → b < w.heap.size)
theorem rcs_slot {cs : List Value} {x : Slot} (h : RCs w I cs (cSlot x)) : RSlot cs x := by
  match cs, h with
  | [a, b], ⟨h1, h2, _⟩ => exact ⟨by rw [h1.toStr.1, h2.toStr.1], h1.toStr.2, h2.toStr.2⟩
theorem slot_rcs {cs : List Value} {x : Slot} (h : RSlot cs x) : cs.length = 2 ∧ RCs w I cs (cSlot x) := by
  obtain ⟨rfl, h1, h2⟩ := h
  exact ⟨rfl, .str h1, .str h2, trivial⟩
include hI in
theorem rc_slots {v : Value} {l : List Slot} (h : RC w I v (.sl (l.map cSlot))) : RSlots w (· < w.heap.size) v l := rc_rsl hI (by decide) (fun _ _ => rfl) (fun _ _ _ h => rcs_slot h) h
mutual
def dExpr : Expr → Nat
  | ⟨_, _, _, kids⟩ => dExprs kids + 1
def dExprs : List Expr → Nat
  | [] => 0
  | x :: l => max (dExpr x) (dExprs l)
end
theorem dExprs_mem {l : List Expr} {x : Expr} (h : x ∈ l) : dExpr x ≤ dExprs l := by
  induction l with
  | nil => simp at h
  | cons y l ih =>
    simp only [dExprs]
    rcases List.mem_cons.1 h with rfl | h
    · omega
    · have := ih h; omega
include hI in
theorem rcs_expr : ∀ (d : Nat) {cs : List Value} {x : Expr}, dExpr x ≤ d → RCs w I cs (cExpr x) → RExpr d w (· < w.heap.size) cs x
  | 0, cs, ⟨k, n, nm, kids⟩, hd, _ => by simp [dExpr] at hd
  | d + 1, cs, ⟨k, n, nm, kids⟩, hd, h => by
    simp only [cExpr] at h
    match cs, h with
    | [a, b, c, e], ⟨h1, h2, h3, h4, _⟩ =>
      simp only [dExpr] at hd
      rw [cExprs_map] at h4
      refine ⟨e, by rw [h1.toInt.1, h2.toInt.1, h3.toStr.1], h1.toInt.2, h2.toInt.2, h3.toStr.2, rc_rsl hI (by decide) (fun x _ => by cases x; rfl) (fun cs x hx hc => rcs_expr d (by have h' : dExpr x ≤ dExprs kids := dExprs_mem hx; omega) hc) h4⟩
theorem expr_rcs (hJ : ∀ b o, b < w.heap.size → I b o) : ∀ (d : Nat) {cs : List Value} {x : Expr}, RExpr d w (· < w.heap.size) cs x → cs.length = 4 ∧ RCs w I cs (cExpr x)
  | 0, _, _, h => h.elim
  | d + 1, cs, ⟨k, n, nm, kids⟩, ⟨kv, h1, h2, h3, h4, h5⟩ => by
    subst h1
    refine ⟨rfl, .int h2, .int h3, .str h4, ?_, trivial⟩
    rw [cExprs_map]
    exact rsl_rc hJ (fun _ _ _ h => expr_rcs hJ d h) h5
mutual
def dStmt : Stmt → Nat
  | ⟨_, _, _, _, es, th, el⟩ => max (dExprs es) (max (dStmts th) (dStmts el)) + 1
def dStmts : List Stmt → Nat
  | [] => 0
  | x :: l => max (dStmt x) (dStmts l)
end
theorem dStmts_mem {l : List Stmt} {x : Stmt} (h : x ∈ l) : dStmt x ≤ dStmts l := by
  induction l with
  | nil => simp at h
  | cons y l ih =>
    simp only [dStmts]
    rcases List.mem_cons.1 h with rfl | h
    · omega
    · have := ih h; omega
include hI in
theorem rcs_stmt : ∀ (d : Nat) {cs : List Value} {x : Stmt}, dStmt x ≤ d → RCs w I cs (cStmt x) → RStmt d w (· < w.heap.size) cs x
  | 0, cs, ⟨k, n, ty, nm, es, th, el⟩, hd, _ => by simp [dStmt] at hd
  | d + 1, cs, ⟨k, n, ty, nm, es, th, el⟩, hd, h => by
    simp only [cStmt] at h
    match cs, h with
    | [a, b, c, e, f, g, i], ⟨h1, h2, h3, h4, h5, h6, h7, _⟩ =>
      simp only [dStmt] at hd
      rw [cExprs_map] at h5
      rw [cStmts_map] at h6 h7
      refine ⟨f, g, i, by rw [h1.toInt.1, h2.toInt.1, h3.toStr.1, h4.toStr.1], h1.toInt.2, h2.toInt.2, h3.toStr.2, h4.toStr.2, rc_rsl hI (by decide) (fun x _ => by cases x; rfl) (fun cs x hx hc => rcs_expr hI d (by have h' : dExpr x ≤ dExprs es := dExprs_mem hx; omega) hc) h5,
        rc_rsl hI (by decide) (fun x _ => by cases x; rfl) (fun cs x hx hc => rcs_stmt d (by have h' : dStmt x ≤ dStmts th := dStmts_mem hx; omega) hc) h6, rc_rsl hI (by decide) (fun x _ => by cases x; rfl) (fun cs x hx hc => rcs_stmt d (by have h' : dStmt x ≤ dStmts el := dStmts_mem hx; omega) hc) h7⟩
theorem stmt_rcs (hJ : ∀ b o, b < w.heap.size → I b o) : ∀ (d : Nat) {cs : List Value} {x : Stmt}, RStmt d w (· < w.heap.size) cs x → cs.length = 7 ∧ RCs w I cs (cStmt x)
  | 0, _, _, h => h.elim
  | d + 1, cs, ⟨k, n, ty, nm, es, th, el⟩, ⟨ev, tv, fv, h1, h2, h3, h4, h5, h6, h7, h8⟩ => by
    subst h1
    refine ⟨rfl, .int h2, .int h3, .str h4, .str h5, ?_, ?_, ?_, trivial⟩
    · rw [cExprs_map]; exact rsl_rc hJ (fun _ _ _ h => expr_rcs hJ d h) h6
    · rw [cStmts_map]; exact rsl_rc hJ (fun _ _ _ h => stmt_rcs hJ d h) h7
    · rw [cStmts_map]; exact rsl_rc hJ (fun _ _ _ h => stmt_rcs hJ d h) h8
include hI in
theorem rc_stmts {v : Value} {l : List Stmt} {d : Nat} (hd : dStmts l ≤ d) (h : RC w I v (.sl (cStmts l))) : RStmts d w (· < w.heap.size) v l := by
  rw [cStmts_map] at h
  exact rc_rsl hI (by decide) (fun x _ => by cases x; rfl) (fun cs x hx hc => rcs_stmt hI d (by have h' : dStmt x ≤ dStmts l := dStmts_mem hx; omega) hc) h
def dMethod (x : Method) : Nat := dStmts x.body
include hI in
theorem rcs_method {cs : List Value} {x : Method} {d : Nat} (hd : dMethod x ≤ d) (h : RCs w I cs (cMethod x)) : RMethod d w (· < w.heap.size) cs x := by
  match cs, h with
  | [a, b, c, e], ⟨h1, h2, h3, h4, _⟩ => exact ⟨c, e, by rw [h1.toStr.1, h2.toStr.1], h1.toStr.2, h2.toStr.2, rc_slots hI h3, rc_stmts hI hd h4⟩
theorem method_rcs (hJ : ∀ b o, b < w.heap.size → I b o) {d : Nat} {cs : List Value} {x : Method} (h : RMethod d w (· < w.heap.size) cs x) : cs.length = 4 ∧ RCs w I cs (cMethod x) := by
  obtain ⟨pv, bv, rfl, h1, h2, h3, h4⟩ := h
  refine ⟨rfl, .str h1, .str h2, rsl_rc hJ (fun _ _ _ h => slot_rcs h) h3, ?_, trivial⟩
  rw [cStmts_map]; exact rsl_rc hJ (fun _ _ _ h => stmt_rcs hJ d h) h4
def maxL (l : List Nat) : Nat := l.foldr max 0
theorem maxL_mem {l : List Nat} {x : Nat} (h : x ∈ l) : x ≤ maxL l := by
  induction l with
  | nil => simp at h
  | cons y l ih =>
    simp only [maxL, List.foldr_cons] at ih ⊢
    rcases List.mem_cons.1 h with rfl | h
    · omega
    · have := ih h; omega
def dClass (x : Class) : Nat := maxL (x.methods.map dMethod)
include hI in
theorem rcs_class {cs : List Value} {x : Class} {d : Nat} (hd : dClass x ≤ d) (h : RCs w I cs (cClass x)) : RClass d w (· < w.heap.size) cs x := by
  match cs, h with
  | [a, b, c, e], ⟨h1, h2, h3, h4, _⟩ =>
    exact ⟨c, e, by rw [h1.toStr.1, h2.toStr.1], h1.toStr.2, h2.toStr.2, rc_slots hI h3, rc_rsl hI (by decide) (fun _ _ => rfl) (fun cs m hm hc => rcs_method hI (Nat.le_trans (maxL_mem (List.mem_map_of_mem hm)) hd) hc) h4⟩
theorem class_rcs (hJ : ∀ b o, b < w.heap.size → I b o) {d : Nat} {cs : List Value} {x : Class} (h : RClass d w (· < w.heap.size) cs x) : cs.length = 4 ∧ RCs w I cs (cClass x) := by
  obtain ⟨pv, bv, rfl, h1, h2, h3, h4⟩ := h
  exact ⟨rfl, .str h1, .str h2, rsl_rc hJ (fun _ _ _ h => slot_rcs h) h3, rsl_rc hJ (fun _ _ _ h => method_rcs hJ h) h4, trivial⟩
include hI in
theorem rc_classes {v : Value} {l : List Class} : ∃ d, RC w I v (.sl (l.map cClass)) → RClasses d w (· < w.heap.size) v l :=
  ⟨maxL (l.map dClass), fun h => rc_rsl hI (by decide) (fun _ _ => rfl) (fun _ _ hm hc => rcs_class hI (maxL_mem (List.mem_map_of_mem hm)) hc) h⟩
/-- A program as plain data reads as a program. -/
theorem rprog_of {v : Value} {p : Program} (hI : ∀ b o, I b o → b < w.heap.size) (h : ∃ us, v = .agg us.toArray ∧ RCs w I us (cProg p)) : ∃ d, RProgram d w (· < w.heap.size) v p := by
  obtain ⟨us, rfl, h⟩ := h
  match us, h with
  | [a, b], ⟨h1, h2, _⟩ =>
    refine ⟨max (maxL (p.classes.map dClass)) (dStmts p.main), a, b, rfl, ?_, rc_stmts hI (by omega) h2⟩
    exact rc_rsl hI (by decide) (fun _ _ => rfl) (fun _ _ hm hc => rcs_class hI (by have := maxL_mem (List.mem_map_of_mem (f := dClass) hm); omega) hc) h1
theorem prog_rcs (hJ : ∀ b o, b < w.heap.size → I b o) {d : Nat} {v : Value} {p : Program} (h : RProgram d w (· < w.heap.size) v p) : ∃ us, v = .agg us.toArray ∧ RCs w I us (cProg p) := by
  obtain ⟨cv, mv, rfl, h1, h2⟩ := h
  refine ⟨[cv, mv], rfl, rsl_rc hJ (fun _ _ _ h => class_rcs hJ h) h1, ?_, trivial⟩
  rw [cStmts_map]; exact rsl_rc hJ (fun _ _ _ h => stmt_rcs hJ d h) h2
end
end V
end Go.Proofs.Ytjciafpihdbedaa
end
section
/- What the bound of an Upto statement says of a program's lists. -/
set_option linter.unusedVariables false
set_option linter.unusedSimpArgs false
namespace Go.Proofs.Ytjciafpihdbedaa
namespace V
open Go.RowKit
section
variable {H : Type} {enc : TypeId × Value → H} {w : World} {held : Bool}
theorem bulk_one (d : DataW H) : 1 ≤ Rows.uptoBulk d := by
  cases d with
  | lit l => cases l <;> simp [Rows.uptoBulk]
  | _ => simp [Rows.uptoBulk]
theorem bulk_mem {d : DataW H} {l : List (DataW H)} (h : d ∈ l) : Rows.uptoBulk d ≤ Rows.uptoBulkAll l := by
  induction l with
  | nil => cases h
  | cons x r ih =>
    simp only [Rows.uptoBulkAll]
    rcases List.mem_cons.1 h with rfl | e
    · omega
    · have := ih e; omega
theorem bulk_len (l : List (DataW H)) : l.length ≤ Rows.uptoBulkAll l := by
  induction l with
  | nil => simp [Rows.uptoBulkAll]
  | cons x r ih => have := bulk_one x; simp only [Rows.uptoBulkAll, List.length_cons]; omega
theorem cells_same {b off : Nat} {cs cs' : List Value} (h : cellsAt w b off cs) (k : ∀ i, i < cs'.length → w.cell? ⟨b, off + i, none⟩ = cs'[i]?) (hl : cs.length = cs'.length) : cs = cs' := by
  refine List.ext_getElem? fun i => ?_
  by_cases hi : i < cs.length
  · have h1 := cellsAt_get h i _ (List.getElem?_eq_getElem hi)
    have h2 := k i (by omega)
    rw [List.getElem?_eq_getElem hi, ← h2, ← h1]
  · rw [List.getElem?_eq_none (by omega), List.getElem?_eq_none (by omega)]
theorem slice_bulk {α : Type} {P : Go.Program} {t e : TypeId} {sz fuel : Nat} {v : Value} {x : DataW H × List MemPlace} {R : List Value → α → Prop} {J : Nat → Prop} {l : List α} (ht : P.underlying t = some (.slice e)) (hsz : P.cellsOf e = sz) (hpos : 0 < sz)
    (hlen : ∀ cs y, R cs y → cs.length = sz) (h : DataW.trod enc P w 0 (fun _ => true) held fuel t [v] = some x) (hR : RSl sz R w J v l) :
    l.length ≤ Rows.uptoBulk x.1 ∧ ∀ y ∈ l, ∃ n cs z, R cs y ∧ DataW.trod enc P w 0 (fun _ => true) held n e cs = some z ∧ Rows.uptoBulk z.1 ≤ Rows.uptoBulk x.1 := by
  obtain ⟨a, n, cap, rfl, hn, -, -, hel⟩ := hR
  rcases DataW.trod_slice ht h with ⟨e1, rfl⟩ | ⟨a', len, cap', elems, rest, m, -, e1, hxe, -, -, -, hlen', hall, -, -⟩
  · simp only [List.cons.injEq, Value.slice.injEq, and_true] at e1
    obtain ⟨-, rfl, -⟩ := e1
    obtain rfl : l = [] := List.length_eq_zero_iff.1 hn
    exact ⟨Nat.zero_le _, fun y hy => by cases hy⟩
  · simp only [List.cons.injEq, Value.slice.injEq, and_true] at e1
    obtain ⟨rfl, rfl, rfl⟩ := e1
    subst hxe
    have hb : Rows.uptoBulkAll (elems.map (·.1)) ≤ Rows.uptoBulk (DataW.slice (elems.map (·.1)) (rest.map (·.1))) := by simp only [Rows.uptoBulk]; omega
    refine ⟨?_, fun y hy => ?_⟩
    · refine Nat.le_trans ?_ hb
      have := bulk_len (elems.map (·.1))
      rw [List.length_map] at this
      omega
    · obtain ⟨i, hi⟩ := List.getElem?_of_mem hy
      have hil := (List.getElem?_eq_some_iff.1 hi).1
      obtain ⟨b, off, cs, ea, -, hc, hr⟩ := hel i y hi
      cases ea
      have h1 := hall i (by omega)
      rw [hsz] at h1
      have hz : ∃ z, elems[i]? = some z := ⟨elems[i]'(by omega), List.getElem?_eq_getElem (by omega)⟩
      obtain ⟨z, hz⟩ := hz
      rw [hz] at h1
      cases hcell : w.cells? 0 ((⟨b, off, none⟩ : Addr).add (i * sz)) sz with
      | none => rw [hcell] at h1; simp at h1
      | some cs' =>
        rw [hcell] at h1
        have h1' : DataW.trod enc P w 0 (fun _ => true) held m e cs' = some z := by simpa using h1
        obtain ⟨_, hlen2, hcs⟩ := World.cells?_some hcell
        have : cs = cs' := cells_same hc (fun j hj => by
          have := hcs j (by omega)
          rw [← this]
          congr 1
          have h3 : ∀ (o k : Nat), (⟨b, o, none⟩ : Addr).add k = ⟨b, o + k, none⟩ := fun o k => by
            unfold Addr.add
            by_cases hk : k = 0
            · subst hk; rfl
            · simp [hk]
          rw [h3, h3]) (by rw [hlen _ _ hr, hlen2])
        subst this
        exact ⟨m, cs, z, hr, h1', Nat.le_trans (bulk_mem (List.mem_map_of_mem (List.mem_of_getElem? hz))) hb⟩
theorem struct_bulk {P : Go.Program} {t : TypeId} {fl : List (TypeId × Nat)} {fuel : Nat} {cs : List Value} {x : DataW H × List MemPlace}
    (hf : (P.underlying t).map (fun d => match d with | .struct fs => fs.toList.map (fun f => (f.type, f.offset)) | _ => []) = some fl) (hne : fl ≠ [])
    (h : DataW.trod enc P w 0 (fun _ => true) held fuel t cs = some x) : ∀ k ∈ fl, ∃ n y, DataW.trod enc P w 0 (fun _ => true) held n k.1 ((cs.drop k.2).take (P.cellsOf k.1)) = some y ∧ Rows.uptoBulk y.1 ≤ Rows.uptoBulk x.1 := by
  cases hu : P.underlying t with
  | none => rw [hu] at hf; simp at hf
  | some d =>
    rw [hu] at hf
    simp only [Option.map_some, Option.some.injEq] at hf
    cases d with
    | struct fs =>
      simp only at hf
      obtain ⟨xs, n, hfu, hxe, hl, hlen, hall⟩ := DataW.trod_struct hu h
      intro k hk
      rw [← hf] at hk
      obtain ⟨f, hfm, rfl⟩ := List.mem_map.1 hk
      obtain ⟨i, hi⟩ := List.mem_iff_getElem?.1 hfm
      have hi' : fs[i]? = some f := by rw [← Array.getElem?_toList]; exact hi
      have := hall i f hi'
      have hlt : i < xs.length := by
        rw [hlen]
        exact (Array.getElem?_eq_some_iff.1 hi').1
      refine ⟨n, xs[i], by simpa [List.getElem?_eq_getElem hlt] using this, ?_⟩
      have h1 : xs[i].1 ∈ xs.map (·.1) := List.mem_map_of_mem (List.getElem_mem hlt)
      have h2 := bulk_mem h1
      subst hxe
      simp only [Rows.uptoBulk]
      omega
    | _ => simp only at hf; exact absurd hf.symm hne
/-- The lists of classes, fields, methods, parameters are no longer than the bulk. -/
theorem small_of {d fuel N : Nat} {cs : List Value} {x : DataW H × List MemPlace} {p : Program} (hp : RProgram d w (· < w.heap.size) (.agg cs.toArray) p) (h : DataW.trod enc Try.prog w 0 (fun _ => true) held fuel 25 cs = some x) (hN : Rows.uptoBulk x.1 ≤ N) :
    p.classes.length ≤ N ∧ ∀ c ∈ p.classes, c.fields.length ≤ N ∧ c.methods.length ≤ N ∧ ∀ m ∈ c.methods, m.params.length ≤ N := by
  obtain ⟨cv, mv, e1, h1, -⟩ := hp
  have e2 : cs = [cv, mv] := by simpa using congrArg Array.toList (Value.agg.inj e1)
  subst e2
  obtain ⟨n1, y1, k1, b1⟩ := struct_bulk fieldsProgram (by simp) h (22, 0) (by simp)
  rw [cellsOf_one _ c_classes _ _ _ rfl] at k1
  obtain ⟨l1, hall⟩ := slice_bulk Try.underlying22 c_class (by decide) (fun cs y hy => by obtain ⟨_, _, rfl, -⟩ := hy; rfl) k1 h1
  refine ⟨by omega, fun c hc => ?_⟩
  obtain ⟨n2, cs2, y2, hc2, k2, b2⟩ := hall c hc
  obtain ⟨fv, mv2, rfl, -, -, hf, hm⟩ := hc2
  obtain ⟨n3, y3, k3, b3⟩ := struct_bulk fieldsClass (by simp) k2 (34, 2) (by simp)
  obtain ⟨n4, y4, k4, b4⟩ := struct_bulk fieldsClass (by simp) k2 (35, 3) (by simp)
  rw [cellsOf_one _ c_slots _ _ _ rfl] at k3
  rw [cellsOf_one _ c_methods _ _ _ rfl] at k4
  obtain ⟨l3, -⟩ := slice_bulk Try.underlying34 c_slot (by decide) (fun cs y hy => by obtain ⟨rfl, -⟩ := hy; rfl) k3 hf
  obtain ⟨l4, hall4⟩ := slice_bulk Try.underlying35 c_method (by decide) (fun cs y hy => by obtain ⟨_, _, rfl, -⟩ := hy; rfl) k4 hm
  refine ⟨by omega, by omega, fun m hmm => ?_⟩
  obtain ⟨n5, cs5, y5, hc5, k5, b5⟩ := hall4 m hmm
  obtain ⟨pv, bv, rfl, -, -, hps, -⟩ := hc5
  obtain ⟨n6, y6, k6, b6⟩ := struct_bulk fieldsMethod (by simp) k5 (34, 2) (by simp)
  rw [cellsOf_one _ c_slots _ _ _ rfl] at k6
  obtain ⟨l6, -⟩ := slice_bulk Try.underlying34 c_slot (by decide) (fun cs y hy => by obtain ⟨rfl, -⟩ := hy; rfl) k6 hps
  omega
end
end V
end Go.Proofs.Ytjciafpihdbedaa
end
section
/- A pure function, told over plain data, called from a statement's world. -/
set_option linter.unusedSimpArgs false
namespace Go.Proofs.Ytjciafpihdbedaa
open Go.ChangeShapes Go.WideShapes Go.ChangeAt Go.RowKit
open Go.ChangeMaps (open_string shut_string)
set_option linter.unusedVariables false
theorem own : ownKnob Try.prog.godebug = none := by kernel_rfl
theorem laidOut : laidOutB Try.prog = true := by kernel_rfl

namespace V
/-- A pure function called from outside. -/
theorem cok_top {f : FuncId} {args : List A} {r : A} {W : World} {vals : List Value} (h : COk Try.prog f args Mem.nil r) (hg : GlobOk W) (hv : ∀ B, RVl B W (fun b _ => b < W.heap.size) args vals) :
    Calls Try.prog f vals.toArray W fun e w' => ∃ v, e = .returned v ∧ Below W.heap.size W w' ∧ ∃ B I', RV B w' I' r v := by
  obtain ⟨-, -, h⟩ := h
  have hm : MR W (fun b _ => b < W.heap.size) (fun _ => undef) (fun b _ => b < W.heap.size) Mem.nil W :=
    ⟨Below.refl _ _, hg, fun _ _ h => h, fun _ _ h => .inl h, fun _ _ h => h, (fun _ _ h => by simp [Mem.nil] at h), (fun _ _ h => by simp [Mem.nil] at h), (fun _ _ _ _ h => by simp [Mem.nil] at h), (fun _ _ h => by simp [Mem.nil] at h)⟩
  refine (h Mem.nil (fun _ _ => rfl) W _ _ _ W vals hm (hv _)).mono ?_
  rintro e w' ⟨v, I', rfl, hb, -, -, hr⟩
  exact ⟨v, rfl, hb, _, _, hr⟩
theorem cok_true {f : FuncId} {args : List A} {W : World} {vals : List Value} (h : COk Try.prog f args Mem.nil (.c (.bool true))) (hg : GlobOk W) (hv : ∀ B, RVl B W (fun b _ => b < W.heap.size) args vals) :
    Calls Try.prog f vals.toArray W fun e w' => e = .returned (.bool true) ∧ Below W.heap.size W w' := by
  refine (cok_top h hg hv).mono ?_
  rintro e w' ⟨v, rfl, hb, B, I', hr⟩
  have hr : RC w' I' v (.bool true) := hr
  cases hr
  exact ⟨rfl, hb⟩
theorem rv_prog {B : Nat → Value} {W : World} {d : Nat} {v : Value} {p : Program} (h : RProgram d W (· < W.heap.size) v p) : RV B W (fun b _ => b < W.heap.size) (.agg (cProg p)) v :=
  prog_rcs (fun _ _ h => h) h
theorem rv_str {B : Nat → Value} {W : World} {s : ByteArray} (h : s.size ≤ maxS) : RV B W (fun b _ => b < W.heap.size) (.c (.str s)) (.string s) := RC.str h
end V
end Go.Proofs.Ytjciafpihdbedaa
end
section
/- Contracts of library functions, laid at this translation by the shelf. -/
namespace Go.Proofs
open Go.Shelf
def Try.lays217_ren : Go.Shelf.Ren := ⟨fun | 217 => 100 | 266 => 104 | n => n, fun | 9 => 9 | 5 => 5 | 3 => 3 | n => n, fun | n => n⟩
theorem Try.lays217 : Go.Proofs.Lays.n217 Try.prog Try.lays217_ren := {
  mixed := by kernel_rfl
  f217 := Try.func100.trans (congrArg some (by kernel_rfl))
  f266 := Try.func104.trans (congrArg some (by kernel_rfl))
  t3 := Try.underlying3
  a3 := Try.isAgg3
  z3 := Try.sizeOf3
  v3 := Try.zeroValue3
  t5 := Try.underlying5
  a5 := Try.isAgg5
  z5 := Try.sizeOf5
  v5 := Try.zeroValue5
  t9 := Try.underlying9
  a9 := Try.isAgg9
  z9 := Try.sizeOf9
  v9 := Try.zeroValue9 }
open Go.RowKit Go.Lib in
theorem Try.stringslite_IndexByte (s : ByteArray) (c : Int) (w : World) :
    Calls Try.prog 100 #[.string s, .int .u8 c] w fun e w' => e = .returned (.int .i64 (Lib.indexByte s.data.toList c.toNat.toUInt8)) ∧ w' = w := Any.stringslite_IndexByte Try.lays217 s c w
def Try.lays224_ren : Go.Shelf.Ren := ⟨fun | 224 => 102 | n => n, fun | 3 => 3 | n => n, fun | n => n⟩
theorem Try.lays224 : Go.Proofs.Lays.n224 Try.prog Try.lays224_ren := {
  mixed := by kernel_rfl
  f224 := Try.func102.trans (congrArg some (by kernel_rfl))
  t3 := Try.underlying3
  a3 := Try.isAgg3
  z3 := Try.sizeOf3
  v3 := Try.zeroValue3 }
open Go.RowKit Go.Lib in
theorem Try.bytealg_Cutover (n : Int) (h0 : 0 ≤ n) (h1 : n < 4611686018427387904) (w : World) :
    Calls Try.prog 102 #[.int .i64 n] w fun e w' => e = .returned (.int .i64 ((n + 16) / 8)) ∧ w' = w := Any.bytealg_Cutover Try.lays224 n h0 h1 w
def Try.lays314_ren : Go.Shelf.Ren := ⟨fun | 314 => 105 | n => n, fun | 9 => 9 | 51 => 114 | 3 => 3 | 4 => 4 | 5 => 5 | 46 => 113 | n => n, fun | n => n⟩
theorem Try.lays314 : Go.Proofs.Lays.n314 Try.prog Try.lays314_ren := {
  mixed := by kernel_rfl
  f314 := Try.func105.trans (congrArg some (by kernel_rfl))
  t3 := Try.underlying3
  a3 := Try.isAgg3
  z3 := Try.sizeOf3
  v3 := Try.zeroValue3
  t4 := Try.underlying4
  a4 := Try.isAgg4
  z4 := Try.sizeOf4
  v4 := Try.zeroValue4
  t5 := Try.underlying5
  a5 := Try.isAgg5
  z5 := Try.sizeOf5
  v5 := Try.zeroValue5
  t9 := Try.underlying9
  a9 := Try.isAgg9
  z9 := Try.sizeOf9
  v9 := Try.zeroValue9
  t46 := Try.underlying113
  a46 := Try.isAgg113
  z46 := Try.sizeOf113
  v46 := Try.zeroValue113
  t51 := Try.underlying114
  a51 := Try.isAgg114
  z51 := Try.sizeOf114
  v51 := Try.zeroValue114 }
open Go.RowKit Go.Lib in
theorem Try.bytealg_hashStr (sep : ByteArray) (hs : sep.size < 4294967281) (w : World) :
    Calls Try.prog 105 #[.string sep] w fun e w' => e = .returned (.tuple #[.int .u32 (RK.H sep.data.toList % 4294967296), .int .u32 (16777619 ^ sep.size % 4294967296)]) ∧ w' = w := Any.bytealg_hashStr Try.lays314 sep hs w
def Try.lays267_ren : Go.Shelf.Ren := ⟨fun | 267 => 103 | 314 => 105 | n => n, fun | 9 => 9 | 3 => 3 | 146 => 115 | 51 => 114 | 4 => 4 | 5 => 5 | 46 => 113 | n => n, fun | n => n⟩
theorem Try.lays267 : Go.Proofs.Lays.n267 Try.prog Try.lays267_ren := {
  mixed := by kernel_rfl
  f267 := Try.func103.trans (congrArg some (by kernel_rfl))
  f314 := Try.func105.trans (congrArg some (by kernel_rfl))
  t3 := Try.underlying3
  a3 := Try.isAgg3
  z3 := Try.sizeOf3
  v3 := Try.zeroValue3
  t4 := Try.underlying4
  a4 := Try.isAgg4
  z4 := Try.sizeOf4
  v4 := Try.zeroValue4
  t5 := Try.underlying5
  a5 := Try.isAgg5
  z5 := Try.sizeOf5
  v5 := Try.zeroValue5
  t9 := Try.underlying9
  a9 := Try.isAgg9
  z9 := Try.sizeOf9
  v9 := Try.zeroValue9
  t46 := Try.underlying113
  a46 := Try.isAgg113
  z46 := Try.sizeOf113
  v46 := Try.zeroValue113
  t51 := Try.underlying114
  a51 := Try.isAgg114
  z51 := Try.sizeOf114
  v51 := Try.zeroValue114
  t146 := Try.underlying115
  a146 := Try.isAgg115
  z146 := Try.sizeOf115
  v146 := Try.zeroValue115 }
open Go.RowKit Go.Lib in
theorem Try.bytealg_IndexRabinKarp (s sep : ByteArray) (h1 : 1 ≤ sep.size) (h2 : sep.size ≤ s.size) (hs : s.size < 4294967281) (w : World) :
    Calls Try.prog 103 #[.string s, .string sep] w fun e w' => e = .returned (.int .i64 (Lib.index s.data.toList sep.data.toList)) ∧ w' = w := Any.bytealg_IndexRabinKarp Try.lays267 s sep h1 h2 hs w
def Try.lays219_ren : Go.Shelf.Ren := ⟨fun | 219 => 99 | 217 => 100 | 225 => 101 | 224 => 102 | 267 => 103 | 266 => 104 | 314 => 105 | n => n, fun | 9 => 9 | 3 => 3 | 4 => 4 | 5 => 5 | 46 => 113 | 146 => 115 | 51 => 114 | n => n, fun | 1 => 0 | n => n⟩
theorem Try.lays219 : Go.Proofs.Lays.n219 Try.prog Try.lays219_ren := {
  mixed := by kernel_rfl
  f217 := Try.func100.trans (congrArg some (by kernel_rfl))
  f219 := Try.func99.trans (congrArg some (by kernel_rfl))
  f224 := Try.func102.trans (congrArg some (by kernel_rfl))
  f225 := Try.func101.trans (congrArg some (by kernel_rfl))
  f266 := Try.func104.trans (congrArg some (by kernel_rfl))
  f267 := Try.func103.trans (congrArg some (by kernel_rfl))
  f314 := Try.func105.trans (congrArg some (by kernel_rfl))
  t3 := Try.underlying3
  a3 := Try.isAgg3
  z3 := Try.sizeOf3
  v3 := Try.zeroValue3
  t4 := Try.underlying4
  a4 := Try.isAgg4
  z4 := Try.sizeOf4
  v4 := Try.zeroValue4
  t5 := Try.underlying5
  a5 := Try.isAgg5
  z5 := Try.sizeOf5
  v5 := Try.zeroValue5
  t9 := Try.underlying9
  a9 := Try.isAgg9
  z9 := Try.sizeOf9
  v9 := Try.zeroValue9
  t46 := Try.underlying113
  a46 := Try.isAgg113
  z46 := Try.sizeOf113
  v46 := Try.zeroValue113
  t51 := Try.underlying114
  a51 := Try.isAgg114
  z51 := Try.sizeOf114
  v51 := Try.zeroValue114
  t146 := Try.underlying115
  a146 := Try.isAgg115
  z146 := Try.sizeOf115
  v146 := Try.zeroValue115
  g1 := by kernel_rfl }
open Go.RowKit Go.Lib in
theorem Try.stringslite_Index_one (s : ByteArray) (c : UInt8) (w : World) :
    Calls Try.prog 99 #[.string s, .string ⟨#[c]⟩] w fun e w' => e = .returned (.int .i64 (Lib.indexByte s.data.toList c)) ∧ w' = w := Any.stringslite_Index_one Try.lays219 s c w
open Go.RowKit Go.Lib in
theorem Try.stringslite_Index (s sub : ByteArray) (m : Int) (w : World) (hs : s.size < 4294967281) (hm : w.cell? ⟨0, 0, none⟩ = some (.int .i64 m)) :
    Calls Try.prog 99 #[.string s, .string sub] w fun e w' => e = .returned (.int .i64 (Lib.index s.data.toList sub.data.toList)) ∧ w' = w := Any.stringslite_Index Try.lays219 s sub m w hs hm
def Try.lays143_ren : Go.Shelf.Ren := ⟨fun | 143 => 98 | 219 => 99 | 217 => 100 | 225 => 101 | 224 => 102 | 267 => 103 | 266 => 104 | 314 => 105 | n => n, fun | 9 => 9 | 3 => 3 | 4 => 4 | 5 => 5 | 46 => 113 | 146 => 115 | 51 => 114 | n => n, fun | 1 => 0 | n => n⟩
theorem Try.lays143 : Go.Proofs.Lays.n143 Try.prog Try.lays143_ren := {
  mixed := by kernel_rfl
  f143 := Try.func98.trans (congrArg some (by kernel_rfl))
  f217 := Try.func100.trans (congrArg some (by kernel_rfl))
  f219 := Try.func99.trans (congrArg some (by kernel_rfl))
  f224 := Try.func102.trans (congrArg some (by kernel_rfl))
  f225 := Try.func101.trans (congrArg some (by kernel_rfl))
  f266 := Try.func104.trans (congrArg some (by kernel_rfl))
  f267 := Try.func103.trans (congrArg some (by kernel_rfl))
  f314 := Try.func105.trans (congrArg some (by kernel_rfl))
  t3 := Try.underlying3
  a3 := Try.isAgg3
  z3 := Try.sizeOf3
  v3 := Try.zeroValue3
  t4 := Try.underlying4
  a4 := Try.isAgg4
  z4 := Try.sizeOf4
  v4 := Try.zeroValue4
  t5 := Try.underlying5
  a5 := Try.isAgg5
  z5 := Try.sizeOf5
  v5 := Try.zeroValue5
  t9 := Try.underlying9
  a9 := Try.isAgg9
  z9 := Try.sizeOf9
  v9 := Try.zeroValue9
  t46 := Try.underlying113
  a46 := Try.isAgg113
  z46 := Try.sizeOf113
  v46 := Try.zeroValue113
  t51 := Try.underlying114
  a51 := Try.isAgg114
  z51 := Try.sizeOf114
  v51 := Try.zeroValue114
  t146 := Try.underlying115
  a146 := Try.isAgg115
  z146 := Try.sizeOf115
  v146 := Try.zeroValue115
  g1 := by kernel_rfl }
open Go.RowKit Go.Lib in
theorem Try.strings_Index_one (s : ByteArray) (c : UInt8) (w : World) :
    Calls Try.prog 98 #[.string s, .string ⟨#[c]⟩] w fun e w' => e = .returned (.int .i64 (Lib.indexByte s.data.toList c)) ∧ w' = w := Any.strings_Index_one Try.lays143 s c w
open Go.RowKit Go.Lib in
theorem Try.strings_Index (s sub : ByteArray) (m : Int) (w : World) (hs : s.size < 4294967281) (hm : w.cell? ⟨0, 0, none⟩ = some (.int .i64 m)) :
    Calls Try.prog 98 #[.string s, .string sub] w fun e w' => e = .returned (.int .i64 (Lib.index s.data.toList sub.data.toList)) ∧ w' = w := Any.strings_Index Try.lays143 s sub m w hs hm
def Try.lays144_ren : Go.Shelf.Ren := ⟨fun | 144 => 90 | 143 => 98 | 219 => 99 | 217 => 100 | 225 => 101 | 224 => 102 | 267 => 103 | 266 => 104 | 314 => 105 | n => n, fun | 9 => 9 | 4 => 4 | 3 => 3 | 5 => 5 | 46 => 113 | 146 => 115 | 51 => 114 | n => n, fun | 1 => 0 | n => n⟩
theorem Try.lays144 : Go.Proofs.Lays.n144 Try.prog Try.lays144_ren := {
  mixed := by kernel_rfl
  f143 := Try.func98.trans (congrArg some (by kernel_rfl))
  f144 := Try.func90.trans (congrArg some (by kernel_rfl))
  f217 := Try.func100.trans (congrArg some (by kernel_rfl))
  f219 := Try.func99.trans (congrArg some (by kernel_rfl))
  f224 := Try.func102.trans (congrArg some (by kernel_rfl))
  f225 := Try.func101.trans (congrArg some (by kernel_rfl))
  f266 := Try.func104.trans (congrArg some (by kernel_rfl))
  f267 := Try.func103.trans (congrArg some (by kernel_rfl))
  f314 := Try.func105.trans (congrArg some (by kernel_rfl))
  t3 := Try.underlying3
  a3 := Try.isAgg3
  z3 := Try.sizeOf3
  v3 := Try.zeroValue3
  t4 := Try.underlying4
  a4 := Try.isAgg4
  z4 := Try.sizeOf4
  v4 := Try.zeroValue4
  t5 := Try.underlying5
  a5 := Try.isAgg5
  z5 := Try.sizeOf5
  v5 := Try.zeroValue5
  t9 := Try.underlying9
  a9 := Try.isAgg9
  z9 := Try.sizeOf9
  v9 := Try.zeroValue9
  t46 := Try.underlying113
  a46 := Try.isAgg113
  z46 := Try.sizeOf113
  v46 := Try.zeroValue113
  t51 := Try.underlying114
  a51 := Try.isAgg114
  z51 := Try.sizeOf114
  v51 := Try.zeroValue114
  t146 := Try.underlying115
  a146 := Try.isAgg115
  z146 := Try.sizeOf115
  v146 := Try.zeroValue115
  g1 := by kernel_rfl }
open Go.RowKit Go.Lib in
theorem Try.strings_Contains_one (s : ByteArray) (c : UInt8) (w : World) :
    Calls Try.prog 90 #[.string s, .string ⟨#[c]⟩] w fun e w' => e = .returned (.bool (decide (0 ≤ Lib.indexByte s.data.toList c))) ∧ w' = w := Any.strings_Contains_one Try.lays144 s c w
open Go.RowKit Go.Lib in
theorem Try.strings_Contains (s sub : ByteArray) (m : Int) (w : World) (hs : s.size < 4294967281) (hm : w.cell? ⟨0, 0, none⟩ = some (.int .i64 m)) :
    Calls Try.prog 90 #[.string s, .string sub] w fun e w' => e = .returned (.bool (Lib.contains s.data.toList sub.data.toList)) ∧ w' = w := Any.strings_Contains Try.lays144 s sub m w hs hm
def Try.laysM219_ren : Go.Shelf.Ren := ⟨fun | 219 => 99 | 217 => 100 | 225 => 101 | 224 => 102 | 267 => 103 | 266 => 104 | 314 => 105 | n => n, fun | 9 => 9 | 3 => 3 | 4 => 4 | 5 => 5 | 46 => 113 | 146 => 115 | 51 => 114 | n => n, fun | 1 => 0 | n => n⟩
theorem Try.laysM219 : Go.Proofs.LaysM.n219 Try.prog Try.laysM219_ren := {
  mixed := by kernel_rfl
  f217 := Try.func100.trans (congrArg some (by kernel_rfl))
  f219 := Try.func99.trans (congrArg some (by kernel_rfl))
  f224 := Try.func102.trans (congrArg some (by kernel_rfl))
  f225 := Try.func101.trans (congrArg some (by kernel_rfl))
  f266 := Try.func104.trans (congrArg some (by kernel_rfl))
  f267 := Try.func103.trans (congrArg some (by kernel_rfl))
  f314 := Try.func105.trans (congrArg some (by kernel_rfl))
  t3 := Try.underlying3
  a3 := Try.isAgg3
  z3 := Try.sizeOf3
  v3 := Try.zeroValue3
  t4 := Try.underlying4
  a4 := Try.isAgg4
  z4 := Try.sizeOf4
  v4 := Try.zeroValue4
  t5 := Try.underlying5
  a5 := Try.isAgg5
  z5 := Try.sizeOf5
  v5 := Try.zeroValue5
  t9 := Try.underlying9
  a9 := Try.isAgg9
  z9 := Try.sizeOf9
  v9 := Try.zeroValue9
  t46 := Try.underlying113
  a46 := Try.isAgg113
  z46 := Try.sizeOf113
  v46 := Try.zeroValue113
  t51 := Try.underlying114
  a51 := Try.isAgg114
  z51 := Try.sizeOf114
  v51 := Try.zeroValue114
  t146 := Try.underlying115
  a146 := Try.isAgg115
  z146 := Try.sizeOf115
  v146 := Try.zeroValue115
  g1 := by kernel_rfl
  i3 := by kernel_rfl
  i4 := by kernel_rfl
  i5 := by kernel_rfl
  i9 := by kernel_rfl
  i46 := by kernel_rfl
  i51 := by kernel_rfl
  i146 := by kernel_rfl
  m1 := by kernel_rfl
  s1_3 := fun w h => Go.Proofs.cell_of_shapedOpen_int (zero := #[.int .i64 0]) (t := 3) h (of_decide_eq_true (by kernel_rfl)) (by kernel_rfl) rfl (by kernel_rfl) (by kernel_rfl) Try.underlying3 }
open Go.RowKit Go.Lib in
theorem Try.stringslite_Index_shaped (s sub : ByteArray) (w : World) (h : w.ShapedOpen Try.prog) (hs : s.size < 4294967281) :
    Calls Try.prog 99 #[.string s, .string sub] w fun e w' => e = .returned (.int .i64 (Lib.index s.data.toList sub.data.toList)) ∧ w' = w := Any.stringslite_Index_shaped Try.laysM219 s sub w h hs
def Try.laysM143_ren : Go.Shelf.Ren := ⟨fun | 143 => 98 | 219 => 99 | 217 => 100 | 225 => 101 | 224 => 102 | 267 => 103 | 266 => 104 | 314 => 105 | n => n, fun | 9 => 9 | 3 => 3 | 4 => 4 | 5 => 5 | 46 => 113 | 146 => 115 | 51 => 114 | n => n, fun | 1 => 0 | n => n⟩
theorem Try.laysM143 : Go.Proofs.LaysM.n143 Try.prog Try.laysM143_ren := {
  mixed := by kernel_rfl
  f143 := Try.func98.trans (congrArg some (by kernel_rfl))
  f217 := Try.func100.trans (congrArg some (by kernel_rfl))
  f219 := Try.func99.trans (congrArg some (by kernel_rfl))
  f224 := Try.func102.trans (congrArg some (by kernel_rfl))
  f225 := Try.func101.trans (congrArg some (by kernel_rfl))
  f266 := Try.func104.trans (congrArg some (by kernel_rfl))
  f267 := Try.func103.trans (congrArg some (by kernel_rfl))
  f314 := Try.func105.trans (congrArg some (by kernel_rfl))
  t3 := Try.underlying3
  a3 := Try.isAgg3
  z3 := Try.sizeOf3
  v3 := Try.zeroValue3
  t4 := Try.underlying4
  a4 := Try.isAgg4
  z4 := Try.sizeOf4
  v4 := Try.zeroValue4
  t5 := Try.underlying5
  a5 := Try.isAgg5
  z5 := Try.sizeOf5
  v5 := Try.zeroValue5
  t9 := Try.underlying9
  a9 := Try.isAgg9
  z9 := Try.sizeOf9
  v9 := Try.zeroValue9
  t46 := Try.underlying113
  a46 := Try.isAgg113
  z46 := Try.sizeOf113
  v46 := Try.zeroValue113
  t51 := Try.underlying114
  a51 := Try.isAgg114
  z51 := Try.sizeOf114
  v51 := Try.zeroValue114
  t146 := Try.underlying115
  a146 := Try.isAgg115
  z146 := Try.sizeOf115
  v146 := Try.zeroValue115
  g1 := by kernel_rfl
  i3 := by kernel_rfl
  i4 := by kernel_rfl
  i5 := by kernel_rfl
  i9 := by kernel_rfl
  i46 := by kernel_rfl
  i51 := by kernel_rfl
  i146 := by kernel_rfl
  m1 := by kernel_rfl
  s1_3 := fun w h => Go.Proofs.cell_of_shapedOpen_int (zero := #[.int .i64 0]) (t := 3) h (of_decide_eq_true (by kernel_rfl)) (by kernel_rfl) rfl (by kernel_rfl) (by kernel_rfl) Try.underlying3 }
open Go.RowKit Go.Lib in
theorem Try.strings_Index_shaped (s sub : ByteArray) (w : World) (h : w.ShapedOpen Try.prog) (hs : s.size < 4294967281) :
    Calls Try.prog 98 #[.string s, .string sub] w fun e w' => e = .returned (.int .i64 (Lib.index s.data.toList sub.data.toList)) ∧ w' = w := Any.strings_Index_shaped Try.laysM143 s sub w h hs
def Try.laysM144_ren : Go.Shelf.Ren := ⟨fun | 144 => 90 | 143 => 98 | 219 => 99 | 217 => 100 | 225 => 101 | 224 => 102 | 267 => 103 | 266 => 104 | 314 => 105 | n => n, fun | 9 => 9 | 4 => 4 | 3 => 3 | 5 => 5 | 46 => 113 | 146 => 115 | 51 => 114 | n => n, fun | 1 => 0 | n => n⟩
theorem Try.laysM144 : Go.Proofs.LaysM.n144 Try.prog Try.laysM144_ren := {
  mixed := by kernel_rfl
  f143 := Try.func98.trans (congrArg some (by kernel_rfl))
  f144 := Try.func90.trans (congrArg some (by kernel_rfl))
  f217 := Try.func100.trans (congrArg some (by kernel_rfl))
  f219 := Try.func99.trans (congrArg some (by kernel_rfl))
  f224 := Try.func102.trans (congrArg some (by kernel_rfl))
  f225 := Try.func101.trans (congrArg some (by kernel_rfl))
  f266 := Try.func104.trans (congrArg some (by kernel_rfl))
  f267 := Try.func103.trans (congrArg some (by kernel_rfl))
  f314 := Try.func105.trans (congrArg some (by kernel_rfl))
  t3 := Try.underlying3
  a3 := Try.isAgg3
  z3 := Try.sizeOf3
  v3 := Try.zeroValue3
  t4 := Try.underlying4
  a4 := Try.isAgg4
  z4 := Try.sizeOf4
  v4 := Try.zeroValue4
  t5 := Try.underlying5
  a5 := Try.isAgg5
  z5 := Try.sizeOf5
  v5 := Try.zeroValue5
  t9 := Try.underlying9
  a9 := Try.isAgg9
  z9 := Try.sizeOf9
  v9 := Try.zeroValue9
  t46 := Try.underlying113
  a46 := Try.isAgg113
  z46 := Try.sizeOf113
  v46 := Try.zeroValue113
  t51 := Try.underlying114
  a51 := Try.isAgg114
  z51 := Try.sizeOf114
  v51 := Try.zeroValue114
  t146 := Try.underlying115
  a146 := Try.isAgg115
  z146 := Try.sizeOf115
  v146 := Try.zeroValue115
  g1 := by kernel_rfl
  i3 := by kernel_rfl
  i4 := by kernel_rfl
  i5 := by kernel_rfl
  i9 := by kernel_rfl
  i46 := by kernel_rfl
  i51 := by kernel_rfl
  i146 := by kernel_rfl
  m1 := by kernel_rfl
  s1_3 := fun w h => Go.Proofs.cell_of_shapedOpen_int (zero := #[.int .i64 0]) (t := 3) h (of_decide_eq_true (by kernel_rfl)) (by kernel_rfl) rfl (by kernel_rfl) (by kernel_rfl) Try.underlying3 }
open Go.RowKit Go.Lib in
theorem Try.strings_Contains_shaped (s sub : ByteArray) (w : World) (h : w.ShapedOpen Try.prog) (hs : s.size < 4294967281) :
    Calls Try.prog 90 #[.string s, .string sub] w fun e w' => e = .returned (.bool (Lib.contains s.data.toList sub.data.toList)) ∧ w' = w := Any.strings_Contains_shaped Try.laysM144 s sub w h hs
end Go.Proofs
end
