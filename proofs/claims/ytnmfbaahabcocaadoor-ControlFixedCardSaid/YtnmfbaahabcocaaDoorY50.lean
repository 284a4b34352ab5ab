/- Joined by my own program, in build order: RG, Cpe, PH, RB, RH, L17, LawPosts17, LawHangs17, L17b, Fx. -/
import Derived.Test.YtnmfbaahabcocaaDoorY47
import Derived.Test.YtnmfbaahabcocaaDoorY49
import Derived.Test.YtnmfbaahabcocaaDoorY36
import Derived.Test.YtnmfbaahabcocaaDoorY40
import Derived.Test.YtnmfbaahabcocaaDoorY48
import Derived.Test.YtnmfbaahabcocaaDoorY42
import Derived.Test.YtnmfbaahabcocaaDoorY43
import Derived.Test.YtnmfbaahabcocaaDoorY37
import Derived.Test.YtnmfbaahabcocaaDoorY44
set_option linter.unusedVariables false
set_option linter.unusedSimpArgs false
section
namespace Go.Proofs.YtnmfbaahabcocaaDoor
namespace V
open Go.RowKit G C17
theorem refTurnN_ok (E : List (Nat × Nat)) (hlen : E.length ≤ 1000000) (m : Mem) : COk Tryd.prog 19 [.c (.sl (E.map cEd))] m (.c (.sl ((swapE E).map cEd))) := by
 have := refTurn_ok (E.map castE) (by simp; omega) m
 have e : ((E.map castE).map turnE).map cE = (swapE E).map cEd := by simp [swapE, castE, turnE, cE, cEd, Function.comp_def]
 rwa [cE_cast, e] at this
noncomputable def graphA (p : Prc) : List (Bool × List C) :=
 if okC p.code = true then [(false, [.sl ((gC p.code).map cEd)]), (false, [.bool true])] else [(false, [.sl []]), (false, [.bool false])]
def pt (code : List Ins) (k j : Nat) : List (Nat × Nat) := ((nx code k).take j).map fun z => (k, z.toNat)
set_option maxHeartbeats 8000000 in
theorem refGraph_ok (p : Prc) (hpl : p.code.length ≤ 1000000000000000) (m : Mem) : COk Tryd.prog 13 [.agg (cP p)] m (.tup (graphA p)) := by
 obtain ⟨cls, name, params, regs, code⟩ := p
 simp only at hpl ⊢
 have hcp : cP ⟨cls, name, params, regs, code⟩ = [.str cls, .str name, .int .i64 params, .int .i64 regs, .sl (code.map cIns)] := rfl
 refine (ok_pure tab_ok Tryd.func13 (by kernel_rfl) rfl rfl (by rfl) (by rfl) (by rfl) (fun R hkeep => ?_) m)
 have nay : okC code = false → graphA ⟨cls, name, params, regs, code⟩ = [(false, [.sl []]), (false, [.bool false])] := fun h => by unfold graphA; simp only; rw [if_neg (by simp [h])]
 (repeat (first | refine W.seq ?_ | refine W.block ?_ | refine W.skip ?_ | refine W.exit ?_))
 refine W.region tab_ok 0 (by decide) (exec_run (by simp only [exa, beq_self_eq_true, ByteArray.size, Nat.reduceAdd, Nat.reduceLeDiff, Nat.reduceEqDiff, Nat.reduceMul, Int.reduceToNat, reduceIte, Int.reduceLE, Int.reduceNeg, hcp, List.map_cons, List.map_nil]; rfl)) ?_
 (repeat (first | refine W.seq ?_ | refine W.block ?_ | refine W.skip ?_ | refine W.exit ?_))
 refine W.region tab_ok 0 (by decide) (exec_run (by simp only [exa, beq_self_eq_true, ByteArray.size, Nat.reduceAdd, Nat.reduceLeDiff, Nat.reduceEqDiff, Nat.reduceMul, Int.reduceToNat, reduceIte, Int.reduceLE, Int.reduceNeg, List.length_map]; rfl)) ?_
 by_cases h0 : code.length = 0
 ·have q0 : ((code.length : Int) < 1) = True := eq_true (by omega)
  have hno : okC code = false := by unfold okC; rw [h0]; rfl
  repeat (first | refine W.seq ?_ | refine W.block ?_ | refine W.skip ?_ | refine W.exit ?_ | refine W.region tab_ok 0 (by decide) (exec_run (by simp only [exa, beq_self_eq_true, ByteArray.size, Nat.reduceAdd, Nat.reduceLeDiff, Nat.reduceEqDiff, Nat.reduceMul, Int.reduceToNat, reduceIte, Int.reduceLE, Int.reduceNeg, q0, decide_true]; rfl)) ?_)
  refine W.cond rfl (fun _ => ?_) (fun h => absurd h (by simp))
  repeat (first | refine W.seq ?_ | refine W.block ?_ | refine W.skip ?_ | refine W.exit ?_ | refine W.region tab_ok 0 (by decide) (exec_run (by simp only [exa, beq_self_eq_true, ByteArray.size, Nat.reduceAdd, Nat.reduceLeDiff, Nat.reduceEqDiff, Nat.reduceMul, Int.reduceToNat, reduceIte, Int.reduceLE, Int.reduceNeg]; rfl)) ?_)
  refine W.ret ⟨.inr rfl, by rfl, ?_⟩
  simp only [Tryd.f13, resA, resOne, toT, fin, exa, beq_self_eq_true, ByteArray.size, Nat.reduceAdd, Nat.reduceLeDiff, Nat.reduceEqDiff, Nat.reduceMul, Int.reduceToNat, reduceIte, Int.reduceLE, Int.reduceNeg, nay hno]
 have q0 : ((code.length : Int) < 1) = False := eq_false (by omega)
 by_cases h1 : 2000 < code.length
 ·have q1 : ((2000 : Int) < (code.length : Int)) = True := eq_true (by omega)
  have hno : okC code = false := by unfold okC; rw [decide_eq_false (show ¬ code.length ≤ 2000 by omega)]; simp
  repeat (first | refine W.seq ?_ | refine W.block ?_ | refine W.skip ?_ | refine W.exit ?_ | refine W.region tab_ok 0 (by decide) (exec_run (by simp only [exa, beq_self_eq_true, ByteArray.size, Nat.reduceAdd, Nat.reduceLeDiff, Nat.reduceEqDiff, Nat.reduceMul, Int.reduceToNat, reduceIte, Int.reduceLE, Int.reduceNeg, q0, q1, decide_true, decide_false]; rfl)) ?_)
  refine W.cond rfl (fun _ => ?_) (fun h => absurd h (by simp))
  repeat (first | refine W.seq ?_ | refine W.block ?_ | refine W.skip ?_ | refine W.exit ?_ | refine W.region tab_ok 0 (by decide) (exec_run (by simp only [exa, beq_self_eq_true, ByteArray.size, Nat.reduceAdd, Nat.reduceLeDiff, Nat.reduceEqDiff, Nat.reduceMul, Int.reduceToNat, reduceIte, Int.reduceLE, Int.reduceNeg]; rfl)) ?_)
  refine W.ret ⟨.inr rfl, by rfl, ?_⟩
  simp only [Tryd.f13, resA, resOne, toT, fin, exa, beq_self_eq_true, ByteArray.size, Nat.reduceAdd, Nat.reduceLeDiff, Nat.reduceEqDiff, Nat.reduceMul, Int.reduceToNat, reduceIte, Int.reduceLE, Int.reduceNeg, nay hno]
 have q1 : ((2000 : Int) < (code.length : Int)) = False := eq_false (by omega)
 repeat (first | refine W.seq ?_ | refine W.block ?_ | refine W.skip ?_ | refine W.exit ?_ | refine W.region tab_ok 0 (by decide) (exec_run (by simp only [exa, beq_self_eq_true, ByteArray.size, Nat.reduceAdd, Nat.reduceLeDiff, Nat.reduceEqDiff, Nat.reduceMul, Int.reduceToNat, reduceIte, Int.reduceLE, Int.reduceNeg, q0, q1, decide_true, decide_false]; rfl)) ?_)
 refine W.cond rfl (fun h => absurd h (by simp)) (fun _ => ?_)
 repeat (first | refine W.seq ?_ | refine W.block ?_ | refine W.skip ?_ | refine W.exit ?_ | refine W.region tab_ok 0 (by decide) (exec_run (by simp only [exa, beq_self_eq_true, ByteArray.size, Nat.reduceAdd, Nat.reduceLeDiff, Nat.reduceEqDiff, Nat.reduceMul, Int.reduceToNat, reduceIte, Int.reduceLE, Int.reduceNeg, List.length_map]; rfl)) ?_)
 refine W.newArr 5 50 42 2 rfl rfl ?_
 refine W.loop (ι := Nat) (fun k => ⟨upd (upd (upd (upd (upd (fun _ => .top) 1 (.ptr 1 0)) 4 (.c (.int .i64 code.length))) 5 (.own 50)) 23 (.c (.int .i64 code.length))) 24 (.c (.int .i64 k)),
  upd (upd Mem.nil 1 (some (.box 24 [.c (.str cls), .c (.str name), .c (.int .i64 params), .c (.int .i64 regs), .c (.sl (code.map cIns))]))) 50 (some (.arr 42 2 ((e1 code k).map cEd)))⟩)
  (fun k => k ≤ code.length ∧ (List.range k).all (fun i => !(nx code i).any (outI code.length)) = true) (fun k => code.length - k) 0 ?start ⟨Nat.zero_le _, rfl⟩ ?round
 case start =>
  refine le_mk ?sle ?mle ?swf ?mwf (kept_not hkeep) (by rfl)
  case swf => repeat (first | exact swf_top _ | refine swf_upd ?_ (by simp [A.ids, upd_app, show e1 code 0 = [] from rfl, List.map_nil]))
  case mwf => repeat (first | exact mwf_nil _ | refine mwf_upd ?_ (by simp [A.ids, O.ids, upd_app, show e1 code 0 = [] from rfl, List.map_nil]))
  case mle => repeat (first | exact mle_nil _ | exact mle_refl _ | refine mle_upd ?_ (by first | rfl | (simp only [upd_app, killM_app, O.kill, A.kill, Nat.reduceEqDiff, reduceIte, Option.map_some, Option.map_none, List.map_cons, List.map_nil, show e1 code 0 = [] from rfl, List.map_nil]; done)))
  case sle => repeat (first | exact sle_top _ | exact sle_refl _ | refine sle_upd ?_ (by first | rfl | (simp only [upd_app, killS_app, A.kill, entry_zero, entry_succ, Nat.reduceEqDiff, reduceIte, show e1 code 0 = [] from rfl, List.map_nil]; done)))
 case round =>
  rintro k ⟨hkl, hall⟩
  repeat (first | refine W.seq ?_ | refine W.block ?_ | refine W.skip ?_ | refine W.exit ?_ | refine W.region tab_ok 0 (by decide) (exec_run (by simp only [exa, beq_self_eq_true, ByteArray.size, Nat.reduceAdd, Nat.reduceLeDiff, Nat.reduceEqDiff, Nat.reduceMul, Int.reduceToNat, reduceIte, Int.reduceLE, Int.reduceNeg]; rfl)) ?_)
  refine W.cond rfl ?_ ?_
  ·intro hlt
   simp only [decide_eq_true_eq, Int.ofNat_lt] at hlt
   have hel := e1_len code k
   have hnl := nx_len code k
   repeat (first | refine W.seq ?_ | refine W.block ?_ | refine W.skip ?_ | refine W.exit ?_ | refine W.region tab_ok 0 (by decide) (exec_run (by simp only [exa, beq_self_eq_true, ByteArray.size, Nat.reduceAdd, Nat.reduceLeDiff, Nat.reduceEqDiff, Nat.reduceMul, Int.reduceToNat, reduceIte, Int.reduceLE, Int.reduceNeg]; rfl)) ?_)
   refine W.regionK tab_ok 0 (by decide) ?_
   refine runk_split 2 (by simp only [exa, beq_self_eq_true, ByteArray.size, Nat.reduceAdd, Nat.reduceLeDiff, Nat.reduceEqDiff, Nat.reduceMul, Int.reduceToNat, reduceIte, Int.reduceLE, Int.reduceNeg, List.map_cons, List.map_nil]; rfl) ?_
   refine runk_call rfl rfl rfl rfl rfl (by simp) (cvs_cons cv_refl (cvs_cons cv_refl cvs_nil)) (refNext_ok ⟨cls, name, params, regs, code⟩ k (by show code.length ≤ _; omega) (by show k ≤ code.length; omega) _) ?_
   refine runk_exec (by simp only [exa, beq_self_eq_true, ByteArray.size, Nat.reduceAdd, Nat.reduceLeDiff, Nat.reduceEqDiff, Nat.reduceMul, Int.reduceToNat, reduceIte, Int.reduceLE, Int.reduceNeg]; rfl) ?_
   repeat (first | refine W.seq ?_ | refine W.block ?_ | refine W.skip ?_ | refine W.exit ?_ | refine W.region tab_ok 0 (by decide) (exec_run (by simp only [exa, beq_self_eq_true, ByteArray.size, Nat.reduceAdd, Nat.reduceLeDiff, Nat.reduceEqDiff, Nat.reduceMul, Int.reduceToNat, reduceIte, Int.reduceLE, Int.reduceNeg, List.length_map]; rfl)) ?_)
   refine W.loop (ι := Nat) (fun j => ⟨upd (upd (upd (upd (upd (upd (upd (upd (upd (upd (fun _ => .top) 1 (.ptr 1 0)) 4 (.c (.int .i64 code.length))) 5 (.own 50)) 23 (.c (.int .i64 code.length))) 24 (.c (.int .i64 k))) 6 (.c (.int .i64 k))) 7 (.c (.sl ((nx code k).map cZ)))) 30 (.c (.sl ((nx code k).map cZ)))) 31 (.c (.int .i64 (nx code k).length))) 32 (.c (.int .i64 j)),
    upd (upd Mem.nil 1 (some (.box 24 [.c (.str cls), .c (.str name), .c (.int .i64 params), .c (.int .i64 regs), .c (.sl (code.map cIns))]))) 50 (some (.arr 42 2 ((e1 code k ++ pt code k j).map cEd)))⟩)
    (fun j => j ≤ (nx code k).length ∧ ((nx code k).take j).any (outI code.length) = false) (fun j => (nx code k).length - j) 0 ?start2 ⟨Nat.zero_le _, rfl⟩ ?round2
   case start2 =>
    refine le_mk ?sle ?mle ?swf ?mwf (kept_not hkeep) (by rfl)
    case swf => repeat (first | exact swf_top _ | refine swf_upd ?_ (by simp [A.ids, upd_app, show pt code k 0 = [] from rfl, List.append_nil]))
    case mwf => repeat (first | exact mwf_nil _ | refine mwf_upd ?_ (by simp [A.ids, O.ids, upd_app, show pt code k 0 = [] from rfl, List.append_nil]))
    case mle => repeat (first | exact mle_nil _ | exact mle_refl _ | refine mle_upd ?_ (by first | rfl | (simp only [upd_app, killM_app, O.kill, A.kill, Nat.reduceEqDiff, reduceIte, Option.map_some, Option.map_none, List.map_cons, List.map_nil, show pt code k 0 = [] from rfl, List.append_nil]; done)))
    case sle => repeat (first | exact sle_top _ | exact sle_refl _ | refine sle_upd ?_ (by first | rfl | (simp only [upd_app, killS_app, A.kill, entry_zero, entry_succ, Nat.reduceEqDiff, reduceIte, show pt code k 0 = [] from rfl, List.append_nil]; done)))
   case round2 =>
    rintro j ⟨hj, hno⟩
    repeat (first | refine W.seq ?_ | refine W.block ?_ | refine W.skip ?_ | refine W.exit ?_ | refine W.region tab_ok 0 (by decide) (exec_run (by simp only [exa, beq_self_eq_true, ByteArray.size, Nat.reduceAdd, Nat.reduceLeDiff, Nat.reduceEqDiff, Nat.reduceMul, Int.reduceToNat, reduceIte, Int.reduceLE, Int.reduceNeg]; rfl)) ?_)
    refine W.cond rfl ?_ ?_
    ·intro hjl
     simp only [decide_eq_true_eq, Int.ofNat_lt] at hjl
     obtain ⟨z, hz⟩ : ∃ z, (nx code k)[j]? = some z := ⟨_, List.getElem?_eq_getElem hjl⟩
     have bad : outI code.length z = true → okC code = false := fun h => by
      unfold okC
      have : ((List.range code.length).all fun i => !(nx code i).any (outI code.length)) = false := by
       rw [List.all_eq_false]
       refine ⟨k, List.mem_range.2 hlt, ?_⟩
       have : (nx code k).any (outI code.length) = true := List.any_eq_true.2 ⟨z, List.mem_of_getElem? hz, h⟩
       rw [this]; decide
      rw [this]; simp
     have hpl2 : (pt code k j).length ≤ 2 := by unfold pt; rw [List.length_map]; have := List.length_take_le j (nx code k); omega
     by_cases z0 : z < 0
     ·have hno := bad (by unfold outI; rw [decide_eq_true z0]; rfl)
      repeat (first | refine W.seq ?_ | refine W.block ?_ | refine W.skip ?_ | refine W.exit ?_ | refine W.region tab_ok 0 (by decide) (exec_run (by simp only [exa, beq_self_eq_true, ByteArray.size, Nat.reduceAdd, Nat.reduceLeDiff, Nat.reduceEqDiff, Nat.reduceMul, Int.reduceToNat, reduceIte, Int.reduceLE, Int.reduceNeg, at_map hz, cZ, eq_true z0, decide_true]; rfl)) ?_)
      refine W.cond rfl (fun _ => ?_) (fun h => absurd h (by simp))
      repeat (first | refine W.seq ?_ | refine W.block ?_ | refine W.skip ?_ | refine W.exit ?_ | refine W.region tab_ok 0 (by decide) (exec_run (by simp only [exa, beq_self_eq_true, ByteArray.size, Nat.reduceAdd, Nat.reduceLeDiff, Nat.reduceEqDiff, Nat.reduceMul, Int.reduceToNat, reduceIte, Int.reduceLE, Int.reduceNeg]; rfl)) ?_)
      refine W.ret ⟨.inr rfl, by rfl, ?_⟩
      simp only [Tryd.f13, resA, resOne, toT, fin, exa, beq_self_eq_true, ByteArray.size, Nat.reduceAdd, Nat.reduceLeDiff, Nat.reduceEqDiff, Nat.reduceMul, Int.reduceToNat, reduceIte, Int.reduceLE, Int.reduceNeg, nay hno]
     ·by_cases z1 : (code.length : Int) ≤ z
      ·have hno := bad (by unfold outI; rw [decide_eq_true z1]; simp)
       repeat (first | refine W.seq ?_ | refine W.block ?_ | refine W.skip ?_ | refine W.exit ?_ | refine W.region tab_ok 0 (by decide) (exec_run (by simp only [exa, beq_self_eq_true, ByteArray.size, Nat.reduceAdd, Nat.reduceLeDiff, Nat.reduceEqDiff, Nat.reduceMul, Int.reduceToNat, reduceIte, Int.reduceLE, Int.reduceNeg, at_map hz, cZ, eq_false z0, eq_true z1, decide_true, decide_false]; rfl)) ?_)
       refine W.cond rfl (fun _ => ?_) (fun h => absurd h (by simp))
       repeat (first | refine W.seq ?_ | refine W.block ?_ | refine W.skip ?_ | refine W.exit ?_ | refine W.region tab_ok 0 (by decide) (exec_run (by simp only [exa, beq_self_eq_true, ByteArray.size, Nat.reduceAdd, Nat.reduceLeDiff, Nat.reduceEqDiff, Nat.reduceMul, Int.reduceToNat, reduceIte, Int.reduceLE, Int.reduceNeg]; rfl)) ?_)
       refine W.ret ⟨.inr rfl, by rfl, ?_⟩
       simp only [Tryd.f13, resA, resOne, toT, fin, exa, beq_self_eq_true, ByteArray.size, Nat.reduceAdd, Nat.reduceLeDiff, Nat.reduceEqDiff, Nat.reduceMul, Int.reduceToNat, reduceIte, Int.reduceLE, Int.reduceNeg, nay hno]
      ·have hzn : z = (z.toNat : Int) := by omega
       repeat (first | refine W.seq ?_ | refine W.block ?_ | refine W.skip ?_ | refine W.exit ?_ | refine W.region tab_ok 0 (by decide) (exec_run (by simp only [exa, beq_self_eq_true, ByteArray.size, Nat.reduceAdd, Nat.reduceLeDiff, Nat.reduceEqDiff, Nat.reduceMul, Int.reduceToNat, reduceIte, Int.reduceLE, Int.reduceNeg, at_map hz, cZ, eq_false z0, eq_false z1, decide_true, decide_false]; rfl)) ?_)
       refine W.cond rfl (fun h => absurd h (by simp)) (fun _ => ?_)
       (repeat (first | refine W.seq ?_ | refine W.block ?_ | refine W.skip ?_ | refine W.exit ?_))
       refine W.regionK tab_ok 0 (by decide) ?_
       refine runk_split 5 (by simp only [exa, beq_self_eq_true, ByteArray.size, Nat.reduceAdd, Nat.reduceLeDiff, Nat.reduceEqDiff, Nat.reduceMul, Int.reduceToNat, reduceIte, Int.reduceLE, Int.reduceNeg]; rfl) ?_
       refine runk_append tab_ok 50 rfl rfl rfl rfl rfl rfl rfl rfl (by first | rfl | (simp only [exa, beq_self_eq_true, ByteArray.size, Nat.reduceAdd, Nat.reduceLeDiff, Nat.reduceEqDiff, Nat.reduceMul, Int.reduceToNat, reduceIte, Int.reduceLE, Int.reduceNeg]; rfl)) rfl rfl rfl rfl (nokeep hkeep) (by intro x hx; simp at hx; subst hx; rfl) (by simp only [List.length_map, List.length_append, List.length_cons, List.length_nil]; omega) (by decide) ?_
       refine runk_exec (by simp only [exa, beq_self_eq_true, ByteArray.size, Nat.reduceAdd, Nat.reduceLeDiff, Nat.reduceEqDiff, Nat.reduceMul, Int.reduceToNat, reduceIte, Int.reduceLE, Int.reduceNeg]; rfl) ?_
       repeat (first | refine W.seq ?_ | refine W.block ?_ | refine W.skip ?_ | refine W.exit ?_ | refine W.region tab_ok 0 (by decide) (exec_run (by simp only [exa, beq_self_eq_true, ByteArray.size, Nat.reduceAdd, Nat.reduceLeDiff, Nat.reduceEqDiff, Nat.reduceMul, Int.reduceToNat, reduceIte, Int.reduceLE, Int.reduceNeg]; rfl)) ?_)
       have hpn : (e1 code k ++ pt code k j).map cEd ++ [[C.int .i64 k, C.int .i64 z]] = (e1 code k ++ pt code k (j + 1)).map cEd := by
        unfold pt
        rw [List.take_add_one, hz, Option.toList_some]
        simp only [List.map_append, List.map_cons, List.map_nil, List.append_assoc, cEd]
        rw [← hzn]
       rw [hpn]
       refine ⟨j + 1, ⟨hjl, ?_⟩, by omega, ?_⟩
       ·rw [List.take_add_one, hz, List.any_append, hno]
        simp [outI, z0, z1]
       refine le_mk ?sle ?mle ?swf ?mwf (kept_not hkeep) (by rfl)
       case swf => repeat (first | exact swf_top _ | refine swf_upd ?_ (by simp [A.ids, upd_app, wrap_succ (show j + 1 < 9223372036854775808 by omega)]))
       case mwf => repeat (first | exact mwf_nil _ | refine mwf_upd ?_ (by simp [A.ids, O.ids, upd_app, wrap_succ (show j + 1 < 9223372036854775808 by omega)]))
       case mle => repeat (first | exact mle_nil _ | exact mle_refl _ | refine mle_upd ?_ (by first | rfl | (simp only [upd_app, killM_app, O.kill, A.kill, Nat.reduceEqDiff, reduceIte, Option.map_some, Option.map_none, List.map_cons, List.map_nil, wrap_succ (show j + 1 < 9223372036854775808 by omega)]; done)))
       case sle => repeat (first | exact sle_top _ | exact sle_refl _ | refine sle_upd ?_ (by first | rfl | (simp only [upd_app, killS_app, A.kill, entry_zero, entry_succ, Nat.reduceEqDiff, reduceIte, wrap_succ (show j + 1 < 9223372036854775808 by omega)]; done)))
    ·intro hge
     simp only [decide_eq_false_iff_not, Int.ofNat_lt] at hge
     obtain rfl : j = (nx code k).length := by omega
     rw [List.take_length] at hno
     have hfull : ((List.range (k + 1)).all fun i => !(nx code i).any (outI code.length)) = true := by
      rw [List.range_succ, List.all_append, hall]; simp [hno]
     by_cases hnil : nx code k = []
     ·have hnx : e1 code (k + 1) = e1 code k ++ [(k, code.length)] := by rw [e1_succ]; unfold edI; rw [hnil]
      have hpn : pt code k (nx code k).length = [] := by unfold pt; rw [hnil]; rfl
      rw [hpn, List.append_nil]
      have hl0 : (nx code k).length = 0 := by rw [hnil]; rfl
      repeat (first | refine W.seq ?_ | refine W.block ?_ | refine W.skip ?_ | refine W.exit ?_ | refine W.region tab_ok 0 (by decide) (exec_run (by simp only [exa, beq_self_eq_true, ByteArray.size, Nat.reduceAdd, Nat.reduceLeDiff, Nat.reduceEqDiff, Nat.reduceMul, Int.reduceToNat, reduceIte, Int.reduceLE, Int.reduceNeg, List.length_map, hl0, Int.ofNat_eq_natCast, Int.cast_ofNat_Int, eq_self, decide_true]; rfl)) ?_)
      refine W.cond rfl (fun _ => ?_) (fun h => absurd h (by simp))
      (repeat (first | refine W.seq ?_ | refine W.block ?_ | refine W.skip ?_ | refine W.exit ?_))
      refine W.regionK tab_ok 0 (by decide) ?_
      refine runk_split 5 (by simp only [exa, beq_self_eq_true, ByteArray.size, Nat.reduceAdd, Nat.reduceLeDiff, Nat.reduceEqDiff, Nat.reduceMul, Int.reduceToNat, reduceIte, Int.reduceLE, Int.reduceNeg]; rfl) ?_
      refine runk_append tab_ok 50 rfl rfl rfl rfl rfl rfl rfl rfl (by first | rfl | (simp only [exa, beq_self_eq_true, ByteArray.size, Nat.reduceAdd, Nat.reduceLeDiff, Nat.reduceEqDiff, Nat.reduceMul, Int.reduceToNat, reduceIte, Int.reduceLE, Int.reduceNeg]; rfl)) rfl rfl rfl rfl (nokeep hkeep) (by intro x hx; simp at hx; subst hx; rfl) (by simp only [List.length_map, List.length_append, List.length_cons, List.length_nil]; omega) (by decide) ?_
      refine runk_exec (by simp only [exa, beq_self_eq_true, ByteArray.size, Nat.reduceAdd, Nat.reduceLeDiff, Nat.reduceEqDiff, Nat.reduceMul, Int.reduceToNat, reduceIte, Int.reduceLE, Int.reduceNeg]; rfl) ?_
      repeat (first | refine W.seq ?_ | refine W.block ?_ | refine W.skip ?_ | refine W.exit ?_ | refine W.region tab_ok 0 (by decide) (exec_run (by simp only [exa, beq_self_eq_true, ByteArray.size, Nat.reduceAdd, Nat.reduceLeDiff, Nat.reduceEqDiff, Nat.reduceMul, Int.reduceToNat, reduceIte, Int.reduceLE, Int.reduceNeg]; rfl)) ?_)
      refine ⟨k + 1, ⟨hlt, hfull⟩, by omega, ?_⟩
      refine le_mk ?sle ?mle ?swf ?mwf (kept_not hkeep) (by rfl)
      case swf => repeat (first | exact swf_top _ | refine swf_upd ?_ (by simp [A.ids, upd_app, wrap_succ (show k + 1 < 9223372036854775808 by omega), hnx, List.map_append, List.map_cons, List.map_nil, cEd]))
      case mwf => repeat (first | exact mwf_nil _ | refine mwf_upd ?_ (by simp [A.ids, O.ids, upd_app, wrap_succ (show k + 1 < 9223372036854775808 by omega), hnx, List.map_append, List.map_cons, List.map_nil, cEd]))
      case mle => repeat (first | exact mle_nil _ | exact mle_refl _ | refine mle_upd ?_ (by first | rfl | (simp only [upd_app, killM_app, O.kill, A.kill, Nat.reduceEqDiff, reduceIte, Option.map_some, Option.map_none, List.map_cons, List.map_nil, wrap_succ (show k + 1 < 9223372036854775808 by omega), hnx, List.map_append, List.map_cons, List.map_nil, cEd]; done)))
      case sle => repeat (first | exact sle_top _ | exact sle_refl _ | refine sle_upd ?_ (by first | rfl | (simp only [upd_app, killS_app, A.kill, entry_zero, entry_succ, Nat.reduceEqDiff, reduceIte, wrap_succ (show k + 1 < 9223372036854775808 by omega), hnx, List.map_append, List.map_cons, List.map_nil, cEd]; done)))
     ·have hnx : e1 code (k + 1) = e1 code k ++ pt code k (nx code k).length := by
       rw [e1_succ]; unfold edI pt
       rw [List.take_length]
       cases hq : nx code k with
       | nil => exact absurd hq hnil
       | cons a r => rfl
      have hl0 : ((((nx code k).length : Nat) : Int) = 0) = False := eq_false fun h => hnil (List.length_eq_zero_iff.1 (by omega))
      rw [← hnx]
      repeat (first | refine W.seq ?_ | refine W.block ?_ | refine W.skip ?_ | refine W.exit ?_ | refine W.region tab_ok 0 (by decide) (exec_run (by simp only [exa, beq_self_eq_true, ByteArray.size, Nat.reduceAdd, Nat.reduceLeDiff, Nat.reduceEqDiff, Nat.reduceMul, Int.reduceToNat, reduceIte, Int.reduceLE, Int.reduceNeg, List.length_map, hl0, decide_false]; rfl)) ?_)
      refine W.cond rfl (fun h => absurd h (by simp)) (fun _ => ?_)
      repeat (first | refine W.seq ?_ | refine W.block ?_ | refine W.skip ?_ | refine W.exit ?_ | refine W.region tab_ok 0 (by decide) (exec_run (by simp only [exa, beq_self_eq_true, ByteArray.size, Nat.reduceAdd, Nat.reduceLeDiff, Nat.reduceEqDiff, Nat.reduceMul, Int.reduceToNat, reduceIte, Int.reduceLE, Int.reduceNeg]; rfl)) ?_)
      refine ⟨k + 1, ⟨hlt, hfull⟩, by omega, ?_⟩
      refine le_mk ?sle ?mle ?swf ?mwf (kept_not hkeep) (by rfl)
      case swf => repeat (first | exact swf_top _ | refine swf_upd ?_ (by simp [A.ids, upd_app, wrap_succ (show k + 1 < 9223372036854775808 by omega)]))
      case mwf => repeat (first | exact mwf_nil _ | refine mwf_upd ?_ (by simp [A.ids, O.ids, upd_app, wrap_succ (show k + 1 < 9223372036854775808 by omega)]))
      case mle => repeat (first | exact mle_nil _ | exact mle_refl _ | refine mle_upd ?_ (by first | rfl | (simp only [upd_app, killM_app, O.kill, A.kill, Nat.reduceEqDiff, reduceIte, Option.map_some, Option.map_none, List.map_cons, List.map_nil, wrap_succ (show k + 1 < 9223372036854775808 by omega)]; done)))
      case sle => repeat (first | exact sle_top _ | exact sle_refl _ | refine sle_upd ?_ (by first | rfl | (simp only [upd_app, killS_app, A.kill, entry_zero, entry_succ, Nat.reduceEqDiff, reduceIte, wrap_succ (show k + 1 < 9223372036854775808 by omega)]; done)))
  ·intro hge
   simp only [decide_eq_false_iff_not, Int.ofNat_lt] at hge
   obtain rfl : k = code.length := by omega
   have hok : okC code = true := by
    unfold okC
    rw [hall, decide_eq_true (show 1 ≤ code.length by omega), decide_eq_true (show code.length ≤ 2000 by omega)]; rfl
   have yea : graphA ⟨cls, name, params, regs, code⟩ = [(false, [.sl ((gC code).map cEd)]), (false, [.bool true])] := by unfold graphA; simp only; rw [if_pos hok]
   rw [yea]
   have hel := e1_len code code.length
   have hlt1 := e1_lt hok
   have hE1 : ∀ e ∈ swapE (e1 code code.length), e.1 < code.length + 1 ∧ e.2 < code.length + 1 := fun e he => by
    have := hlt1 _ (mem_swap.1 (show (e.1, e.2) ∈ _ from he))
    simp only at this
    omega
   have hwn : IntKind.i64.wrap ((code.length : Int) + 1) = ((code.length + 1 : Nat) : Int) := wrap_succ (show code.length + 1 < 9223372036854775808 by omega)
   (repeat (first | refine W.seq ?_ | refine W.block ?_ | refine W.skip ?_ | refine W.exit ?_))
   refine W.regionK tab_ok 0 (by decide) ?_
   refine runk_split 3 (by simp only [exa, beq_self_eq_true, ByteArray.size, Nat.reduceAdd, Nat.reduceLeDiff, Nat.reduceEqDiff, Nat.reduceMul, Int.reduceToNat, reduceIte, Int.reduceLE, Int.reduceNeg, hwn]; rfl) ?_
   refine runk_call rfl rfl rfl rfl rfl (by simp) (cvs_cons (cv_own rfl) cvs_nil) (refTurnN_ok (e1 code code.length) (by omega) _) ?_
   refine runk_split 2 (by simp only [exa, beq_self_eq_true, ByteArray.size, Nat.reduceAdd, Nat.reduceLeDiff, Nat.reduceEqDiff, Nat.reduceMul, Int.reduceToNat, reduceIte, Int.reduceLE, Int.reduceNeg, hwn]; rfl) ?_
   refine runk_call rfl rfl rfl rfl rfl (by simp) (cvs_cons cv_refl (cvs_cons cv_refl (cvs_cons cv_refl cvs_nil))) (marks_ok (code.length + 1) (by omega) (swapE (e1 code code.length)) (by simp [swapE]; omega) hE1 [code.length] (by simp) (fun i hi => by simp at hi; omega) _) ?_
   refine runk_exec (by simp only [exa, beq_self_eq_true, ByteArray.size, Nat.reduceAdd, Nat.reduceLeDiff, Nat.reduceEqDiff, Nat.reduceMul, Int.reduceToNat, reduceIte, Int.reduceLE, Int.reduceNeg, hwn]; rfl) ?_
   repeat (first | refine W.seq ?_ | refine W.block ?_ | refine W.skip ?_ | refine W.exit ?_ | refine W.region tab_ok 0 (by decide) (exec_run (by simp only [exa, beq_self_eq_true, ByteArray.size, Nat.reduceAdd, Nat.reduceLeDiff, Nat.reduceEqDiff, Nat.reduceMul, Int.reduceToNat, reduceIte, Int.reduceLE, Int.reduceNeg]; rfl)) ?_)
   have hR : ∀ i, (reachB (swapE (e1 code code.length)) [code.length] i = true ↔ G.Rch (turnP (e1 code code.length)) [code.length] i) := fun i => reachB_iff
   generalize reachB (swapE (e1 code code.length)) [code.length] = Q at *
   refine W.loop (ι := Nat) (fun k => ⟨upd (upd (upd (upd (upd (upd (fun _ => .top) 1 (.ptr 1 0)) 4 (.c (.int .i64 code.length))) 5 (.own 50)) 10 (.c (.sl (rowB (code.length + 1) Q)))) 67 (.c (.int .i64 code.length))) 68 (.c (.int .i64 k)),
    upd (upd Mem.nil 1 (some (.box 24 [.c (.str cls), .c (.str name), .c (.int .i64 params), .c (.int .i64 regs), .c (.sl (code.map cIns))]))) 50 (some (.arr 42 2 ((e1 code code.length ++ e2 code k).map cEd)))⟩)
    (fun k => k ≤ code.length) (fun k => code.length - k) 0 ?start3 (Nat.zero_le _) ?round3
   case start3 =>
    refine le_mk ?sle ?mle ?swf ?mwf (kept_not hkeep) (by rfl)
    case swf => repeat (first | exact swf_top _ | refine swf_upd ?_ (by simp [A.ids, upd_app, show e2 code 0 = [] from rfl, List.append_nil]))
    case mwf => repeat (first | exact mwf_nil _ | refine mwf_upd ?_ (by simp [A.ids, O.ids, upd_app, show e2 code 0 = [] from rfl, List.append_nil]))
    case mle => repeat (first | exact mle_nil _ | exact mle_refl _ | refine mle_upd ?_ (by first | rfl | (simp only [upd_app, killM_app, O.kill, A.kill, Nat.reduceEqDiff, reduceIte, Option.map_some, Option.map_none, List.map_cons, List.map_nil, show e2 code 0 = [] from rfl, List.append_nil]; done)))
    case sle => repeat (first | exact sle_top _ | exact sle_refl _ | refine sle_upd ?_ (by first | rfl | (simp only [upd_app, killS_app, A.kill, entry_zero, entry_succ, Nat.reduceEqDiff, reduceIte, show e2 code 0 = [] from rfl, List.append_nil]; done)))
   case round3 =>
    intro k hkl
    repeat (first | refine W.seq ?_ | refine W.block ?_ | refine W.skip ?_ | refine W.exit ?_ | refine W.region tab_ok 0 (by decide) (exec_run (by simp only [exa, beq_self_eq_true, ByteArray.size, Nat.reduceAdd, Nat.reduceLeDiff, Nat.reduceEqDiff, Nat.reduceMul, Int.reduceToNat, reduceIte, Int.reduceLE, Int.reduceNeg]; rfl)) ?_)
    refine W.cond rfl ?_ ?_
    ·intro hlt
     simp only [decide_eq_true_eq, Int.ofNat_lt] at hlt
     have hl2 := lost_len code k
     have hl3 : (e2 code k).length ≤ k := by unfold e2; rw [List.length_map]; exact hl2
     have hk0 : (0 : Int) ≤ (k : Int) := by omega
     have hk1 : k < code.length + 1 := by omega
     repeat (first | refine W.seq ?_ | refine W.block ?_ | refine W.skip ?_ | refine W.exit ?_ | refine W.region tab_ok 0 (by decide) (exec_run (by simp only [exa, beq_self_eq_true, ByteArray.size, Nat.reduceAdd, Nat.reduceLeDiff, Nat.reduceEqDiff, Nat.reduceMul, Int.reduceToNat, reduceIte, Int.reduceLE, Int.reduceNeg, rowB_at hk1, rowB_len, hk0, hk1, Int.toNat_natCast, and_self]; rfl)) ?_)
     refine W.cond rfl ?_ ?_
     ·intro hno
      have hno : ¬ G.Rch (turnP (e1 code code.length)) [code.length] k := fun h => by
       rw [(hR k).2 h] at hno; cases hno
      have hnx : e2 code (k + 1) = e2 code k ++ [(k, code.length)] := by
       unfold e2 lost
       rw [List.range_succ, List.filter_append, List.map_append]
       congr 1
       simp [hno]
      (repeat (first | refine W.seq ?_ | refine W.block ?_ | refine W.skip ?_ | refine W.exit ?_))
      refine W.regionK tab_ok 0 (by decide) ?_
      refine runk_split 5 (by simp only [exa, beq_self_eq_true, ByteArray.size, Nat.reduceAdd, Nat.reduceLeDiff, Nat.reduceEqDiff, Nat.reduceMul, Int.reduceToNat, reduceIte, Int.reduceLE, Int.reduceNeg]; rfl) ?_
      refine runk_append tab_ok 50 rfl rfl rfl rfl rfl rfl rfl rfl (by first | rfl | (simp only [exa, beq_self_eq_true, ByteArray.size, Nat.reduceAdd, Nat.reduceLeDiff, Nat.reduceEqDiff, Nat.reduceMul, Int.reduceToNat, reduceIte, Int.reduceLE, Int.reduceNeg]; rfl)) rfl rfl rfl rfl (nokeep hkeep) (by intro z hz; simp at hz; subst hz; rfl) (by simp only [List.length_map, List.length_append, List.length_cons, List.length_nil]; omega) (by decide) ?_
      refine runk_exec (by simp only [exa, beq_self_eq_true, ByteArray.size, Nat.reduceAdd, Nat.reduceLeDiff, Nat.reduceEqDiff, Nat.reduceMul, Int.reduceToNat, reduceIte, Int.reduceLE, Int.reduceNeg]; rfl) ?_
      repeat (first | refine W.seq ?_ | refine W.block ?_ | refine W.skip ?_ | refine W.exit ?_ | refine W.region tab_ok 0 (by decide) (exec_run (by simp only [exa, beq_self_eq_true, ByteArray.size, Nat.reduceAdd, Nat.reduceLeDiff, Nat.reduceEqDiff, Nat.reduceMul, Int.reduceToNat, reduceIte, Int.reduceLE, Int.reduceNeg]; rfl)) ?_)
      refine ⟨k + 1, hlt, by omega, ?_⟩
      refine le_mk ?sle ?mle ?swf ?mwf (kept_not hkeep) (by rfl)
      case swf => repeat (first | exact swf_top _ | refine swf_upd ?_ (by simp [A.ids, upd_app, wrap_succ (show k + 1 < 9223372036854775808 by omega), hnx, List.map_append, List.map_cons, List.map_nil, cEd, List.append_assoc]))
      case mwf => repeat (first | exact mwf_nil _ | refine mwf_upd ?_ (by simp [A.ids, O.ids, upd_app, wrap_succ (show k + 1 < 9223372036854775808 by omega), hnx, List.map_append, List.map_cons, List.map_nil, cEd, List.append_assoc]))
      case mle => repeat (first | exact mle_nil _ | exact mle_refl _ | refine mle_upd ?_ (by first | rfl | (simp only [upd_app, killM_app, O.kill, A.kill, Nat.reduceEqDiff, reduceIte, Option.map_some, Option.map_none, List.map_cons, List.map_nil, wrap_succ (show k + 1 < 9223372036854775808 by omega), hnx, List.map_append, List.map_cons, List.map_nil, cEd, List.append_assoc]; done)))
      case sle => repeat (first | exact sle_top _ | exact sle_refl _ | refine sle_upd ?_ (by first | rfl | (simp only [upd_app, killS_app, A.kill, entry_zero, entry_succ, Nat.reduceEqDiff, reduceIte, wrap_succ (show k + 1 < 9223372036854775808 by omega), hnx, List.map_append, List.map_cons, List.map_nil, cEd, List.append_assoc]; done)))
     ·intro hyes
      have hyes : G.Rch (turnP (e1 code code.length)) [code.length] k := by
       refine (hR k).1 ?_
       cases h : Q k with
       | true => rfl
       | false => rw [h] at hyes; cases hyes
      have hnx : e2 code (k + 1) = e2 code k := by
       unfold e2 lost
       rw [List.range_succ, List.filter_append, List.map_append]
       simp [hyes]
      repeat (first | refine W.seq ?_ | refine W.block ?_ | refine W.skip ?_ | refine W.exit ?_ | refine W.region tab_ok 0 (by decide) (exec_run (by simp only [exa, beq_self_eq_true, ByteArray.size, Nat.reduceAdd, Nat.reduceLeDiff, Nat.reduceEqDiff, Nat.reduceMul, Int.reduceToNat, reduceIte, Int.reduceLE, Int.reduceNeg]; rfl)) ?_)
      refine ⟨k + 1, hlt, by omega, ?_⟩
      refine le_mk ?sle ?mle ?swf ?mwf (kept_not hkeep) (by rfl)
      case swf => repeat (first | exact swf_top _ | refine swf_upd ?_ (by simp [A.ids, upd_app, wrap_succ (show k + 1 < 9223372036854775808 by omega), hnx]))
      case mwf => repeat (first | exact mwf_nil _ | refine mwf_upd ?_ (by simp [A.ids, O.ids, upd_app, wrap_succ (show k + 1 < 9223372036854775808 by omega), hnx]))
      case mle => repeat (first | exact mle_nil _ | exact mle_refl _ | refine mle_upd ?_ (by first | rfl | (simp only [upd_app, killM_app, O.kill, A.kill, Nat.reduceEqDiff, reduceIte, Option.map_some, Option.map_none, List.map_cons, List.map_nil, wrap_succ (show k + 1 < 9223372036854775808 by omega), hnx]; done)))
      case sle => repeat (first | exact sle_top _ | exact sle_refl _ | refine sle_upd ?_ (by first | rfl | (simp only [upd_app, killS_app, A.kill, entry_zero, entry_succ, Nat.reduceEqDiff, reduceIte, wrap_succ (show k + 1 < 9223372036854775808 by omega), hnx]; done)))
    ·intro hge2
     simp only [decide_eq_false_iff_not, Int.ofNat_lt] at hge2
     obtain rfl : k = code.length := by omega
     have hgc : e1 code code.length ++ e2 code code.length = gC code := rfl
     rw [hgc]
     repeat (first | refine W.seq ?_ | refine W.block ?_ | refine W.skip ?_ | refine W.exit ?_ | refine W.region tab_ok 0 (by decide) (exec_run (by simp only [exa, beq_self_eq_true, ByteArray.size, Nat.reduceAdd, Nat.reduceLeDiff, Nat.reduceEqDiff, Nat.reduceMul, Int.reduceToNat, reduceIte, Int.reduceLE, Int.reduceNeg]; rfl)) ?_)
     refine W.ret ⟨.inr rfl, by rfl, ?_⟩
     simp only [Tryd.f13, resA, resOne, toT, fin, exa, beq_self_eq_true, ByteArray.size, Nat.reduceAdd, Nat.reduceLeDiff, Nat.reduceEqDiff, Nat.reduceMul, Int.reduceToNat, reduceIte, Int.reduceLE, Int.reduceNeg]
end V
end Go.Proofs.YtnmfbaahabcocaaDoor
end
section
namespace Go.Proofs.YtnmfbaahabcocaaDoor
namespace V
open Go.RowKit
theorem compactE_len (zs : List (Int × Int)) : (Lib.compact zs).length ≤ zs.length := by
 unfold Lib.compact Lib.compactUpTo
 rw [List.length_map]
 exact Nat.le_trans (List.length_filter_le _ _) (by simp)
set_option maxHeartbeats 2000000 in
theorem compactE_ok (zs : List (Int × Int)) (hlen : zs.length ≤ 1000000000000) (M : Mem) (id : Nat) {ty : TypeId} (hM : M id = some (.mrow ty 2 (zs.map cE))) :
  CallE Tryd.prog 24 [.own id] M [id] (.own id) (upd (killM id M) id (some (.mrow ty 2 ((Lib.compact zs).map cE)))) := by
 have liv : ∀ j, (M j).isSome = true → (upd (killM id M) id (some (O.mrow ty 2 ((Lib.compact zs).map cE))) j).isSome = true := fun j hj => by
  unfold upd; split
  ·rfl
  ·simpa [killM_app] using hj
 refine ⟨enters_of Tryd.func24 (by kernel_rfl) rfl, fun j hj => by simp [A.ids] at hj; subst hj; rw [upd_same]; rfl, liv, fun hw i o ho j hj => ?_, ?_⟩
 ·unfold upd at ho
  split at ho
  ·cases ho; simp [O.ids] at hj
  ·cases hi : M i with
   | none => rw [killM_app, hi] at ho; cases ho
   | some o0 =>
    rw [killM_app, hi] at ho
    cases ho
    exact liv j (hw i o0 hi j (O.kill_ids j hj))
 intro w0 I0 B I w vals hm hv
 match vals, hv with
 | [v], ⟨h1, _⟩ =>
  obtain ⟨hvB, -⟩ := h1
  subst hvB
  obtain ⟨vs, hrow, hvs, hlx, hno⟩ := hm.objs id _ hM
  rw [flat_cE] at hvs
  obtain ⟨rfl, hwf⟩ := rcs_edges hvs
  rw [List.length_map] at hrow
  obtain ⟨-, ho⟩ := hrow
  rcases ho with ⟨e, hn⟩ | ⟨g, off, cap, cur, e, hg, hnc, hmx, hsz, htk⟩
  ·obtain rfl : zs = [] := List.length_eq_zero_iff.1 hn
   show Calls _ _ #[B id] w _
   rw [e]
   refine (compactE_nil w).mono ?_
   rintro e' w' ⟨rfl, rfl⟩
   obtain ⟨hm2, -⟩ := hm.rewin (id := id) (lo := 0) (hi := 0) (e := 2) (v' := .slice none 0 0) hM (Nat.zero_le _) ⟨none, 0, 0, e, Nat.le_refl _, Nat.le_refl _, by simp⟩
   refine ⟨_, _, I, rfl, hm2, Ext.refl _ _, fun j hj hd => upd_ne _ _ (fun q => hd (by simp [q])), (upd_same ..).symm, _, _, _, rfl⟩
  ·have hglt : g < w.heap.size := (Array.getElem?_eq_some_iff.1 hg).1
   have hcell : ∀ j, j < zs.length * 2 → cur[off + j]? = (zs.flatMap encE)[j]? := fun j hj => by
    rw [← htk, List.getElem?_take, if_pos hj, List.getElem?_drop, Array.getElem?_toList]
   have hR : RowW w w g off ty zs.toArray := ⟨rfl, rfl, rfl, rfl, fun _ _ => rfl, cur, cur, hg, hg, rfl, by simp only [List.size_toArray]; omega, fun i hi => by
    have hi : i < zs.length := by simpa using hi
    have hz : zs.toArray[i]! = zs[i] := by simp [hi]
    have a := fm_at zs i 0 (by decide)
    have b := fm_at zs i 1 (by decide)
    rw [List.getElem?_eq_getElem hi] at a b
    rw [hz, show off + i * 2 + 1 = off + (i * 2 + 1) by omega, hcell (i * 2) (by omega), hcell (i * 2 + 1) (by omega), b]
    exact ⟨a, rfl⟩⟩
   show Calls _ _ #[B id] w _
   rw [e]
   have hcall := compactE_any g off cap ty zs.toArray w hR (by simpa using hlen) (by simpa using hnc)
   rw [List.size_toArray] at hcall
   refine hcall.mono ?_
   rintro e' w' ⟨rfl, dk, hW, hdz, hlow, hmem⟩
   have hdl : dk.toList.length = zs.length := by simpa using hdz
   have hwf' : ∀ p ∈ dk.toList, okE p := fun p hp => by
    obtain ⟨j, hj⟩ := List.getElem?_of_mem hp
    obtain ⟨hjl, hj⟩ := List.getElem?_eq_some_iff.1 hj
    have hjl : j < dk.size := by simpa using hjl
    have hpe : dk[j]! = p := by rw [getElem!_pos dk j hjl]; simpa using hj
    rcases hmem j hjl with q | q
    ·rw [hpe] at q; exact hwf p (by simpa using q)
    ·rw [hpe] at q; subst q; exact ⟨rfl, rfl⟩
   obtain ⟨cur', cur0, q1, q2, q3, q4, q5⟩ := hW.row
   obtain rfl : cur0 = cur := by rw [hg] at q1; cases q1; rfl
   have hf : foot B id (.mrow ty 2 (zs.map cE)) g := by show (B id).ownBlock = some g; rw [e]; rfl
   have hf' : ∀ k, foot B id (.mrow ty 2 (dk.toList.map cE)) k → k = g := fun k hk => by
    have hk : (B id).ownBlock = some k := hk
    rw [e] at hk; cases hk; rfl
   have hIg : ∀ p, ¬ I g p := fun p => hno g (by rw [e]; rfl) p
   obtain ⟨hm1, hE1⟩ := hm.turn (w' := w') (o' := .mrow ty 2 (dk.toList.map cE)) hM hf hf' hIg hW.os hW.tape hW.output hW.size hW.other (fun i hi => by simp [O.ids] at hi) (fun _ => by
    refine ⟨dk.toList.flatMap encE, ⟨by rw [fm_len, List.length_map], ?_⟩, by rw [flat_cE]; exact edges_rcs hwf', cE_len2, fun b hb p => ?_⟩
    ·refine .inr ⟨g, off, cap, cur', by rw [e, List.length_map, hdl], q2, by rw [List.length_map, hdl]; exact hnc, hmx, by rw [q3]; exact hsz, ?_⟩
     refine List.ext_getElem? fun j => ?_
     rw [List.getElem?_take, List.length_map, hdl]
     split
     ·rename_i hj
      have hi : j / 2 < dk.size := by rw [← Array.length_toList, hdl]; omega
      obtain ⟨a, b⟩ := q5 (j / 2) hi
      have hj2 : j % 2 = 0 ∨ j % 2 = 1 := by omega
      have hfm := fm_at dk.toList (j / 2) (j % 2) (by omega)
      rw [show j / 2 * 2 + j % 2 = j by omega] at hfm
      have hdj : dk.toList[j / 2]? = some dk[j / 2]! := by rw [getElem!_pos dk (j / 2) hi]; simp [hi]
      rw [hfm, hdj, List.getElem?_drop, Array.getElem?_toList]
      rcases hj2 with q | q
      ·rw [show off + j = off + j / 2 * 2 by omega, a, q]; rfl
      ·rw [show off + j = off + j / 2 * 2 + 1 by omega, b, q]; rfl
     ·rename_i hj
      rw [List.getElem?_eq_none (by rw [fm_len, hdl]; omega)]
    ·rw [e] at hb
     have : g = b := by simpa [Value.ownBlock] using hb
     subst this
     exact hIg p)
   have hle := compactE_len zs
   have hK : (Lib.compactUpTo zs.toArray zs.length) = Lib.compact zs := rfl
   rw [hK] at hlow ⊢
   obtain ⟨hm3, -⟩ := hm1.rewin (id := id) (lo := 0) (hi := (Lib.compact zs).length) (e := 2) (v' := .slice (some ⟨g, off, none⟩) (Lib.compact zs).length cap) (upd_same ..) (by rw [List.length_map, hdl]; exact hle) ⟨some ⟨g, off, none⟩, zs.length, cap, e, Nat.zero_le _, by omega, by simp [Addr.add]⟩
   have htake : (dk.toList.take (Lib.compact zs).length) = Lib.compact zs := by
    refine List.ext_getElem? fun j => ?_
    rw [List.getElem?_take]
    split
    ·rename_i hj
     rw [hlow j hj, getElem!_pos dk j (by omega)]; simp
    ·rename_i hj
     rw [List.getElem?_eq_none (by omega)]
   have hmem2 : upd (killM id (upd M id (some (O.mrow ty 2 (dk.toList.map cE))))) id (some (O.mrow ty 2 (((dk.toList.map cE).take (Lib.compact zs).length).drop 0))) = upd (killM id M) id (some (.mrow ty 2 ((Lib.compact zs).map cE))) := by
    funext j
    unfold upd
    split
    ·rw [List.drop_zero, ← List.map_take, htake]
    ·rename_i q; rw [killM_app, killM_app, if_neg q]
   rw [hmem2] at hm3
   exact ⟨_, _, I, rfl, hm3, hE1, fun j hj hd => upd_ne _ _ (fun q => hd (by simp [q])), (upd_same ..).symm, _, _, _, rfl⟩
end V
end Go.Proofs.YtnmfbaahabcocaaDoor
end
section
namespace Go.Proofs.YtnmfbaahabcocaaDoor
namespace V
open Go.RowKit G C17
noncomputable def postsA (p : Prc) (u : Nat → Option Nat) : List (Bool × List C) :=
 if okC p.code = true then [(false, [.sl ((upL p.code.length u p.code.length).map cZ)]), (false, [.int .i64 0])] else [(false, [.sl []]), (false, [.int .i64 110])]
noncomputable def hangsA (p : Prc) (u : Nat → Option Nat) : List (Bool × List C) :=
 if okC p.code = true then [(false, [.sl ((hangL (gC p.code) u p.code.length).map cEd)]), (false, [.int .i64 0])] else [(false, [.sl []]), (false, [.int .i64 110])]
theorem upL_take (s n : Nat) (u : Nat → Option Nat) : ((upL s u (n + 1)).map cZ).take n = (upL s u n).map cZ := by
 unfold upL
 rw [← List.map_take, ← List.map_take, List.take_range]
 simp
set_option maxHeartbeats 4000000 in
theorem posts_ok (p : Prc) (u : Nat → Option Nat) (T : okC p.code = true → Tree (turnP (gC p.code)) p.code.length u) (m : Mem) : COk Tryd.prog 7 [.agg (cP p)] m (.tup (postsA p u)) := by
 have hw := fun m => whole_ok p u T m
 obtain ⟨cls, name, params, regs, code⟩ := p
 simp only at T ⊢
 have hcp : cP ⟨cls, name, params, regs, code⟩ = [.str cls, .str name, .int .i64 params, .int .i64 regs, .sl (code.map cIns)] := rfl
 refine (ok_pure tab_ok Tryd.func7 (by kernel_rfl) rfl rfl (by rfl) (by rfl) (by rfl) (fun R hkeep => ?_) m)
 cases hok : okC code with
 | false =>
  have e1 : wholeA ⟨cls, name, params, regs, code⟩ u = [(false, [.sl []]), (false, [.sl []]), (false, [.int .i64 110])] := by unfold wholeA; simp only; rw [if_neg (by simp [hok])]
  have e2 : postsA ⟨cls, name, params, regs, code⟩ u = [(false, [.sl []]), (false, [.int .i64 110])] := by unfold postsA; simp only; rw [if_neg (by simp [hok])]
  rw [e1] at hw
  rw [e2]
  repeat (first | refine W.seq ?_ | refine W.block ?_ | refine W.skip ?_ | refine W.exit ?_ | refine W.region tab_ok 0 (by decide) (exec_run (by simp only [exa, beq_self_eq_true, ByteArray.size, Nat.reduceAdd, Nat.reduceLeDiff, Nat.reduceEqDiff, Nat.reduceMul, Int.reduceToNat, reduceIte, Int.reduceLE, Int.reduceNeg, hcp, List.map_cons, List.map_nil]; rfl)) ?_)
  refine W.regionK tab_ok 0 (by decide) ?_
  refine runk_split 1 (by simp only [exa, beq_self_eq_true, ByteArray.size, Nat.reduceAdd, Nat.reduceLeDiff, Nat.reduceEqDiff, Nat.reduceMul, Int.reduceToNat, reduceIte, Int.reduceLE, Int.reduceNeg, hcp, List.map_cons, List.map_nil]; rfl) ?_
  refine runk_call rfl rfl rfl rfl rfl (by simp) (cvs_cons cv_refl cvs_nil) (hw _) ?_
  refine runk_exec (by simp only [exa, beq_self_eq_true, ByteArray.size, Nat.reduceAdd, Nat.reduceLeDiff, Nat.reduceEqDiff, Nat.reduceMul, Int.reduceToNat, reduceIte, Int.reduceLE, Int.reduceNeg]; rfl) ?_
  repeat (first | refine W.seq ?_ | refine W.block ?_ | refine W.skip ?_ | refine W.exit ?_ | refine W.region tab_ok 0 (by decide) (exec_run (by simp only [exa, beq_self_eq_true, ByteArray.size, Nat.reduceAdd, Nat.reduceLeDiff, Nat.reduceEqDiff, Nat.reduceMul, Int.reduceToNat, reduceIte, Int.reduceLE, Int.reduceNeg, Int.reduceEq, decide_false, decide_true, not_false_eq_true]; rfl)) ?_)
  refine W.cond rfl (fun _ => ?_) (fun h => absurd h (by simp))
  repeat (first | refine W.seq ?_ | refine W.block ?_ | refine W.skip ?_ | refine W.exit ?_ | refine W.region tab_ok 0 (by decide) (exec_run (by simp only [exa, beq_self_eq_true, ByteArray.size, Nat.reduceAdd, Nat.reduceLeDiff, Nat.reduceEqDiff, Nat.reduceMul, Int.reduceToNat, reduceIte, Int.reduceLE, Int.reduceNeg]; rfl)) ?_)
  refine W.ret ⟨.inr rfl, by rfl, ?_⟩
  simp only [Tryd.f7, resA, resOne, toT, fin, exa, beq_self_eq_true, ByteArray.size, Nat.reduceAdd, Nat.reduceLeDiff, Nat.reduceEqDiff, Nat.reduceMul, Int.reduceToNat, reduceIte, Int.reduceLE, Int.reduceNeg]
 | true =>
  have e1 : wholeA ⟨cls, name, params, regs, code⟩ u = [(false, [.sl ((gC code).map cEd)]), (false, [.sl ((upL code.length u (code.length + 1)).map cZ)]), (false, [.int .i64 0])] := by unfold wholeA; simp only; rw [if_pos hok]
  have e2 : postsA ⟨cls, name, params, regs, code⟩ u = [(false, [.sl ((upL code.length u code.length).map cZ)]), (false, [.int .i64 0])] := by unfold postsA; simp only; rw [if_pos hok]
  rw [e1] at hw
  rw [e2]
  have hul : (upL code.length u (code.length + 1)).length = code.length + 1 := upL_len _ _ _
  have hle : code.length ≤ code.length + 1 := by omega
  have h0 : (0 : Int) ≤ (code.length : Int) := by omega
  repeat (first | refine W.seq ?_ | refine W.block ?_ | refine W.skip ?_ | refine W.exit ?_ | refine W.region tab_ok 0 (by decide) (exec_run (by simp only [exa, beq_self_eq_true, ByteArray.size, Nat.reduceAdd, Nat.reduceLeDiff, Nat.reduceEqDiff, Nat.reduceMul, Int.reduceToNat, reduceIte, Int.reduceLE, Int.reduceNeg, hcp, List.map_cons, List.map_nil]; rfl)) ?_)
  refine W.regionK tab_ok 0 (by decide) ?_
  refine runk_split 1 (by simp only [exa, beq_self_eq_true, ByteArray.size, Nat.reduceAdd, Nat.reduceLeDiff, Nat.reduceEqDiff, Nat.reduceMul, Int.reduceToNat, reduceIte, Int.reduceLE, Int.reduceNeg, hcp, List.map_cons, List.map_nil]; rfl) ?_
  refine runk_call rfl rfl rfl rfl rfl (by simp) (cvs_cons cv_refl cvs_nil) (hw _) ?_
  refine runk_exec (by simp only [exa, beq_self_eq_true, ByteArray.size, Nat.reduceAdd, Nat.reduceLeDiff, Nat.reduceEqDiff, Nat.reduceMul, Int.reduceToNat, reduceIte, Int.reduceLE, Int.reduceNeg]; rfl) ?_
  repeat (first | refine W.seq ?_ | refine W.block ?_ | refine W.skip ?_ | refine W.exit ?_ | refine W.region tab_ok 0 (by decide) (exec_run (by simp only [exa, beq_self_eq_true, ByteArray.size, Nat.reduceAdd, Nat.reduceLeDiff, Nat.reduceEqDiff, Nat.reduceMul, Int.reduceToNat, reduceIte, Int.reduceLE, Int.reduceNeg, Int.reduceEq, decide_false, decide_true, not_true_eq_false, not_false_eq_true, bne_self_eq_false]; rfl)) ?_)
  refine W.cond rfl (fun h => absurd h (by simp)) (fun _ => ?_)
  (repeat (first | refine W.seq ?_ | refine W.block ?_ | refine W.skip ?_ | refine W.exit ?_))
  refine W.region tab_ok 0 (by decide) (exec_run (by simp only [exa, beq_self_eq_true, ByteArray.size, Nat.reduceAdd, Nat.reduceLeDiff, Nat.reduceEqDiff, Nat.reduceMul, Int.reduceToNat, reduceIte, Int.reduceLE, Int.reduceNeg, List.length_map, hul, hle, h0, Int.toNat_natCast, and_self, Nat.zero_le, upL_take, List.drop_zero]; rfl)) ?_
  refine W.ret ⟨.inr rfl, by rfl, ?_⟩
  simp only [Tryd.f7, resA, resOne, toT, fin, exa, beq_self_eq_true, ByteArray.size, Nat.reduceAdd, Nat.reduceLeDiff, Nat.reduceEqDiff, Nat.reduceMul, Int.reduceToNat, reduceIte, Int.reduceLE, Int.reduceNeg]
theorem upL_row {s n i : Nat} {u : Nat → Option Nat} {p : Nat} (hi : i < n) (h : upI s u i = (p : Int)) : (upL s u n)[i]? = some (p : Int) := by rw [upL_at s u hi, h]
set_option maxHeartbeats 8000000 in
theorem hangs_ok (p : Prc) (u : Nat → Option Nat) (T : okC p.code = true → Tree (turnP (gC p.code)) p.code.length u) (m : Mem) : COk Tryd.prog 10 [.agg (cP p)] m (.tup (hangsA p u)) := by
 have hw := fun m => whole_ok p u T m
 obtain ⟨cls, name, params, regs, code⟩ := p
 simp only at T ⊢
 have hcp : cP ⟨cls, name, params, regs, code⟩ = [.str cls, .str name, .int .i64 params, .int .i64 regs, .sl (code.map cIns)] := rfl
 refine (ok_pure tab_ok Tryd.func10 (by kernel_rfl) rfl rfl (by rfl) (by rfl) (by rfl) (fun R hkeep => ?_) m)
 cases hok : okC code with
 | false =>
  have e1 : wholeA ⟨cls, name, params, regs, code⟩ u = [(false, [.sl []]), (false, [.sl []]), (false, [.int .i64 110])] := by unfold wholeA; simp only; rw [if_neg (by simp [hok])]
  have e2 : hangsA ⟨cls, name, params, regs, code⟩ u = [(false, [.sl []]), (false, [.int .i64 110])] := by unfold hangsA; simp only; rw [if_neg (by simp [hok])]
  rw [e1] at hw
  rw [e2]
  repeat (first | refine W.seq ?_ | refine W.block ?_ | refine W.skip ?_ | refine W.exit ?_ | refine W.region tab_ok 0 (by decide) (exec_run (by simp only [exa, beq_self_eq_true, ByteArray.size, Nat.reduceAdd, Nat.reduceLeDiff, Nat.reduceEqDiff, Nat.reduceMul, Int.reduceToNat, reduceIte, Int.reduceLE, Int.reduceNeg, hcp, List.map_cons, List.map_nil]; rfl)) ?_)
  refine W.regionK tab_ok 0 (by decide) ?_
  refine runk_split 1 (by simp only [exa, beq_self_eq_true, ByteArray.size, Nat.reduceAdd, Nat.reduceLeDiff, Nat.reduceEqDiff, Nat.reduceMul, Int.reduceToNat, reduceIte, Int.reduceLE, Int.reduceNeg, hcp, List.map_cons, List.map_nil]; rfl) ?_
  refine runk_call rfl rfl rfl rfl rfl (by simp) (cvs_cons cv_refl cvs_nil) (hw _) ?_
  refine runk_exec (by simp only [exa, beq_self_eq_true, ByteArray.size, Nat.reduceAdd, Nat.reduceLeDiff, Nat.reduceEqDiff, Nat.reduceMul, Int.reduceToNat, reduceIte, Int.reduceLE, Int.reduceNeg]; rfl) ?_
  repeat (first | refine W.seq ?_ | refine W.block ?_ | refine W.skip ?_ | refine W.exit ?_ | refine W.region tab_ok 0 (by decide) (exec_run (by simp only [exa, beq_self_eq_true, ByteArray.size, Nat.reduceAdd, Nat.reduceLeDiff, Nat.reduceEqDiff, Nat.reduceMul, Int.reduceToNat, reduceIte, Int.reduceLE, Int.reduceNeg, Int.reduceEq, decide_false, decide_true, not_false_eq_true]; rfl)) ?_)
  refine W.cond rfl (fun _ => ?_) (fun h => absurd h (by simp))
  repeat (first | refine W.seq ?_ | refine W.block ?_ | refine W.skip ?_ | refine W.exit ?_ | refine W.region tab_ok 0 (by decide) (exec_run (by simp only [exa, beq_self_eq_true, ByteArray.size, Nat.reduceAdd, Nat.reduceLeDiff, Nat.reduceEqDiff, Nat.reduceMul, Int.reduceToNat, reduceIte, Int.reduceLE, Int.reduceNeg]; rfl)) ?_)
  refine W.ret ⟨.inr rfl, by rfl, ?_⟩
  simp only [Tryd.f10, resA, resOne, toT, fin, exa, beq_self_eq_true, ByteArray.size, Nat.reduceAdd, Nat.reduceLeDiff, Nat.reduceEqDiff, Nat.reduceMul, Int.reduceToNat, reduceIte, Int.reduceLE, Int.reduceNeg]
 | true =>
  have e1 : wholeA ⟨cls, name, params, regs, code⟩ u = [(false, [.sl ((gC code).map cEd)]), (false, [.sl ((upL code.length u (code.length + 1)).map cZ)]), (false, [.int .i64 0])] := by unfold wholeA; simp only; rw [if_pos hok]
  have e2 : hangsA ⟨cls, name, params, regs, code⟩ u = [(false, [.sl ((hangL (gC code) u code.length).map cEd)]), (false, [.int .i64 0])] := by unfold hangsA; simp only; rw [if_pos hok]
  rw [e1] at hw
  rw [e2]
  replace T := T hok
  have hn2 : code.length ≤ 2000 := by
   have := hok
   unfold okC at this
   simp only [Bool.and_eq_true, decide_eq_true_eq] at this
   omega
  have hgl := gC_len code
  have hul : (upL code.length u (code.length + 1)).length = code.length + 1 := upL_len _ _ _
  obtain ⟨num, hnum⟩ := T.num
  have numle : ∀ {x y}, Anc u code.length x y → num x ≤ num y := fun {x y} h => by
   induction h with
   | refl => exact Nat.le_refl _
   | up h1 h2 _ ih => have := hnum _ _ h1 h2; omega
  repeat (first | refine W.seq ?_ | refine W.block ?_ | refine W.skip ?_ | refine W.exit ?_ | refine W.region tab_ok 0 (by decide) (exec_run (by simp only [exa, beq_self_eq_true, ByteArray.size, Nat.reduceAdd, Nat.reduceLeDiff, Nat.reduceEqDiff, Nat.reduceMul, Int.reduceToNat, reduceIte, Int.reduceLE, Int.reduceNeg, hcp, List.map_cons, List.map_nil]; rfl)) ?_)
  refine W.regionK tab_ok 0 (by decide) ?_
  refine runk_split 1 (by simp only [exa, beq_self_eq_true, ByteArray.size, Nat.reduceAdd, Nat.reduceLeDiff, Nat.reduceEqDiff, Nat.reduceMul, Int.reduceToNat, reduceIte, Int.reduceLE, Int.reduceNeg, hcp, List.map_cons, List.map_nil]; rfl) ?_
  refine runk_call rfl rfl rfl rfl rfl (by simp) (cvs_cons cv_refl cvs_nil) (hw _) ?_
  refine runk_exec (by simp only [exa, beq_self_eq_true, ByteArray.size, Nat.reduceAdd, Nat.reduceLeDiff, Nat.reduceEqDiff, Nat.reduceMul, Int.reduceToNat, reduceIte, Int.reduceLE, Int.reduceNeg]; rfl) ?_
  repeat (first | refine W.seq ?_ | refine W.block ?_ | refine W.skip ?_ | refine W.exit ?_ | refine W.region tab_ok 0 (by decide) (exec_run (by simp only [exa, beq_self_eq_true, ByteArray.size, Nat.reduceAdd, Nat.reduceLeDiff, Nat.reduceEqDiff, Nat.reduceMul, Int.reduceToNat, reduceIte, Int.reduceLE, Int.reduceNeg, Int.reduceEq, decide_false, decide_true, not_true_eq_false, not_false_eq_true, bne_self_eq_false]; rfl)) ?_)
  refine W.cond rfl (fun h => absurd h (by simp)) (fun _ => ?_)
  repeat (first | refine W.seq ?_ | refine W.block ?_ | refine W.skip ?_ | refine W.exit ?_ | refine W.region tab_ok 0 (by decide) (exec_run (by simp only [exa, beq_self_eq_true, ByteArray.size, Nat.reduceAdd, Nat.reduceLeDiff, Nat.reduceEqDiff, Nat.reduceMul, Int.reduceToNat, reduceIte, Int.reduceLE, Int.reduceNeg, List.length_map]; rfl)) ?_)
  refine W.newM 7 50 42 2 rfl rfl ?_
  refine W.loop (ι := Nat × List (Nat × Nat)) (fun x => ⟨upd (upd (upd (upd (upd (upd (fun _ => .top) 1 (.ptr 1 0)) 5 (.c (.sl ((upL code.length u (code.length + 1)).map cZ)))) 7 (.own 50)) 20 (.c (.sl ((gC code).map cEd)))) 21 (.c (.int .i64 (gC code).length))) 22 (.c (.int .i64 x.1)),
   upd (upd Mem.nil 1 (some (.box 24 [.c (.str cls), .c (.str name), .c (.int .i64 params), .c (.int .i64 regs), .c (.sl (code.map cIns))]))) 50 (some (.mrow 42 2 (x.2.map cEd)))⟩)
   (fun x => x.1 ≤ (gC code).length ∧ (∀ i j, (i, j) ∈ x.2 ↔ HangT u code.length ((gC code).take x.1) i j) ∧ x.2.length ≤ x.1 * code.length) (fun x => (gC code).length - x.1) (0, []) ?start ⟨Nat.zero_le _, fun i j => ⟨fun h => (by cases h), fun ⟨b, p, hb, _⟩ => (by simp at hb)⟩, by simp⟩ ?round
  case start =>
   refine le_mk ?sle ?mle ?swf ?mwf (kept_not hkeep) (by rfl)
   case swf => repeat (first | exact swf_top _ | refine swf_upd ?_ (by simp [A.ids, upd_app]))
   case mwf => repeat (first | exact mwf_nil _ | refine mwf_upd ?_ (by simp [A.ids, O.ids, upd_app]))
   case mle => repeat (first | exact mle_nil _ | exact mle_refl _ | refine mle_upd ?_ (by first | rfl | (simp only [upd_app, killM_app, O.kill, A.kill, Nat.reduceEqDiff, reduceIte, Option.map_some, Option.map_none, List.map_cons, List.map_nil]; done)))
   case sle => repeat (first | exact sle_top _ | exact sle_refl _ | refine sle_upd ?_ (by first | rfl | (simp only [upd_app, killS_app, A.kill, entry_zero, entry_succ, Nat.reduceEqDiff, reduceIte]; done)))
  case round =>
   rintro ⟨e, Y⟩ ⟨hel, hO, hOl⟩
   simp only at hel hO hOl
   repeat (first | refine W.seq ?_ | refine W.block ?_ | refine W.skip ?_ | refine W.exit ?_ | refine W.region tab_ok 0 (by decide) (exec_run (by simp only [exa, beq_self_eq_true, ByteArray.size, Nat.reduceAdd, Nat.reduceLeDiff, Nat.reduceEqDiff, Nat.reduceMul, Int.reduceToNat, reduceIte, Int.reduceLE, Int.reduceNeg]; rfl)) ?_)
   refine W.cond rfl ?_ ?_
   ·intro hlt
    simp only [decide_eq_true_eq, Int.ofNat_lt] at hlt
    obtain ⟨⟨f, t⟩, hx⟩ : ∃ x, (gC code)[e]? = some x := ⟨_, List.getElem?_eq_getElem hlt⟩
    obtain ⟨hf, ht⟩ := gC_lt hok _ (List.mem_of_getElem? hx)
    simp only at hf ht
    obtain ⟨p, hp, hpn, hup⟩ := up_some hok T hf
    have hf0 : (0 : Int) ≤ (f : Int) := by omega
    have hf1 : f < code.length + 1 := by omega
    have hfat := upL_row hf1 hup
    have htop := edge_up T (fun i hi => gC_all i hi) (List.mem_of_getElem? hx) hf ht hp
    repeat (first | refine W.seq ?_ | refine W.block ?_ | refine W.skip ?_ | refine W.exit ?_ | refine W.region tab_ok 0 (by decide) (exec_run (by simp only [exa, beq_self_eq_true, ByteArray.size, Nat.reduceAdd, Nat.reduceLeDiff, Nat.reduceEqDiff, Nat.reduceMul, Int.reduceToNat, reduceIte, Int.reduceLE, Int.reduceNeg, at_map hx, cEd]; rfl)) ?_)
    refine W.loop (ι := Nat × List Nat) (fun x => ⟨upd (upd (upd (upd (upd (upd (upd (upd (fun _ => .top) 1 (.ptr 1 0)) 5 (.c (.sl ((upL code.length u (code.length + 1)).map cZ)))) 7 (.own 50)) 20 (.c (.sl ((gC code).map cEd)))) 21 (.c (.int .i64 (gC code).length))) 22 (.c (.int .i64 e))) 9 (.ptr 9 0)) 10 (.c (.int .i64 x.1)),
     upd (upd (upd Mem.nil 1 (some (.box 24 [.c (.str cls), .c (.str name), .c (.int .i64 params), .c (.int .i64 regs), .c (.sl (code.map cIns))]))) 50 (some (.mrow 42 2 ((Y ++ x.2.map fun j => (f, j)).map cEd)))) 9 (some (.box 42 [.c (.int .i64 f), .c (.int .i64 t)]))⟩)
     (fun x => Climb u code.length t p x.1 x.2) (fun x => num code.length - num x.1) (t, []) ?start2 (Climb.start htop) ?round2
    case start2 =>
     refine le_mk ?sle ?mle ?swf ?mwf (kept_not hkeep) (by rfl)
     case swf => repeat (first | exact swf_top _ | refine swf_upd ?_ (by simp [A.ids, upd_app, List.map_nil, List.append_nil]))
     case mwf => repeat (first | exact mwf_nil _ | refine mwf_upd ?_ (by simp [A.ids, O.ids, upd_app, List.map_nil, List.append_nil]))
     case mle => repeat (first | exact mle_nil _ | exact mle_refl _ | refine mle_upd ?_ (by first | rfl | (simp only [upd_app, killM_app, O.kill, A.kill, Nat.reduceEqDiff, reduceIte, Option.map_some, Option.map_none, List.map_cons, List.map_nil, List.map_nil, List.append_nil]; done)))
     case sle => repeat (first | exact sle_top _ | exact sle_refl _ | refine sle_upd ?_ (by first | rfl | (simp only [upd_app, killS_app, A.kill, entry_zero, entry_succ, Nat.reduceEqDiff, reduceIte, List.map_nil, List.append_nil]; done)))
    case round2 =>
     rintro ⟨k, cs⟩ hC
     simp only at hC
     have hkn := anc_le hok T ht hC.anc
     have hcl := nodup_le hC.nodup hC.lt
     have hOb : Y.length ≤ 6000 * 2000 := Nat.le_trans hOl (Nat.mul_le_mul (by omega) hn2)
     have fin : k = p ∨ k = code.length → (∀ i j, (i, j) ∈ Y ++ cs.map (fun j => (f, j)) ↔ HangT u code.length ((gC code).take (e + 1)) i j) ∧ (Y ++ cs.map (fun j => (f, j))).length ≤ (e + 1) * code.length := fun hk => by
      refine ⟨fun i j => ?_, by rw [List.length_append, List.length_map, Nat.succ_mul]; omega⟩
      rw [List.take_add_one, hx, Option.toList_some, hangT_snoc, List.mem_append, hO i j, List.mem_map]
      refine or_congr Iff.rfl ⟨?_, ?_⟩
      ·rintro ⟨j', hj, e⟩
       simp only [Prod.mk.injEq] at e
       obtain ⟨rfl, rfl⟩ := e
       have := (hC.done hk j').1 hj
       exact ⟨rfl, p, hp, this⟩
      ·rintro ⟨rfl, p', hp', h1⟩
       rw [hp] at hp'; cases hp'
       exact ⟨j, (hC.done hk j).2 h1, rfl⟩
     by_cases hkp : k = p
     ·have hkq := eq_true (show (k : Int) = (p : Int) by omega)
      repeat (first | refine W.seq ?_ | refine W.block ?_ | refine W.skip ?_ | refine W.exit ?_ | refine W.region tab_ok 0 (by decide) (exec_run (by simp only [exa, beq_self_eq_true, ByteArray.size, Nat.reduceAdd, Nat.reduceLeDiff, Nat.reduceEqDiff, Nat.reduceMul, Int.reduceToNat, reduceIte, Int.reduceLE, Int.reduceNeg, hfat, hf0, hf1, hul, Int.toNat_natCast, List.length_map, and_self, hkq, decide_true, not_true_eq_false, decide_false, at_map hfat, cZ, Bool.false_eq_true]; rfl)) ?_)
      refine W.cond rfl (fun h => absurd h (by simp)) (fun _ => ?_)
      repeat (first | refine W.seq ?_ | refine W.block ?_ | refine W.skip ?_ | refine W.exit ?_ | refine W.region tab_ok 0 (by decide) (exec_run (by simp only [exa, beq_self_eq_true, ByteArray.size, Nat.reduceAdd, Nat.reduceLeDiff, Nat.reduceEqDiff, Nat.reduceMul, Int.reduceToNat, reduceIte, Int.reduceLE, Int.reduceNeg]; rfl)) ?_)
      refine ⟨(e + 1, Y ++ cs.map fun j => (f, j)), ⟨hlt, fin (.inl hkp)⟩, by simp only; omega, ?_⟩
      refine le_mk ?sle ?mle ?swf ?mwf (kept_not hkeep) (by rfl)
      case swf => repeat (first | exact swf_top _ | refine swf_upd ?_ (by simp [A.ids, upd_app, wrap_succ (show e + 1 < 9223372036854775808 by omega)]))
      case mwf => repeat (first | exact mwf_nil _ | refine mwf_upd ?_ (by simp [A.ids, O.ids, upd_app, wrap_succ (show e + 1 < 9223372036854775808 by omega)]))
      case mle => repeat (first | exact mle_nil _ | exact mle_refl _ | refine mle_upd ?_ (by first | rfl | (simp only [upd_app, killM_app, O.kill, A.kill, Nat.reduceEqDiff, reduceIte, Option.map_some, Option.map_none, List.map_cons, List.map_nil, wrap_succ (show e + 1 < 9223372036854775808 by omega)]; done)))
      case sle => repeat (first | exact sle_top _ | exact sle_refl _ | refine sle_upd ?_ (by first | rfl | (simp only [upd_app, killS_app, A.kill, entry_zero, entry_succ, Nat.reduceEqDiff, reduceIte, wrap_succ (show e + 1 < 9223372036854775808 by omega)]; done)))
     ·have hkq := eq_false (show ¬ (k : Int) = (p : Int) by omega)
      by_cases hkl : k < code.length
      ·have hkl' := eq_true (show (k : Int) < (code.length : Int) by omega)
       obtain ⟨q, hq, hqn, huq⟩ := up_some hok T hkl
       have hk0 : (0 : Int) ≤ (k : Int) := by omega
       have hk1 : k < code.length + 1 := by omega
       have hkat := upL_row hk1 huq
       repeat (first | refine W.seq ?_ | refine W.block ?_ | refine W.skip ?_ | refine W.exit ?_ | refine W.region tab_ok 0 (by decide) (exec_run (by simp only [exa, beq_self_eq_true, ByteArray.size, Nat.reduceAdd, Nat.reduceLeDiff, Nat.reduceEqDiff, Nat.reduceMul, Int.reduceToNat, reduceIte, Int.reduceLE, Int.reduceNeg, hfat, hf0, hf1, hul, Int.toNat_natCast, List.length_map, and_self, hkq, hkl', decide_true, not_false_eq_true, decide_false, at_map hfat, cZ, Bool.false_eq_true]; rfl)) ?_)
       refine W.cond rfl (fun _ => ?_) (fun h => absurd h (by simp))
       (repeat (first | refine W.seq ?_ | refine W.block ?_ | refine W.skip ?_ | refine W.exit ?_))
       refine W.regionK tab_ok 0 (by decide) ?_
       refine runk_split 6 (by simp only [exa, beq_self_eq_true, ByteArray.size, Nat.reduceAdd, Nat.reduceLeDiff, Nat.reduceEqDiff, Nat.reduceMul, Int.reduceToNat, reduceIte, Int.reduceLE, Int.reduceNeg]; rfl) ?_
       refine runk_appendM tab_ok 50 rfl rfl rfl rfl rfl rfl (by simp only [exa, beq_self_eq_true, ByteArray.size, Nat.reduceAdd, Nat.reduceLeDiff, Nat.reduceEqDiff, Nat.reduceMul, Int.reduceToNat, reduceIte, Int.reduceLE, Int.reduceNeg]) (by simp only [exa, beq_self_eq_true, ByteArray.size, Nat.reduceAdd, Nat.reduceLeDiff, Nat.reduceEqDiff, Nat.reduceMul, Int.reduceToNat, reduceIte, Int.reduceLE, Int.reduceNeg]; rfl) (by first | rfl | (simp only [exa, beq_self_eq_true, ByteArray.size, Nat.reduceAdd, Nat.reduceLeDiff, Nat.reduceEqDiff, Nat.reduceMul, Int.reduceToNat, reduceIte, Int.reduceLE, Int.reduceNeg]; rfl)) rfl rfl rfl rfl (nokeep hkeep) (by intro z hz; simp at hz; subst hz; rfl) (by simp only [List.length_map, List.length_append, List.length_cons, List.length_nil]; omega) (by decide) ?_
       refine runk_exec (by simp only [exa, beq_self_eq_true, ByteArray.size, Nat.reduceAdd, Nat.reduceLeDiff, Nat.reduceEqDiff, Nat.reduceMul, Int.reduceToNat, reduceIte, Int.reduceLE, Int.reduceNeg]; rfl) ?_
       repeat (first | refine W.seq ?_ | refine W.block ?_ | refine W.skip ?_ | refine W.exit ?_ | refine W.region tab_ok 0 (by decide) (exec_run (by simp only [exa, beq_self_eq_true, ByteArray.size, Nat.reduceAdd, Nat.reduceLeDiff, Nat.reduceEqDiff, Nat.reduceMul, Int.reduceToNat, reduceIte, Int.reduceLE, Int.reduceNeg, hk0, hk1, hul, Int.toNat_natCast, List.length_map, and_self, at_map hkat, cZ]; rfl)) ?_)
       have hCn := hC.next hok T ht hkp hkl hq
       refine ⟨(q, cs ++ [k]), hCn, ?_, ?_⟩
       ·have h1 := hnum k q (by omega) hq
        have h2 := numle (anc_root T hqn)
        simp only
        omega
       refine le_mk ?sle ?mle ?swf ?mwf (kept_not hkeep) (by rfl)
       case swf => repeat (first | exact swf_top _ | refine swf_upd ?_ (by simp [A.ids, upd_app, List.map_append, List.map_cons, List.map_nil, cEd, List.append_assoc]))
       case mwf => repeat (first | exact mwf_nil _ | refine mwf_upd ?_ (by simp [A.ids, O.ids, upd_app, List.map_append, List.map_cons, List.map_nil, cEd, List.append_assoc]))
       case mle => repeat (first | exact mle_nil _ | exact mle_refl _ | refine mle_upd ?_ (by first | rfl | (simp only [upd_app, killM_app, O.kill, A.kill, Nat.reduceEqDiff, reduceIte, Option.map_some, Option.map_none, List.map_cons, List.map_nil, List.map_append, List.map_cons, List.map_nil, cEd, List.append_assoc]; done)))
       case sle => repeat (first | exact sle_top _ | exact sle_refl _ | refine sle_upd ?_ (by first | rfl | (simp only [upd_app, killS_app, A.kill, entry_zero, entry_succ, Nat.reduceEqDiff, reduceIte, List.map_append, List.map_cons, List.map_nil, cEd, List.append_assoc]; done)))
      ·have hkl' := eq_false (show ¬ (k : Int) < (code.length : Int) by omega)
       repeat (first | refine W.seq ?_ | refine W.block ?_ | refine W.skip ?_ | refine W.exit ?_ | refine W.region tab_ok 0 (by decide) (exec_run (by simp only [exa, beq_self_eq_true, ByteArray.size, Nat.reduceAdd, Nat.reduceLeDiff, Nat.reduceEqDiff, Nat.reduceMul, Int.reduceToNat, reduceIte, Int.reduceLE, Int.reduceNeg, hfat, hf0, hf1, hul, Int.toNat_natCast, List.length_map, and_self, hkq, hkl', decide_true, not_false_eq_true, decide_false, at_map hfat, cZ, Bool.false_eq_true]; rfl)) ?_)
       refine W.cond rfl (fun h => absurd h (by simp)) (fun _ => ?_)
       repeat (first | refine W.seq ?_ | refine W.block ?_ | refine W.skip ?_ | refine W.exit ?_ | refine W.region tab_ok 0 (by decide) (exec_run (by simp only [exa, beq_self_eq_true, ByteArray.size, Nat.reduceAdd, Nat.reduceLeDiff, Nat.reduceEqDiff, Nat.reduceMul, Int.reduceToNat, reduceIte, Int.reduceLE, Int.reduceNeg]; rfl)) ?_)
       refine ⟨(e + 1, Y ++ cs.map fun j => (f, j)), ⟨hlt, fin (.inr (by omega))⟩, by simp only; omega, ?_⟩
       refine le_mk ?sle ?mle ?swf ?mwf (kept_not hkeep) (by rfl)
       case swf => repeat (first | exact swf_top _ | refine swf_upd ?_ (by simp [A.ids, upd_app, wrap_succ (show e + 1 < 9223372036854775808 by omega)]))
       case mwf => repeat (first | exact mwf_nil _ | refine mwf_upd ?_ (by simp [A.ids, O.ids, upd_app, wrap_succ (show e + 1 < 9223372036854775808 by omega)]))
       case mle => repeat (first | exact mle_nil _ | exact mle_refl _ | refine mle_upd ?_ (by first | rfl | (simp only [upd_app, killM_app, O.kill, A.kill, Nat.reduceEqDiff, reduceIte, Option.map_some, Option.map_none, List.map_cons, List.map_nil, wrap_succ (show e + 1 < 9223372036854775808 by omega)]; done)))
       case sle => repeat (first | exact sle_top _ | exact sle_refl _ | refine sle_upd ?_ (by first | rfl | (simp only [upd_app, killS_app, A.kill, entry_zero, entry_succ, Nat.reduceEqDiff, reduceIte, wrap_succ (show e + 1 < 9223372036854775808 by omega)]; done)))
   ·intro hge
    simp only [decide_eq_false_iff_not, Int.ofNat_lt] at hge
    obtain rfl : e = (gC code).length := by omega
    rw [List.take_length] at hO
    have hOb : Y.length ≤ 6000 * 2000 := Nat.le_trans hOl (Nat.mul_le_mul (by omega) hn2)
    have hrow := hang_row hok T Y hO
    rw [← cE_cast Y]
    have nk50 : ¬ R.keep 50 := nokeep hkeep
    (repeat (first | refine W.seq ?_ | refine W.block ?_ | refine W.skip ?_ | refine W.exit ?_))
    refine W.regionK tab_ok 0 (by decide) ?_
    refine runk_split 1 (by simp only [exa, beq_self_eq_true, ByteArray.size, Nat.reduceAdd, Nat.reduceLeDiff, Nat.reduceEqDiff, Nat.reduceMul, Int.reduceToNat, reduceIte, Int.reduceLE, Int.reduceNeg]; rfl) ?_
    refine runk_callE (D := []) rfl rfl rfl rfl rfl (fun j hj => by simp at hj) (by simp) (cvs_cons cv_refl (cvs_cons cv_refl cvs_nil)) (sortE_ok (Y.map castE) (by rw [List.length_map]; omega) _ 50 rfl) ?_
    simp only [killL, putS, upd_upd]
    refine runk_exec (by simp only [exa, beq_self_eq_true, ByteArray.size, Nat.reduceAdd, Nat.reduceLeDiff, Nat.reduceEqDiff, Nat.reduceMul, Int.reduceToNat, reduceIte, Int.reduceLE, Int.reduceNeg]; rfl) ?_
    (repeat (first | refine W.seq ?_ | refine W.block ?_ | refine W.skip ?_ | refine W.exit ?_))
    refine W.regionK tab_ok 0 (by decide) ?_
    refine runk_split 1 (by simp only [exa, beq_self_eq_true, ByteArray.size, Nat.reduceAdd, Nat.reduceLeDiff, Nat.reduceEqDiff, Nat.reduceMul, Int.reduceToNat, reduceIte, Int.reduceLE, Int.reduceNeg]; rfl) ?_
    refine runk_callE (D := [50]) rfl rfl rfl rfl rfl (fun j hj => by simp at hj; subst hj; exact nk50) (by simp) (cvs_cons cv_refl cvs_nil) (compactE_ok (sortE (Y.map castE)) (by rw [sortE_len, List.length_map]; omega) _ 50 rfl) ?_
    simp only [killL, putS, upd_upd]
    rw [hrow, cE_cast]
    refine runk_exec (by simp only [exa, beq_self_eq_true, ByteArray.size, Nat.reduceAdd, Nat.reduceLeDiff, Nat.reduceEqDiff, Nat.reduceMul, Int.reduceToNat, reduceIte, Int.reduceLE, Int.reduceNeg]; rfl) ?_
    refine W.freeze 2 50 rfl (by simp only [exa, beq_self_eq_true, ByteArray.size, Nat.reduceAdd, Nat.reduceLeDiff, Nat.reduceEqDiff, Nat.reduceMul, Int.reduceToNat, reduceIte, Int.reduceLE, Int.reduceNeg]; rfl) nk50 ?_
    refine W.ret ⟨.inr rfl, by rfl, ?_⟩
    simp only [Tryd.f10, resA, resOne, toT, fin, exa, beq_self_eq_true, ByteArray.size, Nat.reduceAdd, Nat.reduceLeDiff, Nat.reduceEqDiff, Nat.reduceMul, Int.reduceToNat, reduceIte, Int.reduceLE, Int.reduceNeg]
end V
end Go.Proofs.YtnmfbaahabcocaaDoor
end
section
namespace Go.Proofs.YtnmfbaahabcocaaDoor
namespace V
open Go.RowKit G C17
open Classical in
noncomputable def abvB (u : Nat → Option Nat) (n b j : Nat) : Bool := decide (Anc u n b j)
theorem abvB_iff {u : Nat → Option Nat} {n b j : Nat} : abvB u n b j = true ↔ Anc u n b j := by simp [abvB]
theorem mark_step {E : List (Nat × Nat)} {n : Nat} {u : Nat → Option Nat} (T : Tree E n u) {b k q : Nat} {Q : Nat → Bool} (hk : k ≠ n) (hq : u k = some q) (hbk : Anc u n b k) (h : ∀ j, Q j = true ↔ Anc u n b j ∧ ¬ Anc u n k j) (j : Nat) : G.mark Q k j = true ↔ Anc u n b j ∧ ¬ Anc u n q j := by
 have hl := T.loop hk hq
 have hm : G.mark Q k j = true ↔ (Q j = true ∨ j = k) := by unfold G.mark; by_cases e : j = k <;> simp [e]
 rw [hm, h]
 constructor
 ·rintro (⟨h1, h2⟩ | rfl)
  ·exact ⟨h1, fun h3 => h2 (.up hk hq h3)⟩
  ·exact ⟨hbk, hl⟩
 ·rintro ⟨h1, h2⟩
  by_cases e : j = k
  ·exact .inr e
  ·refine .inl ⟨h1, fun h3 => ?_⟩
   obtain ⟨-, p, hp, h4⟩ := h3.next (fun q => e q.symm)
   rw [hq] at hp
   cases hp
   exact h2 h4
theorem mark_end {n : Nat} {u : Nat → Option Nat} {b : Nat} {Q : Nat → Bool} (hbk : Anc u n b n) (h : ∀ j, Q j = true ↔ Anc u n b j ∧ ¬ Anc u n n j) (j : Nat) : G.mark Q n j = true ↔ Anc u n b j := by
 have hm : G.mark Q n j = true ↔ (Q j = true ∨ j = n) := by unfold G.mark; by_cases e : j = n <;> simp [e]
 rw [hm, h]
 constructor
 ·rintro (⟨h1, -⟩ | rfl)
  ·exact h1
  ·exact hbk
 ·intro h1
  by_cases e : j = n
  ·exact .inr e
  ·exact .inl ⟨h1, fun h2 => e h2.root⟩
set_option maxHeartbeats 4000000 in
theorem behind_ok (code : List Ins) (u : Nat → Option Nat) (hok : okC code = true) (T : Tree (turnP (gC code)) code.length u) (b : Nat) (hb : b ≤ code.length) (m : Mem) : COk Tryd.prog 25 [.c (.sl ((upL code.length u (code.length + 1)).map cZ)), .c (.int .i64 b)] m (.c (.sl (rowB (code.length + 1) (abvB u code.length b)))) := by
 have hn2 : code.length ≤ 2000 := by
  have := hok
  unfold okC at this
  simp only [Bool.and_eq_true, decide_eq_true_eq] at this
  omega
 have hul : (upL code.length u (code.length + 1)).length = code.length + 1 := upL_len _ _ _
 obtain ⟨num, hnum⟩ := T.num
 have numle : ∀ {x y}, Anc u code.length x y → num x ≤ num y := fun {x y} h => by
  induction h with
  | refl => exact Nat.le_refl _
  | up h1 h2 _ ih => have := hnum _ _ h1 h2; omega
 obtain ⟨N, hN⟩ : ∃ N, code.length + 1 = N := ⟨_, rfl⟩
 rw [hN] at hul ⊢
 have hm1 : N * 1 ≤ 140737488355328 := by omega
 have hm1' : N ≤ 140737488355328 := by omega
 have hm2 : ((N : Nat) : Int) ≤ 9223372036854775807 := by omega
 have hn0 : (0 : Int) ≤ ((N : Nat) : Int) := by omega
 refine (ok_pure tab_ok Tryd.func25 (by kernel_rfl) rfl rfl (by rfl) (by rfl) (by rfl) (fun R hkeep => ?_) m)
 repeat (first | refine W.seq ?_ | refine W.block ?_ | refine W.skip ?_ | refine W.exit ?_ | refine W.region tab_ok 0 (by decide) (exec_run (by simp only [exa, beq_self_eq_true, ByteArray.size, Nat.reduceAdd, Nat.reduceLeDiff, Nat.reduceEqDiff, Nat.reduceMul, Int.reduceToNat, reduceIte, Int.reduceLE, Int.reduceNeg, List.length_map, hul, Int.toNat_natCast, hm1, hm1', hm2, hn0, and_self, Bool.false_eq_true, rep_rowB, Nat.mul_one]; rfl)) ?_)
 refine W.loop (ι := Int × (Nat → Bool)) (fun x => ⟨upd (upd (upd (fun _ => .top) 0 (.c (.sl ((upL code.length u (N)).map cZ)))) 1 (.c (.int .i64 x.1))) 5 (.own 8),
   upd Mem.nil 8 (some (.mrow 4 1 (rowB (N) x.2)))⟩)
  (fun x => (∃ k : Nat, x.1 = k ∧ Anc u code.length b k ∧ ∀ j, x.2 j = true ↔ Anc u code.length b j ∧ ¬ Anc u code.length k j) ∨ (x.1 = -1 ∧ ∀ j, x.2 j = true ↔ Anc u code.length b j))
  (fun x => if x.1 < 0 then 0 else num code.length - num x.1.toNat + 1) ((b : Int), fun _ => false) ?start (.inl ⟨b, rfl, .refl _, fun j => by simp⟩) ?round
 case start =>
  refine le_mk ?sle ?mle ?swf ?mwf (kept_not hkeep) (by rfl)
  case swf => repeat (first | exact swf_top _ | refine swf_upd ?_ (by simp [A.ids, upd_app]))
  case mwf => repeat (first | exact mwf_nil _ | refine mwf_upd ?_ (by simp [A.ids, O.ids, upd_app]))
  case mle => repeat (first | exact mle_nil _ | exact mle_refl _ | refine mle_upd ?_ (by first | rfl | (simp only [upd_app, killM_app, O.kill, A.kill, Nat.reduceEqDiff, reduceIte, Option.map_some, Option.map_none, List.map_cons, List.map_nil]; done)))
  case sle => repeat (first | exact sle_top _ | exact sle_refl _ | refine sle_upd ?_ (by first | rfl | (simp only [upd_app, killS_app, A.kill, entry_zero, entry_succ, Nat.reduceEqDiff, reduceIte]; done)))
 case round =>
  rintro ⟨i, Q⟩ hI
  simp only at hI
  rcases hI with ⟨k, rfl, hk, hQ⟩ | ⟨rfl, hQ⟩
  ·have hkn := anc_le hok T hb hk
   have hk0 : (0 : Int) ≤ (k : Int) := by omega
   have hk1 : k < N := by omega
   by_cases e : k = code.length
   ·subst e
    have hup : (upL code.length u (N))[code.length]? = some (-1) := by rw [upL_at _ _ hk1, upI_root]
    repeat (first | refine W.seq ?_ | refine W.block ?_ | refine W.skip ?_ | refine W.exit ?_ | refine W.region tab_ok 0 (by decide) (exec_run (by simp only [exa, beq_self_eq_true, ByteArray.size, Nat.reduceAdd, Nat.reduceLeDiff, Nat.reduceEqDiff, Nat.reduceMul, Int.reduceToNat, reduceIte, Int.reduceLE, Int.reduceNeg, hk0, decide_true]; rfl)) ?_)
    refine W.cond rfl (fun _ => ?_) (fun h => absurd h (by simp))
    repeat (first | refine W.seq ?_ | refine W.block ?_ | refine W.skip ?_ | refine W.exit ?_ | refine W.region tab_ok 0 (by decide) (exec_run (by simp only [exa, beq_self_eq_true, ByteArray.size, Nat.reduceAdd, Nat.reduceLeDiff, Nat.reduceEqDiff, Nat.reduceMul, Int.reduceToNat, reduceIte, Int.reduceLE, Int.reduceNeg, hk0, hk1, hul, rowB_len, rowB_at hk1, rowB_set, List.length_map, Int.toNat_natCast, and_self, at_map hup, cZ]; rfl)) ?_)
    refine ⟨(-1, G.mark Q code.length), .inr ⟨rfl, mark_end hk hQ⟩, ?_, ?_⟩
    ·simp only
     rw [if_pos (by omega), if_neg (by omega)]
     omega
    refine le_mk ?sle ?mle ?swf ?mwf (kept_not hkeep) (by rfl)
    case swf => repeat (first | exact swf_top _ | refine swf_upd ?_ (by simp [A.ids, upd_app]))
    case mwf => repeat (first | exact mwf_nil _ | refine mwf_upd ?_ (by simp [A.ids, O.ids, upd_app]))
    case mle => repeat (first | exact mle_nil _ | exact mle_refl _ | refine mle_upd ?_ (by first | rfl | (simp only [upd_app, killM_app, O.kill, A.kill, Nat.reduceEqDiff, reduceIte, Option.map_some, Option.map_none, List.map_cons, List.map_nil]; done)))
    case sle => repeat (first | exact sle_top _ | exact sle_refl _ | refine sle_upd ?_ (by first | rfl | (simp only [upd_app, killS_app, A.kill, entry_zero, entry_succ, Nat.reduceEqDiff, reduceIte]; done)))
   ·obtain ⟨q, hq, hqn, huq⟩ := up_some hok T (show k < code.length by omega)
    have hup := upL_row hk1 huq
    repeat (first | refine W.seq ?_ | refine W.block ?_ | refine W.skip ?_ | refine W.exit ?_ | refine W.region tab_ok 0 (by decide) (exec_run (by simp only [exa, beq_self_eq_true, ByteArray.size, Nat.reduceAdd, Nat.reduceLeDiff, Nat.reduceEqDiff, Nat.reduceMul, Int.reduceToNat, reduceIte, Int.reduceLE, Int.reduceNeg, hk0, decide_true]; rfl)) ?_)
    refine W.cond rfl (fun _ => ?_) (fun h => absurd h (by simp))
    repeat (first | refine W.seq ?_ | refine W.block ?_ | refine W.skip ?_ | refine W.exit ?_ | refine W.region tab_ok 0 (by decide) (exec_run (by simp only [exa, beq_self_eq_true, ByteArray.size, Nat.reduceAdd, Nat.reduceLeDiff, Nat.reduceEqDiff, Nat.reduceMul, Int.reduceToNat, reduceIte, Int.reduceLE, Int.reduceNeg, hk0, hk1, hul, rowB_len, rowB_at hk1, rowB_set, List.length_map, Int.toNat_natCast, and_self, at_map hup, cZ]; rfl)) ?_)
    refine ⟨((q : Int), G.mark Q k), .inl ⟨q, rfl, hk.trans (.up e hq (.refl _)), mark_step T e hq hk hQ⟩, ?_, ?_⟩
    ·have h1 := hnum k q e hq
     have h2 := numle (anc_root T hqn)
     simp only
     rw [if_neg (by omega), if_neg (by omega)]
     simp only [Int.toNat_natCast]
     omega
    refine le_mk ?sle ?mle ?swf ?mwf (kept_not hkeep) (by rfl)
    case swf => repeat (first | exact swf_top _ | refine swf_upd ?_ (by simp [A.ids, upd_app]))
    case mwf => repeat (first | exact mwf_nil _ | refine mwf_upd ?_ (by simp [A.ids, O.ids, upd_app]))
    case mle => repeat (first | exact mle_nil _ | exact mle_refl _ | refine mle_upd ?_ (by first | rfl | (simp only [upd_app, killM_app, O.kill, A.kill, Nat.reduceEqDiff, reduceIte, Option.map_some, Option.map_none, List.map_cons, List.map_nil]; done)))
    case sle => repeat (first | exact sle_top _ | exact sle_refl _ | refine sle_upd ?_ (by first | rfl | (simp only [upd_app, killS_app, A.kill, entry_zero, entry_succ, Nat.reduceEqDiff, reduceIte]; done)))
  ·repeat (first | refine W.seq ?_ | refine W.block ?_ | refine W.skip ?_ | refine W.exit ?_ | refine W.region tab_ok 0 (by decide) (exec_run (by simp only [exa, beq_self_eq_true, ByteArray.size, Nat.reduceAdd, Nat.reduceLeDiff, Nat.reduceEqDiff, Nat.reduceMul, Int.reduceToNat, reduceIte, Int.reduceLE, Int.reduceNeg, show ((0 : Int) ≤ -1) = False from by simp, decide_false]; rfl)) ?_)
   refine W.cond rfl (fun h => absurd h (by simp)) (fun _ => ?_)
   repeat (first | refine W.seq ?_ | refine W.block ?_ | refine W.skip ?_ | refine W.exit ?_ | refine W.region tab_ok 0 (by decide) (exec_run (by simp only [exa, beq_self_eq_true, ByteArray.size, Nat.reduceAdd, Nat.reduceLeDiff, Nat.reduceEqDiff, Nat.reduceMul, Int.reduceToNat, reduceIte, Int.reduceLE, Int.reduceNeg]; rfl)) ?_)
   refine W.freeze 4 8 rfl (by simp only [exa, beq_self_eq_true, ByteArray.size, Nat.reduceAdd, Nat.reduceLeDiff, Nat.reduceEqDiff, Nat.reduceMul, Int.reduceToNat, reduceIte, Int.reduceLE, Int.reduceNeg]; rfl) (nokeep hkeep) ?_
   have : Q = abvB u code.length b := by
    funext j
    rw [Bool.eq_iff_iff, hQ, abvB_iff]
   rw [this]
   refine W.ret ⟨.inr rfl, by rfl, ?_⟩
   simp only [Tryd.f25, resA, resOne, toT, fin, exa, beq_self_eq_true, ByteArray.size, Nat.reduceAdd, Nat.reduceLeDiff, Nat.reduceEqDiff, Nat.reduceMul, Int.reduceToNat, reduceIte, Int.reduceLE, Int.reduceNeg]
end V
end Go.Proofs.YtnmfbaahabcocaaDoor
end
section
namespace Go.Proofs.YtnmfbaahabcocaaDoor
namespace V
open Go.RowKit G C17
theorem okC_len {code : List Ins} (h : okC code = true) : 1 ≤ code.length ∧ code.length ≤ 2000 := by
 unfold okC at h
 simp only [Bool.and_eq_true, decide_eq_true_eq] at h
 exact ⟨h.1.1, h.1.2⟩
theorem swap_gC {code : List Ins} (hok : okC code = true) : ∀ e ∈ swapE (gC code), e.1 < code.length + 1 ∧ e.2 < code.length + 1 := fun e he => by
 have := gC_lt hok _ (mem_swap.1 (show (e.1, e.2) ∈ _ from he))
 simp only at this
 omega
set_option maxHeartbeats 4000000 in
theorem refPosts_ok (p : Prc) (hpl : p.code.length ≤ 1000000000000000) (u : Nat → Option Nat) (T : okC p.code = true → Tree (turnP (gC p.code)) p.code.length u) (m : Mem) : COk Tryd.prog 8 [.agg (cP p)] m (.tup (postsA p u)) := by
 have hw := fun m => refGraph_ok p hpl m
 obtain ⟨cls, name, params, regs, code⟩ := p
 simp only at T ⊢
 have hcp : cP ⟨cls, name, params, regs, code⟩ = [.str cls, .str name, .int .i64 params, .int .i64 regs, .sl (code.map cIns)] := rfl
 refine (ok_pure tab_ok Tryd.func8 (by kernel_rfl) rfl rfl (by rfl) (by rfl) (by rfl) (fun R hkeep => ?_) m)
 cases hok : okC code with
 | false =>
  have e1 : graphA ⟨cls, name, params, regs, code⟩ = [(false, [.sl []]), (false, [.bool false])] := by unfold graphA; simp only; rw [if_neg (by simp [hok])]
  have e2 : postsA ⟨cls, name, params, regs, code⟩ u = [(false, [.sl []]), (false, [.int .i64 110])] := by unfold postsA; simp only; rw [if_neg (by simp [hok])]
  rw [e1] at hw
  rw [e2]
  repeat (first | refine W.seq ?_ | refine W.block ?_ | refine W.skip ?_ | refine W.exit ?_ | refine W.region tab_ok 0 (by decide) (exec_run (by simp only [exa, beq_self_eq_true, ByteArray.size, Nat.reduceAdd, Nat.reduceLeDiff, Nat.reduceEqDiff, Nat.reduceMul, Int.reduceToNat, reduceIte, Int.reduceLE, Int.reduceNeg, hcp, List.map_cons, List.map_nil]; rfl)) ?_)
  refine W.regionK tab_ok 0 (by decide) ?_
  refine runk_split 1 (by simp only [exa, beq_self_eq_true, ByteArray.size, Nat.reduceAdd, Nat.reduceLeDiff, Nat.reduceEqDiff, Nat.reduceMul, Int.reduceToNat, reduceIte, Int.reduceLE, Int.reduceNeg, hcp, List.map_cons, List.map_nil]; rfl) ?_
  refine runk_call rfl rfl rfl rfl rfl (by simp) (cvs_cons cv_refl cvs_nil) (hw _) ?_
  refine runk_exec (by simp only [exa, beq_self_eq_true, ByteArray.size, Nat.reduceAdd, Nat.reduceLeDiff, Nat.reduceEqDiff, Nat.reduceMul, Int.reduceToNat, reduceIte, Int.reduceLE, Int.reduceNeg]; rfl) ?_
  repeat (first | refine W.seq ?_ | refine W.block ?_ | refine W.skip ?_ | refine W.exit ?_ | refine W.region tab_ok 0 (by decide) (exec_run (by simp only [exa, beq_self_eq_true, ByteArray.size, Nat.reduceAdd, Nat.reduceLeDiff, Nat.reduceEqDiff, Nat.reduceMul, Int.reduceToNat, reduceIte, Int.reduceLE, Int.reduceNeg, Bool.not_false]; rfl)) ?_)
  refine W.cond rfl (fun _ => ?_) (fun h => absurd h (by simp))
  repeat (first | refine W.seq ?_ | refine W.block ?_ | refine W.skip ?_ | refine W.exit ?_ | refine W.region tab_ok 0 (by decide) (exec_run (by simp only [exa, beq_self_eq_true, ByteArray.size, Nat.reduceAdd, Nat.reduceLeDiff, Nat.reduceEqDiff, Nat.reduceMul, Int.reduceToNat, reduceIte, Int.reduceLE, Int.reduceNeg]; rfl)) ?_)
  refine W.ret ⟨.inr rfl, by rfl, ?_⟩
  simp only [Tryd.f8, resA, resOne, toT, fin, exa, beq_self_eq_true, ByteArray.size, Nat.reduceAdd, Nat.reduceLeDiff, Nat.reduceEqDiff, Nat.reduceMul, Int.reduceToNat, reduceIte, Int.reduceLE, Int.reduceNeg]
 | true =>
  have e1 : graphA ⟨cls, name, params, regs, code⟩ = [(false, [.sl ((gC code).map cEd)]), (false, [.bool true])] := by unfold graphA; simp only; rw [if_pos hok]
  have e2 : postsA ⟨cls, name, params, regs, code⟩ u = [(false, [.sl ((upL code.length u code.length).map cZ)]), (false, [.int .i64 0])] := by unfold postsA; simp only; rw [if_pos hok]
  rw [e1] at hw
  rw [e2]
  replace T := T hok
  obtain ⟨hn1, hn2⟩ := okC_len hok
  have hgl := gC_len code
  have hE2 := swap_gC hok
  have hwn : IntKind.i64.wrap ((code.length : Int) + 1) = ((code.length + 1 : Nat) : Int) := wrap_succ (show code.length + 1 < 9223372036854775808 by omega)
  have hul : (upL code.length u (code.length + 1)).length = code.length + 1 := upL_len _ _ _
  have hle : code.length ≤ code.length + 1 := by omega
  have h0 : (0 : Int) ≤ (code.length : Int) := by omega
  repeat (first | refine W.seq ?_ | refine W.block ?_ | refine W.skip ?_ | refine W.exit ?_ | refine W.region tab_ok 0 (by decide) (exec_run (by simp only [exa, beq_self_eq_true, ByteArray.size, Nat.reduceAdd, Nat.reduceLeDiff, Nat.reduceEqDiff, Nat.reduceMul, Int.reduceToNat, reduceIte, Int.reduceLE, Int.reduceNeg, hcp, List.map_cons, List.map_nil]; rfl)) ?_)
  refine W.regionK tab_ok 0 (by decide) ?_
  refine runk_split 1 (by simp only [exa, beq_self_eq_true, ByteArray.size, Nat.reduceAdd, Nat.reduceLeDiff, Nat.reduceEqDiff, Nat.reduceMul, Int.reduceToNat, reduceIte, Int.reduceLE, Int.reduceNeg, hcp, List.map_cons, List.map_nil]; rfl) ?_
  refine runk_call rfl rfl rfl rfl rfl (by simp) (cvs_cons cv_refl cvs_nil) (hw _) ?_
  refine runk_exec (by simp only [exa, beq_self_eq_true, ByteArray.size, Nat.reduceAdd, Nat.reduceLeDiff, Nat.reduceEqDiff, Nat.reduceMul, Int.reduceToNat, reduceIte, Int.reduceLE, Int.reduceNeg]; rfl) ?_
  repeat (first | refine W.seq ?_ | refine W.block ?_ | refine W.skip ?_ | refine W.exit ?_ | refine W.region tab_ok 0 (by decide) (exec_run (by simp only [exa, beq_self_eq_true, ByteArray.size, Nat.reduceAdd, Nat.reduceLeDiff, Nat.reduceEqDiff, Nat.reduceMul, Int.reduceToNat, reduceIte, Int.reduceLE, Int.reduceNeg, Bool.not_true]; rfl)) ?_)
  refine W.cond rfl (fun h => absurd h (by simp)) (fun _ => ?_)
  repeat (first | refine W.seq ?_ | refine W.block ?_ | refine W.skip ?_ | refine W.exit ?_ | refine W.region tab_ok 0 (by decide) (exec_run (by simp only [exa, beq_self_eq_true, ByteArray.size, Nat.reduceAdd, Nat.reduceLeDiff, Nat.reduceEqDiff, Nat.reduceMul, Int.reduceToNat, reduceIte, Int.reduceLE, Int.reduceNeg, List.length_map]; rfl)) ?_)
  refine W.regionK tab_ok 0 (by decide) ?_
  refine runk_split 3 (by simp only [exa, beq_self_eq_true, ByteArray.size, Nat.reduceAdd, Nat.reduceLeDiff, Nat.reduceEqDiff, Nat.reduceMul, Int.reduceToNat, reduceIte, Int.reduceLE, Int.reduceNeg, hwn]; rfl) ?_
  refine runk_call rfl rfl rfl rfl rfl (by simp) (cvs_cons cv_refl cvs_nil) (refTurnN_ok (gC code) (by omega) _) ?_
  refine runk_split 1 (by simp only [exa, beq_self_eq_true, ByteArray.size, Nat.reduceAdd, Nat.reduceLeDiff, Nat.reduceEqDiff, Nat.reduceMul, Int.reduceToNat, reduceIte, Int.reduceLE, Int.reduceNeg, hwn]; rfl) ?_
  refine runk_call rfl rfl rfl rfl rfl (by simp) (cvs_cons cv_refl (cvs_cons cv_refl (cvs_cons cv_refl cvs_nil))) (refTree_ok (code.length + 1) code.length (swapE (gC code)) u T (by omega) (by omega) hE2 (by simp [swapE]; omega) _) ?_
  refine runk_exec (by simp only [exa, beq_self_eq_true, ByteArray.size, Nat.reduceAdd, Nat.reduceLeDiff, Nat.reduceEqDiff, Nat.reduceMul, Int.reduceToNat, reduceIte, Int.reduceLE, Int.reduceNeg, hwn]; rfl) ?_
  repeat (first | refine W.seq ?_ | refine W.block ?_ | refine W.skip ?_ | refine W.exit ?_ | refine W.region tab_ok 0 (by decide) (exec_run (by simp only [exa, beq_self_eq_true, ByteArray.size, Nat.reduceAdd, Nat.reduceLeDiff, Nat.reduceEqDiff, Nat.reduceMul, Int.reduceToNat, reduceIte, Int.reduceLE, Int.reduceNeg, List.length_map, hul, hle, h0, Int.toNat_natCast, and_self, Nat.zero_le, upL_take, List.drop_zero]; rfl)) ?_)
  refine W.ret ⟨.inr rfl, by rfl, ?_⟩
  simp only [Tryd.f8, resA, resOne, toT, fin, exa, beq_self_eq_true, ByteArray.size, Nat.reduceAdd, Nat.reduceLeDiff, Nat.reduceEqDiff, Nat.reduceMul, Int.reduceToNat, reduceIte, Int.reduceLE, Int.reduceNeg]
open Classical in
noncomputable def hangAt (E : List (Nat × Nat)) (u : Nat → Option Nat) (n i j : Nat) : List (Nat × Nat) := ((List.range j).filter fun j => decide (HangP E u n i j)).map fun j => (i, j)
noncomputable def hangUp (E : List (Nat × Nat)) (u : Nat → Option Nat) (n k : Nat) : List (Nat × Nat) := (List.range k).flatMap fun i => hangAt E u n i n
theorem hangUp_all (E : List (Nat × Nat)) (u : Nat → Option Nat) (n : Nat) : hangUp E u n n = hangL E u n := rfl
theorem hangUp_succ (E : List (Nat × Nat)) (u : Nat → Option Nat) (n k : Nat) : hangUp E u n (k + 1) = hangUp E u n k ++ hangAt E u n k n := by unfold hangUp; rw [List.range_succ, List.flatMap_append]; simp
theorem hangAt_len (E : List (Nat × Nat)) (u : Nat → Option Nat) (n i j : Nat) : (hangAt E u n i j).length ≤ j := by
 unfold hangAt
 rw [List.length_map]
 exact Nat.le_trans (List.length_filter_le _ _) (by simp)
theorem hangUp_len (E : List (Nat × Nat)) (u : Nat → Option Nat) (n : Nat) : ∀ k, (hangUp E u n k).length ≤ k * n
 | 0 => by simp [hangUp]
 | k + 1 => by
  rw [hangUp_succ, List.length_append, Nat.succ_mul]
  have := hangUp_len E u n k
  have := hangAt_len E u n k n
  omega
open Classical in
theorem hangAt_succ (E : List (Nat × Nat)) (u : Nat → Option Nat) (n i j : Nat) : hangAt E u n i (j + 1) = hangAt E u n i j ++ if HangP E u n i j then [(i, j)] else [] := by
 unfold hangAt
 rw [List.range_succ, List.filter_append, List.map_append]
 congr 1
 by_cases h : HangP E u n i j <;> simp [h]
theorem rowB_congr {N : Nat} {R R' : Nat → Bool} (h : ∀ i, i < N → R i = R' i) : rowB N R = rowB N R' := by
 unfold rowB
 exact List.map_congr_left fun i hi => by rw [h i (List.mem_range.1 hi)]
def orTo (Q A : Nat → Bool) (j i : Nat) : Bool := Q i || (decide (i < j) && A i)
theorem orTo_set {N j : Nat} {Q A : Nat → Bool} : (rowB N (orTo Q A j)).set j [.bool (Q j || A j)] = rowB N (orTo Q A (j + 1)) := by
 refine List.ext_getElem? fun i => ?_
 rw [List.getElem?_set, rowB_len]
 by_cases hi : i < N
 ·rw [rowB_at hi, rowB_at hi]
  by_cases e : j = i
  ·subst e; rw [if_pos rfl, if_pos hi]; simp [orTo]
  ·rw [if_neg e]
   have : decide (i < j + 1) = decide (i < j) := by rw [decide_eq_decide]; omega
   unfold orTo; rw [this]
 ·have h1 : ∀ R, (rowB N R)[i]? = none := fun R => by rw [List.getElem?_eq_none]; rw [rowB_len]; omega
  rw [h1, h1]
  split
  ·rw [if_neg (by omega)]
  ·rfl
noncomputable def toB (u : Nat → Option Nat) (n : Nat) (S : List Nat) (j : Nat) : Bool := S.any fun s => abvB u n s j
set_option maxHeartbeats 8000000 in
theorem refHangs_ok (p : Prc) (hpl : p.code.length ≤ 1000000000000000) (u : Nat → Option Nat) (T : okC p.code = true → Tree (turnP (gC p.code)) p.code.length u) (m : Mem) : COk Tryd.prog 11 [.agg (cP p)] m (.tup (hangsA p u)) := by
 have hw := fun m => refGraph_ok p hpl m
 obtain ⟨cls, name, params, regs, code⟩ := p
 simp only at T ⊢
 have hcp : cP ⟨cls, name, params, regs, code⟩ = [.str cls, .str name, .int .i64 params, .int .i64 regs, .sl (code.map cIns)] := rfl
 refine (ok_pure tab_ok Tryd.func11 (by kernel_rfl) rfl rfl (by rfl) (by rfl) (by rfl) (fun R hkeep => ?_) m)
 cases hok : okC code with
 | false =>
  have e1 : graphA ⟨cls, name, params, regs, code⟩ = [(false, [.sl []]), (false, [.bool false])] := by unfold graphA; simp only; rw [if_neg (by simp [hok])]
  have e2 : hangsA ⟨cls, name, params, regs, code⟩ u = [(false, [.sl []]), (false, [.int .i64 110])] := by unfold hangsA; simp only; rw [if_neg (by simp [hok])]
  rw [e1] at hw
  rw [e2]
  repeat (first | refine W.seq ?_ | refine W.block ?_ | refine W.skip ?_ | refine W.exit ?_ | refine W.region tab_ok 0 (by decide) (exec_run (by simp only [exa, beq_self_eq_true, ByteArray.size, Nat.reduceAdd, Nat.reduceLeDiff, Nat.reduceEqDiff, Nat.reduceMul, Int.reduceToNat, reduceIte, Int.reduceLE, Int.reduceNeg, hcp, List.map_cons, List.map_nil]; rfl)) ?_)
  refine W.regionK tab_ok 0 (by decide) ?_
  refine runk_split 1 (by simp only [exa, beq_self_eq_true, ByteArray.size, Nat.reduceAdd, Nat.reduceLeDiff, Nat.reduceEqDiff, Nat.reduceMul, Int.reduceToNat, reduceIte, Int.reduceLE, Int.reduceNeg, hcp, List.map_cons, List.map_nil]; rfl) ?_
  refine runk_call rfl rfl rfl rfl rfl (by simp) (cvs_cons cv_refl cvs_nil) (hw _) ?_
  refine runk_exec (by simp only [exa, beq_self_eq_true, ByteArray.size, Nat.reduceAdd, Nat.reduceLeDiff, Nat.reduceEqDiff, Nat.reduceMul, Int.reduceToNat, reduceIte, Int.reduceLE, Int.reduceNeg]; rfl) ?_
  repeat (first | refine W.seq ?_ | refine W.block ?_ | refine W.skip ?_ | refine W.exit ?_ | refine W.region tab_ok 0 (by decide) (exec_run (by simp only [exa, beq_self_eq_true, ByteArray.size, Nat.reduceAdd, Nat.reduceLeDiff, Nat.reduceEqDiff, Nat.reduceMul, Int.reduceToNat, reduceIte, Int.reduceLE, Int.reduceNeg, Bool.not_false]; rfl)) ?_)
  refine W.cond rfl (fun _ => ?_) (fun h => absurd h (by simp))
  repeat (first | refine W.seq ?_ | refine W.block ?_ | refine W.skip ?_ | refine W.exit ?_ | refine W.region tab_ok 0 (by decide) (exec_run (by simp only [exa, beq_self_eq_true, ByteArray.size, Nat.reduceAdd, Nat.reduceLeDiff, Nat.reduceEqDiff, Nat.reduceMul, Int.reduceToNat, reduceIte, Int.reduceLE, Int.reduceNeg]; rfl)) ?_)
  refine W.ret ⟨.inr rfl, by rfl, ?_⟩
  simp only [Tryd.f11, resA, resOne, toT, fin, exa, beq_self_eq_true, ByteArray.size, Nat.reduceAdd, Nat.reduceLeDiff, Nat.reduceEqDiff, Nat.reduceMul, Int.reduceToNat, reduceIte, Int.reduceLE, Int.reduceNeg]
 | true =>
  have e1 : graphA ⟨cls, name, params, regs, code⟩ = [(false, [.sl ((gC code).map cEd)]), (false, [.bool true])] := by unfold graphA; simp only; rw [if_pos hok]
  have e2 : hangsA ⟨cls, name, params, regs, code⟩ u = [(false, [.sl ((hangL (gC code) u code.length).map cEd)]), (false, [.int .i64 0])] := by unfold hangsA; simp only; rw [if_pos hok]
  rw [e1] at hw
  rw [e2]
  replace T := T hok
  obtain ⟨hn1, hn2⟩ := okC_len hok
  have hgl := gC_len code
  have hgt := gC_lt hok
  have hE2 := swap_gC hok
  have hwn : IntKind.i64.wrap ((code.length : Int) + 1) = ((code.length + 1 : Nat) : Int) := wrap_succ (show code.length + 1 < 9223372036854775808 by omega)
  have hul : (upL code.length u (code.length + 1)).length = code.length + 1 := upL_len _ _ _
  have hb := fun b hb m => behind_ok code u hok T b hb m
  obtain ⟨n, hn⟩ : ∃ n, code.length = n := ⟨_, rfl⟩
  have htree := fun m => refTree_ok (code.length + 1) code.length (swapE (gC code)) u T (by omega) (by omega) hE2 (by simp [swapE]; omega) m
  repeat (first | refine W.seq ?_ | refine W.block ?_ | refine W.skip ?_ | refine W.exit ?_ | refine W.region tab_ok 0 (by decide) (exec_run (by simp only [exa, beq_self_eq_true, ByteArray.size, Nat.reduceAdd, Nat.reduceLeDiff, Nat.reduceEqDiff, Nat.reduceMul, Int.reduceToNat, reduceIte, Int.reduceLE, Int.reduceNeg, hcp, List.map_cons, List.map_nil]; rfl)) ?_)
  refine W.regionK tab_ok 0 (by decide) ?_
  refine runk_split 1 (by simp only [exa, beq_self_eq_true, ByteArray.size, Nat.reduceAdd, Nat.reduceLeDiff, Nat.reduceEqDiff, Nat.reduceMul, Int.reduceToNat, reduceIte, Int.reduceLE, Int.reduceNeg, hcp, List.map_cons, List.map_nil]; rfl) ?_
  refine runk_call rfl rfl rfl rfl rfl (by simp) (cvs_cons cv_refl cvs_nil) (hw _) ?_
  refine runk_exec (by simp only [exa, beq_self_eq_true, ByteArray.size, Nat.reduceAdd, Nat.reduceLeDiff, Nat.reduceEqDiff, Nat.reduceMul, Int.reduceToNat, reduceIte, Int.reduceLE, Int.reduceNeg]; rfl) ?_
  repeat (first | refine W.seq ?_ | refine W.block ?_ | refine W.skip ?_ | refine W.exit ?_ | refine W.region tab_ok 0 (by decide) (exec_run (by simp only [exa, beq_self_eq_true, ByteArray.size, Nat.reduceAdd, Nat.reduceLeDiff, Nat.reduceEqDiff, Nat.reduceMul, Int.reduceToNat, reduceIte, Int.reduceLE, Int.reduceNeg, Bool.not_true]; rfl)) ?_)
  refine W.cond rfl (fun h => absurd h (by simp)) (fun _ => ?_)
  repeat (first | refine W.seq ?_ | refine W.block ?_ | refine W.skip ?_ | refine W.exit ?_ | refine W.region tab_ok 0 (by decide) (exec_run (by simp only [exa, beq_self_eq_true, ByteArray.size, Nat.reduceAdd, Nat.reduceLeDiff, Nat.reduceEqDiff, Nat.reduceMul, Int.reduceToNat, reduceIte, Int.reduceLE, Int.reduceNeg, List.length_map]; rfl)) ?_)
  refine W.regionK tab_ok 0 (by decide) ?_
  refine runk_split 3 (by simp only [exa, beq_self_eq_true, ByteArray.size, Nat.reduceAdd, Nat.reduceLeDiff, Nat.reduceEqDiff, Nat.reduceMul, Int.reduceToNat, reduceIte, Int.reduceLE, Int.reduceNeg, hwn]; rfl) ?_
  refine runk_call rfl rfl rfl rfl rfl (by simp) (cvs_cons cv_refl cvs_nil) (refTurnN_ok (gC code) (by omega) _) ?_
  refine runk_split 1 (by simp only [exa, beq_self_eq_true, ByteArray.size, Nat.reduceAdd, Nat.reduceLeDiff, Nat.reduceEqDiff, Nat.reduceMul, Int.reduceToNat, reduceIte, Int.reduceLE, Int.reduceNeg, hwn]; rfl) ?_
  refine runk_call rfl rfl rfl rfl rfl (by simp) (cvs_cons cv_refl (cvs_cons cv_refl (cvs_cons cv_refl cvs_nil))) (htree _) ?_
  refine runk_exec (by simp only [exa, beq_self_eq_true, ByteArray.size, Nat.reduceAdd, Nat.reduceLeDiff, Nat.reduceEqDiff, Nat.reduceMul, Int.reduceToNat, reduceIte, Int.reduceLE, Int.reduceNeg, hwn]; rfl) ?_
  have hn1' : n ≤ 2000 := by omega
  have hTn : Tree (turnP (gC code)) n u := by rw [← hn]; exact T
  have hgt' : ∀ e ∈ gC code, e.1 < n ∧ e.2 ≤ n := by rw [← hn]; exact hgt
  rw [hn] at hul hb hgl ⊢
  have hm1 : n * 24 ≤ 140737488355328 := by omega
  have hm2 : (n : Int) ≤ 9223372036854775807 := by omega
  have hn0 : (0 : Int) ≤ (n : Int) := by omega
  repeat (first | refine W.seq ?_ | refine W.block ?_ | refine W.skip ?_ | refine W.exit ?_ | refine W.region tab_ok 0 (by decide) (exec_run (by simp only [exa, beq_self_eq_true, ByteArray.size, Nat.reduceAdd, Nat.reduceLeDiff, Nat.reduceEqDiff, Nat.reduceMul, Int.reduceToNat, reduceIte, Int.reduceLE, Int.reduceNeg, Int.toNat_natCast, hm1, hm2, hn0, and_self, List.length_map]; rfl)) ?_)
  refine W.famStart false 41 1000 n 26 3 1 rfl (by decide) (fun i _ => ?_) ?_
  ·simp only [upd_app, mem_nil_app, Nat.reduceEqDiff, reduceIte]
  obtain ⟨E, hE⟩ : ∃ E, E = gC code := ⟨_, rfl⟩
  rw [← hE] at hgt' hgl ⊢
  refine W.loop (ι := Nat) (fun k => ⟨upd (upd (upd (upd (upd (upd (fun _ => .top) 6 (.c (.int .i64 n))) 7 (.c (.sl ((upL n u (n + 1)).map cZ)))) 9 (.own 41)) 42 (.c (.sl (E.map cEd)))) 43 (.c (.int .i64 E.length))) 44 (.c (.int .i64 k)),
   upd (famM 1000 n (fun i => rowO false 3 1 (adjL (E.take k) i)) Mem.nil) 41 (some (.rows 26 (tabR 1000 n)))⟩) (fun k => k ≤ E.length) (fun k => E.length - k) 0 ?start (Nat.zero_le _) ?round
  case start =>
   refine le_mk ?sle ?_ ?swf ?mwf (kept_not hkeep) (by rfl)
   case swf => repeat (first | exact swf_top _ | refine swf_upd ?_ (by simp [A.ids, upd_app]))
   case sle => repeat (first | exact sle_top _ | exact sle_refl _ | refine sle_upd ?_ (by first | rfl | (simp only [upd_app, killS_app, A.kill, entry_zero, entry_succ, Nat.reduceEqDiff, reduceIte]; done)))
   case mwf =>
    refine mwf_upd (mwf_fam (mwf_nil _) (fun i hi => by first | exact rowO_ids | rfl)) (fun j hj => ?_)
    obtain ⟨q, hq, rfl⟩ := tabR_ids.1 hj
    simp only [upd_app, Nat.reduceEqDiff, reduceIte, fam_at hq, Option.isSome_some]
   refine mle_upd (mle_fam fun i hi => ?_) (by simp only [exa, beq_self_eq_true, ByteArray.size, Nat.reduceAdd, Nat.reduceLeDiff, Nat.reduceEqDiff, Nat.reduceMul, Int.reduceToNat, reduceIte, Int.reduceLE, Int.reduceNeg]; done)
   simp only [exa, beq_self_eq_true, ByteArray.size, Nat.reduceAdd, Nat.reduceLeDiff, Nat.reduceEqDiff, Nat.reduceMul, Int.reduceToNat, reduceIte, Int.reduceLE, Int.reduceNeg, fam_at hi, adjL]
   rfl
  case round =>
   intro k hk
   repeat (first | refine W.seq ?_ | refine W.block ?_ | refine W.skip ?_ | refine W.exit ?_ | refine W.region tab_ok 0 (by decide) (exec_run (by simp only [exa, beq_self_eq_true, ByteArray.size, Nat.reduceAdd, Nat.reduceLeDiff, Nat.reduceEqDiff, Nat.reduceMul, Int.reduceToNat, reduceIte, Int.reduceLE, Int.reduceNeg]; rfl)) ?_)
   refine W.cond rfl ?_ ?_
   ·intro hlt
    simp only [decide_eq_true_eq, Int.ofNat_lt] at hlt
    obtain ⟨⟨f, t⟩, hx⟩ : ∃ x, E[k]? = some x := ⟨_, List.getElem?_eq_getElem hlt⟩
    obtain ⟨hf, ht⟩ := hgt' _ (List.mem_of_getElem? hx)
    replace hf : f < n := hf
    replace ht : t ≤ n := ht
    have hf0 : (0 : Int) ≤ (f : Int) := by omega
    repeat (first | refine W.seq ?_ | refine W.block ?_ | refine W.skip ?_ | refine W.exit ?_ | refine W.region tab_ok 0 (by decide) (exec_run (by simp only [exa, beq_self_eq_true, ByteArray.size, Nat.reduceAdd, Nat.reduceLeDiff, Nat.reduceEqDiff, Nat.reduceMul, Int.reduceToNat, reduceIte, Int.reduceLE, Int.reduceNeg, at_map hx, cEd]; rfl)) ?_)
    refine W.regionPC tab_ok 0 follows_mixed (by decide) ⟨upd (upd (upd (upd (upd (upd (fun _ => .top) 6 (.c (.int .i64 n))) 7 (.c (.sl ((upL n u (n + 1)).map cZ)))) 9 (.own 41)) 42 (.c (.sl (E.map cEd)))) 43 (.c (.int .i64 E.length))) 44 (.c (.int .i64 k)),
     upd (famM 1000 n (fun i => rowO false 3 1 (adjL (E.take (k + 1)) i)) Mem.nil) 41 (some (.rows 26 (tabR 1000 n)))⟩ ?_ ?_
    ·refine first_exec 3 (by decide +kernel) ⟨_, by simp only [exec1, exa, beq_self_eq_true, ByteArray.size, Nat.reduceAdd, Nat.reduceLeDiff, Nat.reduceEqDiff, Nat.reduceMul, Int.reduceToNat, reduceIte, Int.reduceLE, Int.reduceNeg, hf0, hf, Int.toNat_natCast, tabR_len, and_self]; rfl, ?_⟩
     refine first_exec 4 (by decide +kernel) ⟨_, by simp only [exec1, exa, beq_self_eq_true, ByteArray.size, Nat.reduceAdd, Nat.reduceLeDiff, Nat.reduceEqDiff, Nat.reduceMul, Int.reduceToNat, reduceIte, Int.reduceLE, Int.reduceNeg, hf0, hf, Int.toNat_natCast, tabR_len, and_self]; rfl, ?_⟩
     refine first_exec 5 (by decide +kernel) ⟨_, by simp only [exec1, exa, beq_self_eq_true, ByteArray.size, Nat.reduceAdd, Nat.reduceLeDiff, Nat.reduceEqDiff, Nat.reduceMul, Int.reduceToNat, reduceIte, Int.reduceLE, Int.reduceNeg, hf0, hf, Int.toNat_natCast, tabR_len, and_self]; rfl, ?_⟩
     refine first_exec 6 (by decide +kernel) ⟨_, by simp only [exec1, exa, beq_self_eq_true, ByteArray.size, Nat.reduceAdd, Nat.reduceLeDiff, Nat.reduceEqDiff, Nat.reduceMul, Int.reduceToNat, reduceIte, Int.reduceLE, Int.reduceNeg, hf0, hf, Int.toNat_natCast, tabR_len, and_self]; rfl, ?_⟩
     refine first_exec 7 (by decide +kernel) ⟨_, by simp only [exec1, exa, beq_self_eq_true, ByteArray.size, Nat.reduceAdd, Nat.reduceLeDiff, Nat.reduceEqDiff, Nat.reduceMul, Int.reduceToNat, reduceIte, Int.reduceLE, Int.reduceNeg, hf0, hf, Int.toNat_natCast, tabR_len, and_self, tabR_at hf]; rfl, ?_⟩
     refine first_exec 8 (by decide +kernel) ⟨_, by simp only [exec1, exa, beq_self_eq_true, ByteArray.size, Nat.reduceAdd, Nat.reduceLeDiff, Nat.reduceEqDiff, Nat.reduceMul, Int.reduceToNat, reduceIte, Int.reduceLE, Int.reduceNeg, hf0, hf, Int.toNat_natCast, tabR_len, and_self]; rfl, ?_⟩
     refine first_exec 9 (by decide +kernel) ⟨_, by simp only [exec1, exa, beq_self_eq_true, ByteArray.size, Nat.reduceAdd, Nat.reduceLeDiff, Nat.reduceEqDiff, Nat.reduceMul, Int.reduceToNat, reduceIte, Int.reduceLE, Int.reduceNeg, hf0, hf, Int.toNat_natCast, tabR_len, and_self]; rfl, ?_⟩
     refine first_exec 10 (by decide +kernel) ⟨_, by simp only [exec1, exa, beq_self_eq_true, ByteArray.size, Nat.reduceAdd, Nat.reduceLeDiff, Nat.reduceEqDiff, Nat.reduceMul, Int.reduceToNat, reduceIte, Int.reduceLE, Int.reduceNeg, hf0, hf, Int.toNat_natCast, tabR_len, and_self]; rfl, ?_⟩
     repeat' (first
      | exact trivial
      | refine runsw_end (by decide +kernel) ?_
      | refine first_exec 12 (by decide +kernel) ⟨_, by simp only [exec1, exa, beq_self_eq_true, ByteArray.size, Nat.reduceAdd, Nat.reduceLeDiff, Nat.reduceEqDiff, Nat.reduceMul, Int.reduceToNat, reduceIte, Int.reduceLE, Int.reduceNeg, stO, hf0, hf, Int.toNat_natCast, tabR_len, and_self, tabR_at hf, fam_at hf, List.length_map, tabR_set hf, Option.map_some, Option.map_none]; rfl, ?_⟩
      | refine first_exec 13 (by decide +kernel) ⟨_, by simp only [exec1, exa, beq_self_eq_true, ByteArray.size, Nat.reduceAdd, Nat.reduceLeDiff, Nat.reduceEqDiff, Nat.reduceMul, Int.reduceToNat, reduceIte, Int.reduceLE, Int.reduceNeg, stO, hf0, hf, Int.toNat_natCast, tabR_len, and_self, tabR_at hf, fam_at hf, List.length_map, tabR_set hf, Option.map_some, Option.map_none]; rfl, ?_⟩
      | refine first_exec 0 (by decide +kernel) ⟨_, by simp only [exec1, exa, beq_self_eq_true, ByteArray.size, Nat.reduceAdd, Nat.reduceLeDiff, Nat.reduceEqDiff, Nat.reduceMul, Int.reduceToNat, reduceIte, Int.reduceLE, Int.reduceNeg, stO, hf0, hf, Int.toNat_natCast, tabR_len, and_self, tabR_at hf, fam_at hf, List.length_map, tabR_set hf, Option.map_some, Option.map_none]; rfl, ?_⟩
      | refine first_exec 1 (by decide +kernel) ⟨_, by simp only [exec1, exa, beq_self_eq_true, ByteArray.size, Nat.reduceAdd, Nat.reduceLeDiff, Nat.reduceEqDiff, Nat.reduceMul, Int.reduceToNat, reduceIte, Int.reduceLE, Int.reduceNeg, stO, hf0, hf, Int.toNat_natCast, tabR_len, and_self, tabR_at hf, fam_at hf, List.length_map, tabR_set hf, Option.map_some, Option.map_none]; rfl, ?_⟩
      | refine first_exec 2 (by decide +kernel) ⟨_, by simp only [exec1, exa, beq_self_eq_true, ByteArray.size, Nat.reduceAdd, Nat.reduceLeDiff, Nat.reduceEqDiff, Nat.reduceMul, Int.reduceToNat, reduceIte, Int.reduceLE, Int.reduceNeg, stO, hf0, hf, Int.toNat_natCast, tabR_len, and_self, tabR_at hf, fam_at hf, List.length_map, tabR_set hf, Option.map_some, Option.map_none]; rfl, ?_⟩
      | refine runs_node [0, 1, 11] (by decide +kernel) (by decide) ?_
      | refine runs_node [1, 11] (by decide +kernel) (by decide) ?_
      | refine runs_node [0, 2, 11] (by decide +kernel) (by decide) ?_
      | refine runs_node [2, 11] (by decide +kernel) (by decide) ?_
      | refine runs_node [0, 11] (by decide +kernel) (by decide) ?_
      | refine runs_node [11] (by decide +kernel) (by decide) ?_
      | refine step_exec ⟨_, by simp only [exec1, exa, beq_self_eq_true, ByteArray.size, Nat.reduceAdd, Nat.reduceLeDiff, Nat.reduceEqDiff, Nat.reduceMul, Int.reduceToNat, reduceIte, Int.reduceLE, Int.reduceNeg, stO, hf0, hf, Int.toNat_natCast, tabR_len, and_self, tabR_at hf, fam_at hf, List.length_map, tabR_set hf, Option.map_some, Option.map_none]; rfl, ?_⟩ ?_
      | refine step_append tab_ok rfl (f + 1000) false rfl rfl rfl rfl rfl rfl (by simp only [exa, beq_self_eq_true, ByteArray.size, Nat.reduceAdd, Nat.reduceLeDiff, Nat.reduceEqDiff, Nat.reduceMul, Int.reduceToNat, reduceIte, Int.reduceLE, Int.reduceNeg, stO, hf0, hf, Int.toNat_natCast, tabR_len, and_self, tabR_at hf, fam_at hf, List.length_map, tabR_set hf, Option.map_some, Option.map_none]; done) (by simp only [exa, beq_self_eq_true, ByteArray.size, Nat.reduceAdd, Nat.reduceLeDiff, Nat.reduceEqDiff, Nat.reduceMul, Int.reduceToNat, reduceIte, Int.reduceLE, Int.reduceNeg, stO, hf0, hf, Int.toNat_natCast, tabR_len, and_self, tabR_at hf, fam_at hf, List.length_map, tabR_set hf, Option.map_some, Option.map_none]; rfl) (by simp only [exa, beq_self_eq_true, ByteArray.size, Nat.reduceAdd, Nat.reduceLeDiff, Nat.reduceEqDiff, Nat.reduceMul, Int.reduceToNat, reduceIte, Int.reduceLE, Int.reduceNeg, stO, hf0, hf, Int.toNat_natCast, tabR_len, and_self, tabR_at hf, fam_at hf, List.length_map, tabR_set hf, Option.map_some, Option.map_none]; rfl) rfl rfl rfl rfl (nokeep hkeep) (by simp) (by have := adjL_len E k f; simp only [List.length_cons, List.length_nil]; omega) (by decide) ?_ ?_)
     all_goals
      refine le_mk ?sle ?_ ?swf ?mwf (kept_not hkeep) (by rfl)
      case swf => repeat (first | exact swf_top _ | refine swf_upd ?_ (by simp [A.ids, upd_app]))
      case sle => repeat (first | exact sle_top _ | exact sle_refl _ | refine sle_upd ?_ (by first | rfl | (simp only [upd_app, killS_app, A.kill, entry_zero, entry_succ, Nat.reduceEqDiff, reduceIte, tabR_set hf, Option.map_some, Option.map_none]; done)))
      case mwf =>
       refine mwf_upd (mwf_fam (mwf_nil _) (fun i hi => by first | exact rowO_ids | rfl)) (fun j hj => ?_)
       obtain ⟨q, hq, rfl⟩ := tabR_ids.1 hj
       simp only [upd_app, Nat.reduceEqDiff, reduceIte, fam_at hq, Option.isSome_some]
      refine mle_upd (mle_fam fun i hi => ?_) (by simp only [exa, beq_self_eq_true, ByteArray.size, Nat.reduceAdd, Nat.reduceLeDiff, Nat.reduceEqDiff, Nat.reduceMul, Int.reduceToNat, reduceIte, Int.reduceLE, Int.reduceNeg, tabR_set hf, Option.map_some, Option.map_none]; done)
      rw [adjL_next hx]
      by_cases e : i = f
      ·subst e
       simp only [exa, beq_self_eq_true, ByteArray.size, Nat.reduceAdd, Nat.reduceLeDiff, Nat.reduceEqDiff, Nat.reduceMul, Int.reduceToNat, reduceIte, Int.reduceLE, Int.reduceNeg, fam_at hi, Option.map_some, Option.map_none]
       rfl
      ·simp only [exa, beq_self_eq_true, ByteArray.size, Nat.reduceAdd, Nat.reduceLeDiff, Nat.reduceEqDiff, Nat.reduceMul, Int.reduceToNat, reduceIte, Int.reduceLE, Int.reduceNeg, fam_at hi, e, Nat.add_right_cancel_iff, Option.map_some, kill_rowO]
       rfl
    ·intro st' hle
     refine W.weaken hle ?_
     repeat (first | refine W.seq ?_ | refine W.block ?_ | refine W.skip ?_ | refine W.exit ?_ | refine W.region tab_ok 0 (by decide) (exec_run (by simp only [exa, beq_self_eq_true, ByteArray.size, Nat.reduceAdd, Nat.reduceLeDiff, Nat.reduceEqDiff, Nat.reduceMul, Int.reduceToNat, reduceIte, Int.reduceLE, Int.reduceNeg]; rfl)) ?_)
     refine ⟨k + 1, hlt, by omega, ?_⟩
     refine le_mk ?sle ?_ ?swf ?mwf (kept_not hkeep) (by rfl)
     case swf => repeat (first | exact swf_top _ | refine swf_upd ?_ (by simp [A.ids, upd_app]))
     case sle => repeat (first | exact sle_top _ | exact sle_refl _ | refine sle_upd ?_ (by first | rfl | (simp only [upd_app, killS_app, A.kill, entry_zero, entry_succ, Nat.reduceEqDiff, reduceIte, wrap_succ (show k + 1 < 9223372036854775808 by omega)]; done)))
     case mwf =>
      refine mwf_upd (mwf_fam (mwf_nil _) (fun i hi => by first | exact rowO_ids | rfl)) (fun j hj => ?_)
      obtain ⟨q, hq, rfl⟩ := tabR_ids.1 hj
      simp only [upd_app, Nat.reduceEqDiff, reduceIte, fam_at hq, Option.isSome_some]
     refine mle_upd (mle_fam fun i hi => ?_) (by simp only [exa, beq_self_eq_true, ByteArray.size, Nat.reduceAdd, Nat.reduceLeDiff, Nat.reduceEqDiff, Nat.reduceMul, Int.reduceToNat, reduceIte, Int.reduceLE, Int.reduceNeg, wrap_succ (show k + 1 < 9223372036854775808 by omega)]; done)
     simp only [exa, beq_self_eq_true, ByteArray.size, Nat.reduceAdd, Nat.reduceLeDiff, Nat.reduceEqDiff, Nat.reduceMul, Int.reduceToNat, reduceIte, Int.reduceLE, Int.reduceNeg, fam_at hi]
   ·intro hge
    simp only [decide_eq_false_iff_not, Int.ofNat_lt] at hge
    obtain rfl : k = E.length := by omega
    rw [List.take_length]
    (repeat (first | refine W.seq ?_ | refine W.block ?_ | refine W.skip ?_ | refine W.exit ?_))
    refine W.tabData 9 41 1000 n (e := 3) (ce := 1) (L := fun i => adjL E i) (upd (upd (fun _ => .top) 6 (.c (.int .i64 n))) 7 (.c (.sl ((upL n u (n + 1)).map cZ)))) hkeep rfl rfl (fun i hi => ?_) (fun u => ?_) rfl (by decide) ?_
    ·simp only [exa, beq_self_eq_true, ByteArray.size, Nat.reduceAdd, Nat.reduceLeDiff, Nat.reduceEqDiff, Nat.reduceMul, Int.reduceToNat, reduceIte, Int.reduceLE, Int.reduceNeg, fam_at hi]
     rfl
    ·by_cases h0 : u = 6
     ·subst h0; exact .inr ⟨rfl, rfl⟩
     ·by_cases h2 : u = 7
      ·subst h2; exact .inr ⟨rfl, rfl⟩
      ·exact .inl (by simp [upd_app, h0, h2])
    have hta : ((List.range n).map fun i => [C.sl (adjL E i)]) = tabA E n := rfl
    rw [hta]
    repeat (first | refine W.seq ?_ | refine W.block ?_ | refine W.skip ?_ | refine W.exit ?_ | refine W.region tab_ok 0 (by decide) (exec_run (by simp only [exa, beq_self_eq_true, ByteArray.size, Nat.reduceAdd, Nat.reduceLeDiff, Nat.reduceEqDiff, Nat.reduceMul, Int.reduceToNat, reduceIte, Int.reduceLE, Int.reduceNeg]; rfl)) ?_)
    refine W.newArr 12 60 42 2 rfl rfl ?_
    refine W.loop (ι := Nat) (fun i => ⟨upd (upd (upd (upd (upd (upd (fun _ => .top) 6 (.c (.int .i64 n))) 7 (.c (.sl ((upL n u (n + 1)).map cZ)))) 9 (.c (.sl (tabA E n)))) 12 (.own 60)) 62 (.c (.int .i64 n))) 63 (.c (.int .i64 i)),
     upd Mem.nil 60 (some (.arr 42 2 ((hangUp E u n i).map cEd)))⟩) (fun i => i ≤ n) (fun i => n - i) 0 ?start2 (Nat.zero_le _) ?round2
    case start2 =>
     refine le_mk ?sle ?mle ?swf ?mwf (kept_not hkeep) (by rfl)
     case swf => repeat (first | exact swf_top _ | refine swf_upd ?_ (by simp [A.ids, upd_app, show hangUp E u n 0 = [] from rfl, List.map_nil]))
     case mwf => repeat (first | exact mwf_nil _ | refine mwf_upd ?_ (by simp [A.ids, O.ids, upd_app, show hangUp E u n 0 = [] from rfl, List.map_nil]))
     case mle => repeat (first | exact mle_nil _ | exact mle_refl _ | refine mle_upd ?_ (by first | rfl | (simp only [upd_app, killM_app, O.kill, A.kill, Nat.reduceEqDiff, reduceIte, Option.map_some, Option.map_none, List.map_cons, List.map_nil, show hangUp E u n 0 = [] from rfl, List.map_nil]; done)))
     case sle => repeat (first | exact sle_top _ | exact sle_refl _ | refine sle_upd ?_ (by first | rfl | (simp only [upd_app, killS_app, A.kill, entry_zero, entry_succ, Nat.reduceEqDiff, reduceIte, show hangUp E u n 0 = [] from rfl, List.map_nil]; done)))
    case round2 =>
     intro i hin
     repeat (first | refine W.seq ?_ | refine W.block ?_ | refine W.skip ?_ | refine W.exit ?_ | refine W.region tab_ok 0 (by decide) (exec_run (by simp only [exa, beq_self_eq_true, ByteArray.size, Nat.reduceAdd, Nat.reduceLeDiff, Nat.reduceEqDiff, Nat.reduceMul, Int.reduceToNat, reduceIte, Int.reduceLE, Int.reduceNeg]; rfl)) ?_)
     refine W.cond rfl ?_ ?_
     ·intro hi
      simp only [decide_eq_true_eq, Int.ofNat_lt] at hi
      have hup := hangUp_len E u n i
      have hwn2 : IntKind.i64.wrap ((n : Int) + 1) = ((n + 1 : Nat) : Int) := wrap_succ (show n + 1 < 9223372036854775808 by omega)
      have hi0 : (0 : Int) ≤ (i : Int) := by omega
      repeat (first | refine W.seq ?_ | refine W.block ?_ | refine W.skip ?_ | refine W.exit ?_ | refine W.region tab_ok 0 (by decide) (exec_run (by simp only [exa, beq_self_eq_true, ByteArray.size, Nat.reduceAdd, Nat.reduceLeDiff, Nat.reduceEqDiff, Nat.reduceMul, Int.reduceToNat, reduceIte, Int.reduceLE, Int.reduceNeg]; rfl)) ?_)
      refine W.regionK tab_ok 0 (by decide) ?_
      refine runk_split 2 (by simp only [exa, beq_self_eq_true, ByteArray.size, Nat.reduceAdd, Nat.reduceLeDiff, Nat.reduceEqDiff, Nat.reduceMul, Int.reduceToNat, reduceIte, Int.reduceLE, Int.reduceNeg]; rfl) ?_
      refine runk_call rfl rfl rfl rfl rfl (by simp) (cvs_cons cv_refl (cvs_cons cv_refl cvs_nil)) (hb i (by omega) _) ?_
      refine runk_exec (by simp only [exa, beq_self_eq_true, ByteArray.size, Nat.reduceAdd, Nat.reduceLeDiff, Nat.reduceEqDiff, Nat.reduceMul, Int.reduceToNat, reduceIte, Int.reduceLE, Int.reduceNeg]; rfl) ?_
      obtain ⟨N, hN⟩ : ∃ N, n + 1 = N := ⟨_, rfl⟩
      rw [hN] at hwn2 hb hul ⊢
      have hm3 : N ≤ 140737488355328 := by omega
      have hm4 : (N : Int) ≤ 9223372036854775807 := by omega
      have hm5 : (0 : Int) ≤ (N : Int) := by omega
      repeat (first | refine W.seq ?_ | refine W.block ?_ | refine W.skip ?_ | refine W.exit ?_ | refine W.region tab_ok 0 (by decide) (exec_run (by simp only [exa, beq_self_eq_true, ByteArray.size, Nat.reduceAdd, Nat.reduceLeDiff, Nat.reduceEqDiff, Nat.reduceMul, Int.reduceToNat, reduceIte, Int.reduceLE, Int.reduceNeg, hwn2, Int.toNat_natCast, hm3, hm4, hm5, and_self, Nat.mul_one, rep_rowB, Bool.false_eq_true, tabA_at hi, tabA_len, hi, hi0, List.length_map]; rfl)) ?_)
      have hSn : ∀ s ∈ G.outs E i, s ≤ n := fun s hs => (hgt' _ (G.mem_outs.1 hs)).2
      have hSl := G.outs_len E i
      have hSm : ∀ s, s ∈ G.outs E i ↔ (i, s) ∈ E := fun s => G.mem_outs
      obtain ⟨S, hS⟩ : ∃ S, S = G.outs E i := ⟨_, rfl⟩
      rw [← hS] at hSn hSl hSm ⊢
      refine W.loop (ι := Nat) (fun q => ⟨upd (upd (upd (upd (upd (upd (upd (upd (upd (upd (upd (upd (fun _ => .top) 6 (.c (.int .i64 n))) 7 (.c (.sl ((upL n u N).map cZ)))) 9 (.c (.sl (tabA E n)))) 12 (.own 60)) 62 (.c (.int .i64 n))) 63 (.c (.int .i64 i))) 13 (.c (.int .i64 i))) 14 (.c (.sl (rowB N (abvB u n i))))) 15 (.own 71)) 75 (.c (.sl (S.map cN)))) 76 (.c (.int .i64 S.length))) 77 (.c (.int .i64 q)),
       upd (upd Mem.nil 60 (some (.arr 42 2 ((hangUp E u n i).map cEd)))) 71 (some (.mrow 4 1 (rowB N (toB u n (S.take q)))))⟩) (fun q => q ≤ S.length) (fun q => S.length - q) 0 ?start4 (Nat.zero_le _) ?round4
      case start4 =>
       refine le_mk ?sle ?mle ?swf ?mwf (kept_not hkeep) (by rfl)
       case swf => repeat (first | exact swf_top _ | refine swf_upd ?_ (by simp [A.ids, upd_app, show toB u n (S.take 0) = (fun _ => false) from rfl]))
       case mwf => repeat (first | exact mwf_nil _ | refine mwf_upd ?_ (by simp [A.ids, O.ids, upd_app, show toB u n (S.take 0) = (fun _ => false) from rfl]))
       case mle => repeat (first | exact mle_nil _ | exact mle_refl _ | refine mle_upd ?_ (by first | rfl | (simp only [upd_app, killM_app, O.kill, A.kill, Nat.reduceEqDiff, reduceIte, Option.map_some, Option.map_none, List.map_cons, List.map_nil, show toB u n (S.take 0) = (fun _ => false) from rfl]; done)))
       case sle => repeat (first | exact sle_top _ | exact sle_refl _ | refine sle_upd ?_ (by first | rfl | (simp only [upd_app, killS_app, A.kill, entry_zero, entry_succ, Nat.reduceEqDiff, reduceIte, show toB u n (S.take 0) = (fun _ => false) from rfl]; done)))
      case round4 =>
       intro q hq
       repeat (first | refine W.seq ?_ | refine W.block ?_ | refine W.skip ?_ | refine W.exit ?_ | refine W.region tab_ok 0 (by decide) (exec_run (by simp only [exa, beq_self_eq_true, ByteArray.size, Nat.reduceAdd, Nat.reduceLeDiff, Nat.reduceEqDiff, Nat.reduceMul, Int.reduceToNat, reduceIte, Int.reduceLE, Int.reduceNeg]; rfl)) ?_)
       refine W.cond rfl ?_ ?_
       ·intro hlt
        simp only [decide_eq_true_eq, Int.ofNat_lt] at hlt
        obtain ⟨s, hs⟩ : ∃ s, S[q]? = some s := ⟨_, List.getElem?_eq_getElem hlt⟩
        have hsn := hSn s (List.mem_of_getElem? hs)
        repeat (first | refine W.seq ?_ | refine W.block ?_ | refine W.skip ?_ | refine W.exit ?_ | refine W.region tab_ok 0 (by decide) (exec_run (by simp only [exa, beq_self_eq_true, ByteArray.size, Nat.reduceAdd, Nat.reduceLeDiff, Nat.reduceEqDiff, Nat.reduceMul, Int.reduceToNat, reduceIte, Int.reduceLE, Int.reduceNeg, at_map hs, cN]; rfl)) ?_)
        refine W.regionK tab_ok 0 (by decide) ?_
        refine runk_split 2 (by simp only [exa, beq_self_eq_true, ByteArray.size, Nat.reduceAdd, Nat.reduceLeDiff, Nat.reduceEqDiff, Nat.reduceMul, Int.reduceToNat, reduceIte, Int.reduceLE, Int.reduceNeg]; rfl) ?_
        refine runk_call rfl rfl rfl rfl rfl (by simp) (cvs_cons cv_refl (cvs_cons cv_refl cvs_nil)) (hb s hsn _) ?_
        refine runk_exec (by simp only [exa, beq_self_eq_true, ByteArray.size, Nat.reduceAdd, Nat.reduceLeDiff, Nat.reduceEqDiff, Nat.reduceMul, Int.reduceToNat, reduceIte, Int.reduceLE, Int.reduceNeg, rowB_len]; rfl) ?_
        (repeat (first | refine W.seq ?_ | refine W.block ?_ | refine W.skip ?_ | refine W.exit ?_))
        refine W.loop (ι := Nat) (fun j => ⟨upd (upd (upd (upd (upd (upd (upd (upd (upd (upd (upd (upd (upd (upd (upd (fun _ => .top) 6 (.c (.int .i64 n))) 7 (.c (.sl ((upL n u N).map cZ)))) 9 (.c (.sl (tabA E n)))) 12 (.own 60)) 62 (.c (.int .i64 n))) 63 (.c (.int .i64 i))) 13 (.c (.int .i64 i))) 14 (.c (.sl (rowB N (abvB u n i))))) 15 (.own 71)) 75 (.c (.sl (S.map cN)))) 76 (.c (.int .i64 S.length))) 77 (.c (.int .i64 q))) 83 (.c (.sl (rowB N (abvB u n s))))) 84 (.c (.int .i64 N))) 85 (.c (.int .i64 j)),
         upd (upd Mem.nil 60 (some (.arr 42 2 ((hangUp E u n i).map cEd)))) 71 (some (.mrow 4 1 (rowB N (orTo (toB u n (S.take q)) (abvB u n s) j))))⟩) (fun j => j ≤ N) (fun j => N - j) 0 ?start6 (Nat.zero_le _) ?round6
        case start6 =>
         refine le_mk ?sle ?mle ?swf ?mwf (kept_not hkeep) (by rfl)
         case swf => repeat (first | exact swf_top _ | refine swf_upd ?_ (by simp [A.ids, upd_app, show orTo (toB u n (S.take q)) (abvB u n s) 0 = toB u n (S.take q) from funext fun i => by simp [orTo]]))
         case mwf => repeat (first | exact mwf_nil _ | refine mwf_upd ?_ (by simp [A.ids, O.ids, upd_app, show orTo (toB u n (S.take q)) (abvB u n s) 0 = toB u n (S.take q) from funext fun i => by simp [orTo]]))
         case mle => repeat (first | exact mle_nil _ | exact mle_refl _ | refine mle_upd ?_ (by first | rfl | (simp only [upd_app, killM_app, O.kill, A.kill, Nat.reduceEqDiff, reduceIte, Option.map_some, Option.map_none, List.map_cons, List.map_nil, show orTo (toB u n (S.take q)) (abvB u n s) 0 = toB u n (S.take q) from funext fun i => by simp [orTo]]; done)))
         case sle => repeat (first | exact sle_top _ | exact sle_refl _ | refine sle_upd ?_ (by first | rfl | (simp only [upd_app, killS_app, A.kill, entry_zero, entry_succ, Nat.reduceEqDiff, reduceIte, show orTo (toB u n (S.take q)) (abvB u n s) 0 = toB u n (S.take q) from funext fun i => by simp [orTo]]; done)))
        case round6 =>
         intro j hj
         repeat (first | refine W.seq ?_ | refine W.block ?_ | refine W.skip ?_ | refine W.exit ?_ | refine W.region tab_ok 0 (by decide) (exec_run (by simp only [exa, beq_self_eq_true, ByteArray.size, Nat.reduceAdd, Nat.reduceLeDiff, Nat.reduceEqDiff, Nat.reduceMul, Int.reduceToNat, reduceIte, Int.reduceLE, Int.reduceNeg]; rfl)) ?_)
         refine W.cond rfl ?_ ?_
         ·intro hjl
          simp only [decide_eq_true_eq, Int.ofNat_lt] at hjl
          have hj0 : (0 : Int) ≤ (j : Int) := by omega
          have hQj : orTo (toB u n (S.take q)) (abvB u n s) j j = toB u n (S.take q) j := by simp [orTo]
          have hset := orTo_set (N := N) (j := j) (Q := toB u n (S.take q)) (A := abvB u n s)
          cases hv : toB u n (S.take q) j with
          | true =>
           rw [hv, Bool.true_or] at hset
           repeat (first | refine W.seq ?_ | refine W.block ?_ | refine W.skip ?_ | refine W.exit ?_ | refine W.region tab_ok 0 (by decide) (exec_run (by simp only [exa, beq_self_eq_true, ByteArray.size, Nat.reduceAdd, Nat.reduceLeDiff, Nat.reduceEqDiff, Nat.reduceMul, Int.reduceToNat, reduceIte, Int.reduceLE, Int.reduceNeg, rowB_at hjl, rowB_len, hj0, hjl, Int.toNat_natCast, and_self, hQj, hv, hset]; rfl)) ?_)
           refine ⟨j + 1, hjl, by omega, ?_⟩
           refine le_mk ?sle ?mle ?swf ?mwf (kept_not hkeep) (by rfl)
           case swf => repeat (first | exact swf_top _ | refine swf_upd ?_ (by simp [A.ids, upd_app, wrap_succ (show j + 1 < 9223372036854775808 by omega)]))
           case mwf => repeat (first | exact mwf_nil _ | refine mwf_upd ?_ (by simp [A.ids, O.ids, upd_app, wrap_succ (show j + 1 < 9223372036854775808 by omega)]))
           case mle => repeat (first | exact mle_nil _ | exact mle_refl _ | refine mle_upd ?_ (by first | rfl | (simp only [upd_app, killM_app, O.kill, A.kill, Nat.reduceEqDiff, reduceIte, Option.map_some, Option.map_none, List.map_cons, List.map_nil, wrap_succ (show j + 1 < 9223372036854775808 by omega)]; done)))
           case sle => repeat (first | exact sle_top _ | exact sle_refl _ | refine sle_upd ?_ (by first | rfl | (simp only [upd_app, killS_app, A.kill, entry_zero, entry_succ, Nat.reduceEqDiff, reduceIte, wrap_succ (show j + 1 < 9223372036854775808 by omega)]; done)))
          | false =>
           rw [hv, Bool.false_or] at hset
           repeat (first | refine W.seq ?_ | refine W.block ?_ | refine W.skip ?_ | refine W.exit ?_ | refine W.region tab_ok 0 (by decide) (exec_run (by simp only [exa, beq_self_eq_true, ByteArray.size, Nat.reduceAdd, Nat.reduceLeDiff, Nat.reduceEqDiff, Nat.reduceMul, Int.reduceToNat, reduceIte, Int.reduceLE, Int.reduceNeg, rowB_at hjl, rowB_len, hj0, hjl, Int.toNat_natCast, and_self, hQj, hv, hset]; rfl)) ?_)
           refine ⟨j + 1, hjl, by omega, ?_⟩
           refine le_mk ?sle ?mle ?swf ?mwf (kept_not hkeep) (by rfl)
           case swf => repeat (first | exact swf_top _ | refine swf_upd ?_ (by simp [A.ids, upd_app, wrap_succ (show j + 1 < 9223372036854775808 by omega)]))
           case mwf => repeat (first | exact mwf_nil _ | refine mwf_upd ?_ (by simp [A.ids, O.ids, upd_app, wrap_succ (show j + 1 < 9223372036854775808 by omega)]))
           case mle => repeat (first | exact mle_nil _ | exact mle_refl _ | refine mle_upd ?_ (by first | rfl | (simp only [upd_app, killM_app, O.kill, A.kill, Nat.reduceEqDiff, reduceIte, Option.map_some, Option.map_none, List.map_cons, List.map_nil, wrap_succ (show j + 1 < 9223372036854775808 by omega)]; done)))
           case sle => repeat (first | exact sle_top _ | exact sle_refl _ | refine sle_upd ?_ (by first | rfl | (simp only [upd_app, killS_app, A.kill, entry_zero, entry_succ, Nat.reduceEqDiff, reduceIte, wrap_succ (show j + 1 < 9223372036854775808 by omega)]; done)))
         ·intro hge
          simp only [decide_eq_false_iff_not, Int.ofNat_lt] at hge
          obtain rfl : j = N := by omega
          have hnext : rowB j (orTo (toB u n (S.take q)) (abvB u n s) j) = rowB j (toB u n (S.take (q + 1))) := rowB_congr fun i hi => by
           unfold orTo toB
           rw [List.take_add_one, hs, List.any_append]
           simp [hi]
          rw [hnext]
          repeat (first | refine W.seq ?_ | refine W.block ?_ | refine W.skip ?_ | refine W.exit ?_ | refine W.region tab_ok 0 (by decide) (exec_run (by simp only [exa, beq_self_eq_true, ByteArray.size, Nat.reduceAdd, Nat.reduceLeDiff, Nat.reduceEqDiff, Nat.reduceMul, Int.reduceToNat, reduceIte, Int.reduceLE, Int.reduceNeg]; rfl)) ?_)
          refine ⟨q + 1, hlt, by omega, ?_⟩
          refine le_mk ?sle ?mle ?swf ?mwf (kept_not hkeep) (by rfl)
          case swf => repeat (first | exact swf_top _ | refine swf_upd ?_ (by simp [A.ids, upd_app, wrap_succ (show q + 1 < 9223372036854775808 by omega)]))
          case mwf => repeat (first | exact mwf_nil _ | refine mwf_upd ?_ (by simp [A.ids, O.ids, upd_app, wrap_succ (show q + 1 < 9223372036854775808 by omega)]))
          case mle => repeat (first | exact mle_nil _ | exact mle_refl _ | refine mle_upd ?_ (by first | rfl | (simp only [upd_app, killM_app, O.kill, A.kill, Nat.reduceEqDiff, reduceIte, Option.map_some, Option.map_none, List.map_cons, List.map_nil, wrap_succ (show q + 1 < 9223372036854775808 by omega)]; done)))
          case sle => repeat (first | exact sle_top _ | exact sle_refl _ | refine sle_upd ?_ (by first | rfl | (simp only [upd_app, killS_app, A.kill, entry_zero, entry_succ, Nat.reduceEqDiff, reduceIte, wrap_succ (show q + 1 < 9223372036854775808 by omega)]; done)))
       ·intro hge
        simp only [decide_eq_false_iff_not, Int.ofNat_lt] at hge
        obtain rfl : q = S.length := by omega
        rw [List.take_length]
        have hQ : ∀ j, j < n → ((toB u n S j = true ∧ (i = j ∨ abvB u n i j = false)) ↔ HangP E u n i j) := fun j hj => by
         have hto : toB u n S j = true ↔ ∃ s, (i, s) ∈ E ∧ Anc u n s j := by
          unfold toB
          rw [List.any_eq_true]
          exact ⟨fun ⟨s, h1, h2⟩ => ⟨s, (hSm s).1 h1, abvB_iff.1 h2⟩, fun ⟨s, h1, h2⟩ => ⟨s, (hSm s).2 h1, abvB_iff.2 h2⟩⟩
         have hab : abvB u n i j = false ↔ ¬ Anc u n i j := by rw [← abvB_iff]; cases abvB u n i j <;> simp
         rw [hto, hab]
         exact ⟨fun ⟨⟨b, h1, h2⟩, h3⟩ => ⟨hj, b, h1, h2, h3⟩, fun ⟨_, b, h1, h2, h3⟩ => ⟨⟨b, h1, h2⟩, h3⟩⟩
        repeat (first | refine W.seq ?_ | refine W.block ?_ | refine W.skip ?_ | refine W.exit ?_ | refine W.region tab_ok 0 (by decide) (exec_run (by simp only [exa, beq_self_eq_true, ByteArray.size, Nat.reduceAdd, Nat.reduceLeDiff, Nat.reduceEqDiff, Nat.reduceMul, Int.reduceToNat, reduceIte, Int.reduceLE, Int.reduceNeg]; rfl)) ?_)
        refine W.loop (ι := Nat) (fun j => ⟨upd (upd (upd (upd (upd (upd (upd (upd (upd (upd (upd (fun _ => .top) 6 (.c (.int .i64 n))) 7 (.c (.sl ((upL n u N).map cZ)))) 9 (.c (.sl (tabA E n)))) 12 (.own 60)) 62 (.c (.int .i64 n))) 63 (.c (.int .i64 i))) 13 (.c (.int .i64 i))) 14 (.c (.sl (rowB N (abvB u n i))))) 15 (.own 71)) 102 (.c (.int .i64 n))) 103 (.c (.int .i64 j)),
         upd (upd Mem.nil 60 (some (.arr 42 2 ((hangUp E u n i ++ hangAt E u n i j).map cEd)))) 71 (some (.mrow 4 1 (rowB N (toB u n S))))⟩) (fun j => j ≤ n) (fun j => n - j) 0 ?start8 (Nat.zero_le _) ?round8
        case start8 =>
         refine le_mk ?sle ?mle ?swf ?mwf (kept_not hkeep) (by rfl)
         case swf => repeat (first | exact swf_top _ | refine swf_upd ?_ (by simp [A.ids, upd_app, show hangAt E u n i 0 = [] from rfl, List.append_nil]))
         case mwf => repeat (first | exact mwf_nil _ | refine mwf_upd ?_ (by simp [A.ids, O.ids, upd_app, show hangAt E u n i 0 = [] from rfl, List.append_nil]))
         case mle => repeat (first | exact mle_nil _ | exact mle_refl _ | refine mle_upd ?_ (by first | rfl | (simp only [upd_app, killM_app, O.kill, A.kill, Nat.reduceEqDiff, reduceIte, Option.map_some, Option.map_none, List.map_cons, List.map_nil, show hangAt E u n i 0 = [] from rfl, List.append_nil]; done)))
         case sle => repeat (first | exact sle_top _ | exact sle_refl _ | refine sle_upd ?_ (by first | rfl | (simp only [upd_app, killS_app, A.kill, entry_zero, entry_succ, Nat.reduceEqDiff, reduceIte, show hangAt E u n i 0 = [] from rfl, List.append_nil]; done)))
        case round8 =>
         intro j hj
         repeat (first | refine W.seq ?_ | refine W.block ?_ | refine W.skip ?_ | refine W.exit ?_ | refine W.region tab_ok 0 (by decide) (exec_run (by simp only [exa, beq_self_eq_true, ByteArray.size, Nat.reduceAdd, Nat.reduceLeDiff, Nat.reduceEqDiff, Nat.reduceMul, Int.reduceToNat, reduceIte, Int.reduceLE, Int.reduceNeg]; rfl)) ?_)
         refine W.cond rfl ?_ ?_
         ·intro hjl
          simp only [decide_eq_true_eq, Int.ofNat_lt] at hjl
          have hj0 : (0 : Int) ≤ (j : Int) := by omega
          have hjN : j < N := by omega
          have hal := hangAt_len E u n i j
          have hub : (hangUp E u n i).length ≤ 2000 * 2000 := Nat.le_trans hup (Nat.mul_le_mul (by omega) hn1')
          have hnx := hangAt_succ E u n i j
          have hiff := hQ j hjl
          have wj := wrap_succ (show j + 1 < 9223372036854775808 by omega)
          cases hv : toB u n S j with
          | false =>
           rw [if_neg (fun h => by have := (hiff.2 h).1; rw [hv] at this; cases this), List.append_nil] at hnx
           repeat (first | refine W.seq ?_ | refine W.block ?_ | refine W.skip ?_ | refine W.exit ?_ | refine W.region tab_ok 0 (by decide) (exec_run (by simp only [exa, beq_self_eq_true, ByteArray.size, Nat.reduceAdd, Nat.reduceLeDiff, Nat.reduceEqDiff, Nat.reduceMul, Int.reduceToNat, reduceIte, Int.reduceLE, Int.reduceNeg, rowB_at hjN, rowB_len, hj0, hjN, Int.toNat_natCast, and_self, hv, Bool.false_eq_true]; rfl)) ?_)
           refine W.cond rfl (fun h => absurd h (by simp)) (fun _ => ?_)
           repeat (first | refine W.seq ?_ | refine W.block ?_ | refine W.skip ?_ | refine W.exit ?_ | refine W.region tab_ok 0 (by decide) (exec_run (by simp only [exa, beq_self_eq_true, ByteArray.size, Nat.reduceAdd, Nat.reduceLeDiff, Nat.reduceEqDiff, Nat.reduceMul, Int.reduceToNat, reduceIte, Int.reduceLE, Int.reduceNeg]; rfl)) ?_)
           refine ⟨j + 1, hjl, by omega, ?_⟩
           refine le_mk ?sle ?mle ?swf ?mwf (kept_not hkeep) (by rfl)
           case swf => repeat (first | exact swf_top _ | refine swf_upd ?_ (by simp [A.ids, upd_app, wj, hnx]))
           case mwf => repeat (first | exact mwf_nil _ | refine mwf_upd ?_ (by simp [A.ids, O.ids, upd_app, wj, hnx]))
           case mle => repeat (first | exact mle_nil _ | exact mle_refl _ | refine mle_upd ?_ (by first | rfl | (simp only [upd_app, killM_app, O.kill, A.kill, Nat.reduceEqDiff, reduceIte, Option.map_some, Option.map_none, List.map_cons, List.map_nil, wj, hnx]; done)))
           case sle => repeat (first | exact sle_top _ | exact sle_refl _ | refine sle_upd ?_ (by first | rfl | (simp only [upd_app, killS_app, A.kill, entry_zero, entry_succ, Nat.reduceEqDiff, reduceIte, wj, hnx]; done)))
          | true =>
           by_cases hij : i = j
           ·rw [if_pos (hiff.1 ⟨hv, .inl hij⟩)] at hnx
            have hij' := eq_true (show (i : Int) = (j : Int) by omega)
            repeat (first | refine W.seq ?_ | refine W.block ?_ | refine W.skip ?_ | refine W.exit ?_ | refine W.region tab_ok 0 (by decide) (exec_run (by simp only [exa, beq_self_eq_true, ByteArray.size, Nat.reduceAdd, Nat.reduceLeDiff, Nat.reduceEqDiff, Nat.reduceMul, Int.reduceToNat, reduceIte, Int.reduceLE, Int.reduceNeg, rowB_at hjN, rowB_len, hj0, hjN, Int.toNat_natCast, and_self, hv, hij', decide_true, Bool.false_eq_true, Bool.true_eq_false]; rfl)) ?_)
            refine W.cond rfl (fun _ => ?_) (fun h => absurd h (by simp))
            (repeat (first | refine W.seq ?_ | refine W.block ?_ | refine W.skip ?_ | refine W.exit ?_))
            refine W.regionK tab_ok 0 (by decide) ?_
            refine runk_split 5 (by simp only [exa, beq_self_eq_true, ByteArray.size, Nat.reduceAdd, Nat.reduceLeDiff, Nat.reduceEqDiff, Nat.reduceMul, Int.reduceToNat, reduceIte, Int.reduceLE, Int.reduceNeg]; rfl) ?_
            refine runk_append tab_ok 60 rfl rfl rfl rfl rfl rfl rfl rfl (by first | rfl | (simp only [exa, beq_self_eq_true, ByteArray.size, Nat.reduceAdd, Nat.reduceLeDiff, Nat.reduceEqDiff, Nat.reduceMul, Int.reduceToNat, reduceIte, Int.reduceLE, Int.reduceNeg]; rfl)) rfl rfl rfl rfl (nokeep hkeep) (by intro z hz; simp at hz; subst hz; rfl) (by simp only [List.length_map, List.length_append, List.length_cons, List.length_nil]; omega) (by decide) ?_
            refine runk_exec (by simp only [exa, beq_self_eq_true, ByteArray.size, Nat.reduceAdd, Nat.reduceLeDiff, Nat.reduceEqDiff, Nat.reduceMul, Int.reduceToNat, reduceIte, Int.reduceLE, Int.reduceNeg]; rfl) ?_
            repeat (first | refine W.seq ?_ | refine W.block ?_ | refine W.skip ?_ | refine W.exit ?_ | refine W.region tab_ok 0 (by decide) (exec_run (by simp only [exa, beq_self_eq_true, ByteArray.size, Nat.reduceAdd, Nat.reduceLeDiff, Nat.reduceEqDiff, Nat.reduceMul, Int.reduceToNat, reduceIte, Int.reduceLE, Int.reduceNeg]; rfl)) ?_)
            refine ⟨j + 1, hjl, by omega, ?_⟩
            refine le_mk ?sle ?mle ?swf ?mwf (kept_not hkeep) (by rfl)
            case swf => repeat (first | exact swf_top _ | refine swf_upd ?_ (by simp [A.ids, upd_app, wj, hnx, List.map_append, List.map_cons, List.map_nil, cEd, List.append_assoc]))
            case mwf => repeat (first | exact mwf_nil _ | refine mwf_upd ?_ (by simp [A.ids, O.ids, upd_app, wj, hnx, List.map_append, List.map_cons, List.map_nil, cEd, List.append_assoc]))
            case mle => repeat (first | exact mle_nil _ | exact mle_refl _ | refine mle_upd ?_ (by first | rfl | (simp only [upd_app, killM_app, O.kill, A.kill, Nat.reduceEqDiff, reduceIte, Option.map_some, Option.map_none, List.map_cons, List.map_nil, wj, hnx, List.map_append, List.map_cons, List.map_nil, cEd, List.append_assoc]; done)))
            case sle => repeat (first | exact sle_top _ | exact sle_refl _ | refine sle_upd ?_ (by first | rfl | (simp only [upd_app, killS_app, A.kill, entry_zero, entry_succ, Nat.reduceEqDiff, reduceIte, wj, hnx, List.map_append, List.map_cons, List.map_nil, cEd, List.append_assoc]; done)))
           ·have hij' := eq_false (show ¬ (i : Int) = (j : Int) by omega)
            cases hw2 : abvB u n i j with
            | false =>
             rw [if_pos (hiff.1 ⟨hv, .inr hw2⟩)] at hnx
             repeat (first | refine W.seq ?_ | refine W.block ?_ | refine W.skip ?_ | refine W.exit ?_ | refine W.region tab_ok 0 (by decide) (exec_run (by simp only [exa, beq_self_eq_true, ByteArray.size, Nat.reduceAdd, Nat.reduceLeDiff, Nat.reduceEqDiff, Nat.reduceMul, Int.reduceToNat, reduceIte, Int.reduceLE, Int.reduceNeg, rowB_at hjN, rowB_len, hj0, hjN, Int.toNat_natCast, and_self, hv, hij', hw2, decide_false, Bool.false_eq_true, Bool.true_eq_false, Bool.not_false]; rfl)) ?_)
             refine W.cond rfl (fun _ => ?_) (fun h => absurd h (by simp))
             (repeat (first | refine W.seq ?_ | refine W.block ?_ | refine W.skip ?_ | refine W.exit ?_))
             refine W.regionK tab_ok 0 (by decide) ?_
             refine runk_split 5 (by simp only [exa, beq_self_eq_true, ByteArray.size, Nat.reduceAdd, Nat.reduceLeDiff, Nat.reduceEqDiff, Nat.reduceMul, Int.reduceToNat, reduceIte, Int.reduceLE, Int.reduceNeg]; rfl) ?_
             refine runk_append tab_ok 60 rfl rfl rfl rfl rfl rfl rfl rfl (by first | rfl | (simp only [exa, beq_self_eq_true, ByteArray.size, Nat.reduceAdd, Nat.reduceLeDiff, Nat.reduceEqDiff, Nat.reduceMul, Int.reduceToNat, reduceIte, Int.reduceLE, Int.reduceNeg]; rfl)) rfl rfl rfl rfl (nokeep hkeep) (by intro z hz; simp at hz; subst hz; rfl) (by simp only [List.length_map, List.length_append, List.length_cons, List.length_nil]; omega) (by decide) ?_
             refine runk_exec (by simp only [exa, beq_self_eq_true, ByteArray.size, Nat.reduceAdd, Nat.reduceLeDiff, Nat.reduceEqDiff, Nat.reduceMul, Int.reduceToNat, reduceIte, Int.reduceLE, Int.reduceNeg]; rfl) ?_
             repeat (first | refine W.seq ?_ | refine W.block ?_ | refine W.skip ?_ | refine W.exit ?_ | refine W.region tab_ok 0 (by decide) (exec_run (by simp only [exa, beq_self_eq_true, ByteArray.size, Nat.reduceAdd, Nat.reduceLeDiff, Nat.reduceEqDiff, Nat.reduceMul, Int.reduceToNat, reduceIte, Int.reduceLE, Int.reduceNeg]; rfl)) ?_)
             refine ⟨j + 1, hjl, by omega, ?_⟩
             refine le_mk ?sle ?mle ?swf ?mwf (kept_not hkeep) (by rfl)
             case swf => repeat (first | exact swf_top _ | refine swf_upd ?_ (by simp [A.ids, upd_app, wj, hnx, List.map_append, List.map_cons, List.map_nil, cEd, List.append_assoc]))
             case mwf => repeat (first | exact mwf_nil _ | refine mwf_upd ?_ (by simp [A.ids, O.ids, upd_app, wj, hnx, List.map_append, List.map_cons, List.map_nil, cEd, List.append_assoc]))
             case mle => repeat (first | exact mle_nil _ | exact mle_refl _ | refine mle_upd ?_ (by first | rfl | (simp only [upd_app, killM_app, O.kill, A.kill, Nat.reduceEqDiff, reduceIte, Option.map_some, Option.map_none, List.map_cons, List.map_nil, wj, hnx, List.map_append, List.map_cons, List.map_nil, cEd, List.append_assoc]; done)))
             case sle => repeat (first | exact sle_top _ | exact sle_refl _ | refine sle_upd ?_ (by first | rfl | (simp only [upd_app, killS_app, A.kill, entry_zero, entry_succ, Nat.reduceEqDiff, reduceIte, wj, hnx, List.map_append, List.map_cons, List.map_nil, cEd, List.append_assoc]; done)))
            | true =>
             rw [if_neg (fun h => by rcases (hiff.2 h).2 with q | q; exact hij q; rw [hw2] at q; cases q), List.append_nil] at hnx
             repeat (first | refine W.seq ?_ | refine W.block ?_ | refine W.skip ?_ | refine W.exit ?_ | refine W.region tab_ok 0 (by decide) (exec_run (by simp only [exa, beq_self_eq_true, ByteArray.size, Nat.reduceAdd, Nat.reduceLeDiff, Nat.reduceEqDiff, Nat.reduceMul, Int.reduceToNat, reduceIte, Int.reduceLE, Int.reduceNeg, rowB_at hjN, rowB_len, hj0, hjN, Int.toNat_natCast, and_self, hv, hij', hw2, decide_false, Bool.false_eq_true, Bool.true_eq_false, Bool.not_true]; rfl)) ?_)
             refine W.cond rfl (fun h => absurd h (by simp)) (fun _ => ?_)
             repeat (first | refine W.seq ?_ | refine W.block ?_ | refine W.skip ?_ | refine W.exit ?_ | refine W.region tab_ok 0 (by decide) (exec_run (by simp only [exa, beq_self_eq_true, ByteArray.size, Nat.reduceAdd, Nat.reduceLeDiff, Nat.reduceEqDiff, Nat.reduceMul, Int.reduceToNat, reduceIte, Int.reduceLE, Int.reduceNeg]; rfl)) ?_)
             refine ⟨j + 1, hjl, by omega, ?_⟩
             refine le_mk ?sle ?mle ?swf ?mwf (kept_not hkeep) (by rfl)
             case swf => repeat (first | exact swf_top _ | refine swf_upd ?_ (by simp [A.ids, upd_app, wj, hnx]))
             case mwf => repeat (first | exact mwf_nil _ | refine mwf_upd ?_ (by simp [A.ids, O.ids, upd_app, wj, hnx]))
             case mle => repeat (first | exact mle_nil _ | exact mle_refl _ | refine mle_upd ?_ (by first | rfl | (simp only [upd_app, killM_app, O.kill, A.kill, Nat.reduceEqDiff, reduceIte, Option.map_some, Option.map_none, List.map_cons, List.map_nil, wj, hnx]; done)))
             case sle => repeat (first | exact sle_top _ | exact sle_refl _ | refine sle_upd ?_ (by first | rfl | (simp only [upd_app, killS_app, A.kill, entry_zero, entry_succ, Nat.reduceEqDiff, reduceIte, wj, hnx]; done)))
         ·intro hge
          simp only [decide_eq_false_iff_not, Int.ofNat_lt] at hge
          obtain rfl : j = n := by omega
          rw [← hangUp_succ]
          repeat (first | refine W.seq ?_ | refine W.block ?_ | refine W.skip ?_ | refine W.exit ?_ | refine W.region tab_ok 0 (by decide) (exec_run (by simp only [exa, beq_self_eq_true, ByteArray.size, Nat.reduceAdd, Nat.reduceLeDiff, Nat.reduceEqDiff, Nat.reduceMul, Int.reduceToNat, reduceIte, Int.reduceLE, Int.reduceNeg]; rfl)) ?_)
          refine ⟨i + 1, hi, by omega, ?_⟩
          refine le_mk ?sle ?mle ?swf ?mwf (kept_not hkeep) (by rfl)
          case swf => repeat (first | exact swf_top _ | refine swf_upd ?_ (by simp [A.ids, upd_app, wrap_succ (show i + 1 < 9223372036854775808 by omega)]))
          case mwf => repeat (first | exact mwf_nil _ | refine mwf_upd ?_ (by simp [A.ids, O.ids, upd_app, wrap_succ (show i + 1 < 9223372036854775808 by omega)]))
          case mle => repeat (first | exact mle_nil _ | exact mle_refl _ | refine mle_upd ?_ (by first | rfl | (simp only [upd_app, killM_app, O.kill, A.kill, Nat.reduceEqDiff, reduceIte, Option.map_some, Option.map_none, List.map_cons, List.map_nil, wrap_succ (show i + 1 < 9223372036854775808 by omega)]; done)))
          case sle => repeat (first | exact sle_top _ | exact sle_refl _ | refine sle_upd ?_ (by first | rfl | (simp only [upd_app, killS_app, A.kill, entry_zero, entry_succ, Nat.reduceEqDiff, reduceIte, wrap_succ (show i + 1 < 9223372036854775808 by omega)]; done)))
     ·intro hge
      simp only [decide_eq_false_iff_not, Int.ofNat_lt] at hge
      obtain rfl : i = n := by omega
      rw [hangUp_all]
      repeat (first | refine W.seq ?_ | refine W.block ?_ | refine W.skip ?_ | refine W.exit ?_ | refine W.region tab_ok 0 (by decide) (exec_run (by simp only [exa, beq_self_eq_true, ByteArray.size, Nat.reduceAdd, Nat.reduceLeDiff, Nat.reduceEqDiff, Nat.reduceMul, Int.reduceToNat, reduceIte, Int.reduceLE, Int.reduceNeg]; rfl)) ?_)
      refine W.ret ⟨.inr rfl, by rfl, ?_⟩
      simp only [Tryd.f11, resA, resOne, toT, fin, exa, beq_self_eq_true, ByteArray.size, Nat.reduceAdd, Nat.reduceLeDiff, Nat.reduceEqDiff, Nat.reduceMul, Int.reduceToNat, reduceIte, Int.reduceLE, Int.reduceNeg]
end V
end Go.Proofs.YtnmfbaahabcocaaDoor
end
section
namespace Go.Proofs.YtnmfbaahabcocaaDoor
namespace V
open Go.RowKit G C17
theorem choice_ok (m : Mem) : COk Tryd.prog 16 [] m (.agg (cP exP)) := by
 refine (ok_pure tab_ok Tryd.func16 (by kernel_rfl) rfl rfl (by rfl) (by rfl) (by rfl) (fun R hkeep => ?_) m)
 repeat (first | refine W.seq ?_ | refine W.block ?_ | refine W.skip ?_ | refine W.exit ?_ | refine W.region tab_ok 0 (by decide) (exec_run (by simp only [exa, beq_self_eq_true, ByteArray.size, Nat.reduceAdd, Nat.reduceLeDiff, Nat.reduceEqDiff, Nat.reduceMul, Int.reduceToNat, reduceIte, Int.reduceLE, Int.reduceNeg, Int.cast_ofNat_Int]; rfl)) ?_)
 refine W.ret ⟨.inr rfl, by rfl, ?_⟩
 simp only [Tryd.f16, resA, resOne, toT, fin, exa, beq_self_eq_true, ByteArray.size, Nat.reduceAdd, Nat.reduceLeDiff, Nat.reduceEqDiff, Nat.reduceMul, Int.reduceToNat, reduceIte, Int.reduceLE, Int.reduceNeg]
 rfl
theorem live_ok (m : Mem) : COk Tryd.prog 6 [] m (.c (.bool true)) := by
 obtain ⟨u, T⟩ := tree_of exP
 have hh := fun m => hangs_ok exP u T m
 have hp := fun m => posts_ok exP u T m
 have hok : okC exP.code = true := ex_ok
 replace T := T hok
 have hg : gC exP.code = exE := ex_gC
 have hl : exP.code.length = 3 := rfl
 unfold hangsA at hh
 unfold postsA at hp
 have h3 : upL 3 u 3 = [2, 2, 3] := by
  have T3 := T
  rw [hg, hl] at T3
  have := congrArg (List.take 3) (ex_tree T3)
  rwa [show (upL 3 u 4).take 3 = upL 3 u 3 from rfl] at this
 have h4 : hangL exE u 3 = [(0, 1)] := by
  have T3 := T
  rw [hg, hl] at T3
  exact ex_hang T3
 simp only [if_pos hok, hg, hl, h3, h4] at hh hp
 have hs := fun m => sameEdges_ok [(0, 1)] [(0, 1)] (by decide) m
 rw [decide_eq_true rfl] at hs
 have hi := fun m => sameInts_ok [2, 2, 3] [2, 2, 3] (by decide) m
 rw [decide_eq_true rfl] at hi
 refine (ok_pure tab_ok Tryd.func6 (by kernel_rfl) rfl rfl (by rfl) (by rfl) (by rfl) (fun R hkeep => ?_) m)
 repeat (first | refine W.seq ?_ | refine W.block ?_ | refine W.skip ?_ | refine W.exit ?_ | refine W.region tab_ok 0 (by decide) (exec_run (by simp only [exa, beq_self_eq_true, ByteArray.size, Nat.reduceAdd, Nat.reduceLeDiff, Nat.reduceEqDiff, Nat.reduceMul, Int.reduceToNat, reduceIte, Int.reduceLE, Int.reduceNeg]; rfl)) ?_)
 refine W.regionK tab_ok 0 (by decide) ?_
 refine runk_split 0 (by simp only [exa, beq_self_eq_true, ByteArray.size, Nat.reduceAdd, Nat.reduceLeDiff, Nat.reduceEqDiff, Nat.reduceMul, Int.reduceToNat, reduceIte, Int.reduceLE, Int.reduceNeg]; rfl) ?_
 refine runk_call rfl rfl rfl rfl rfl (by simp) cvs_nil (choice_ok _) ?_
 refine runk_split 0 (by simp only [exa, beq_self_eq_true, ByteArray.size, Nat.reduceAdd, Nat.reduceLeDiff, Nat.reduceEqDiff, Nat.reduceMul, Int.reduceToNat, reduceIte, Int.reduceLE, Int.reduceNeg]; rfl) ?_
 refine runk_call rfl rfl rfl rfl rfl (by simp) (cvs_cons cv_refl cvs_nil) (hh _) ?_
 refine runk_exec (by simp only [exa, beq_self_eq_true, ByteArray.size, Nat.reduceAdd, Nat.reduceLeDiff, Nat.reduceEqDiff, Nat.reduceMul, Int.reduceToNat, reduceIte, Int.reduceLE, Int.reduceNeg]; rfl) ?_
 (repeat (first | refine W.seq ?_ | refine W.block ?_ | refine W.skip ?_ | refine W.exit ?_))
 refine W.regionK tab_ok 0 (by decide) ?_
 refine runk_split 0 (by simp only [exa, beq_self_eq_true, ByteArray.size, Nat.reduceAdd, Nat.reduceLeDiff, Nat.reduceEqDiff, Nat.reduceMul, Int.reduceToNat, reduceIte, Int.reduceLE, Int.reduceNeg]; rfl) ?_
 refine runk_call rfl rfl rfl rfl rfl (by simp) cvs_nil (choice_ok _) ?_
 refine runk_split 0 (by simp only [exa, beq_self_eq_true, ByteArray.size, Nat.reduceAdd, Nat.reduceLeDiff, Nat.reduceEqDiff, Nat.reduceMul, Int.reduceToNat, reduceIte, Int.reduceLE, Int.reduceNeg]; rfl) ?_
 refine runk_call rfl rfl rfl rfl rfl (by simp) (cvs_cons cv_refl cvs_nil) (hp _) ?_
 refine runk_exec (by simp only [exa, beq_self_eq_true, ByteArray.size, Nat.reduceAdd, Nat.reduceLeDiff, Nat.reduceEqDiff, Nat.reduceMul, Int.reduceToNat, reduceIte, Int.reduceLE, Int.reduceNeg]; rfl) ?_
 (repeat (first | refine W.seq ?_ | refine W.block ?_ | refine W.skip ?_ | refine W.exit ?_))
 refine W.regionK tab_ok 0 (by decide) ?_
 refine runk_split 10 (by simp only [exa, beq_self_eq_true, ByteArray.size, Nat.reduceAdd, Nat.reduceLeDiff, Nat.reduceEqDiff, Nat.reduceMul, Int.reduceToNat, reduceIte, Int.reduceLE, Int.reduceNeg, eq_self]; rfl) ?_
 refine runk_call rfl rfl rfl rfl rfl (by simp) (cvs_cons cv_refl (cvs_cons cv_refl cvs_nil)) (hs _) ?_
 refine runk_split 4 (by simp only [exa, beq_self_eq_true, ByteArray.size, Nat.reduceAdd, Nat.reduceLeDiff, Nat.reduceEqDiff, Nat.reduceMul, Int.reduceToNat, reduceIte, Int.reduceLE, Int.reduceNeg, eq_self]; rfl) ?_
 refine runk_call rfl rfl rfl rfl rfl (by simp) (cvs_cons cv_refl (cvs_cons cv_refl cvs_nil)) (hi _) ?_
 refine runk_exec (by simp only [exa, beq_self_eq_true, ByteArray.size, Nat.reduceAdd, Nat.reduceLeDiff, Nat.reduceEqDiff, Nat.reduceMul, Int.reduceToNat, reduceIte, Int.reduceLE, Int.reduceNeg, eq_self]; rfl) ?_
 repeat (first | refine W.seq ?_ | refine W.block ?_ | refine W.skip ?_ | refine W.exit ?_ | refine W.region tab_ok 0 (by decide) (exec_run (by simp only [exa, beq_self_eq_true, ByteArray.size, Nat.reduceAdd, Nat.reduceLeDiff, Nat.reduceEqDiff, Nat.reduceMul, Int.reduceToNat, reduceIte, Int.reduceLE, Int.reduceNeg]; rfl)) ?_)
 refine W.ret ⟨.inr rfl, by rfl, ?_⟩
 simp only [Tryd.f6, resA, resOne, toT, fin, exa, beq_self_eq_true, ByteArray.size, Nat.reduceAdd, Nat.reduceLeDiff, Nat.reduceEqDiff, Nat.reduceMul, Int.reduceToNat, reduceIte, Int.reduceLE, Int.reduceNeg]
theorem posts_shape (p : Prc) (u : Nat → Option Nat) : ∃ (L : List Int) (e : Int), postsA p u = [(false, [.sl (L.map cZ)]), (false, [.int .i64 e])] ∧ L.length ≤ 2000 := by
 unfold postsA
 cases h : okC p.code with
 | false => exact ⟨[], 110, by simp, by simp⟩
 | true =>
  refine ⟨upL p.code.length u p.code.length, 0, by simp, ?_⟩
  unfold okC at h
  simp only [Bool.and_eq_true, decide_eq_true_eq] at h
  rw [upL_len]
  omega
theorem hangL_len (L : List (Nat × Nat)) (u : Nat → Option Nat) (n : Nat) : (hangL L u n).length ≤ n * n := by
 unfold hangL
 rw [List.length_flatMap]
 have : ∀ l : List Nat, (l.map fun i => (((List.range n).filter fun j => @decide (HangP L u n i j) (Classical.propDecidable _)).map fun j => (i, j)).length).sum ≤ l.length * n := fun l => by
  induction l with
  | nil => simp
  | cons a l ih =>
   rw [List.map_cons, List.sum_cons, List.length_map, List.length_cons, Nat.succ_mul]
   have h1 := List.length_filter_le (fun j => @decide (HangP L u n a j) (Classical.propDecidable _)) (List.range n)
   rw [List.length_range] at h1
   omega
 have := this (List.range n)
 rwa [List.length_range] at this
theorem hangs_shape (p : Prc) (u : Nat → Option Nat) : ∃ (L : List (Int × Int)) (e : Int), hangsA p u = [(false, [.sl (L.map cE)]), (false, [.int .i64 e])] ∧ L.length ≤ 4000000 := by
 unfold hangsA
 cases h : okC p.code with
 | false => exact ⟨[], 110, by simp, by simp⟩
 | true =>
  refine ⟨(hangL (gC p.code) u p.code.length).map castE, 0, by simp only [if_pos, cE_cast], ?_⟩
  unfold okC at h
  simp only [Bool.and_eq_true, decide_eq_true_eq] at h
  rw [List.length_map]
  exact Nat.le_trans (hangL_len _ _ _) (Nat.mul_le_mul (show _ ≤ 2000 by omega) (show _ ≤ 2000 by omega))
set_option maxHeartbeats 4000000 in
theorem lawPosts_ok (p : Prc) (hpl : p.code.length ≤ 1000000000000000) (m : Mem) : COk Tryd.prog 3 [.agg (cP p)] m (.c (.bool true)) := by
 obtain ⟨u, T⟩ := tree_of p
 obtain ⟨L, e, hL, hlen⟩ := posts_shape p u
 have h1 := fun m => posts_ok p u T m
 have h2 := fun m => refPosts_ok p hpl u T m
 rw [hL] at h1 h2
 have h3 := fun m => sameInts_ok L L (by omega) m
 rw [decide_eq_true rfl] at h3
 obtain ⟨cls, name, params, regs, code⟩ := p
 have hcp : cP ⟨cls, name, params, regs, code⟩ = [.str cls, .str name, .int .i64 params, .int .i64 regs, .sl (code.map cIns)] := rfl
 refine (ok_pure tab_ok Tryd.func3 (by kernel_rfl) rfl rfl (by rfl) (by rfl) (by rfl) (fun R hkeep => ?_) m)
 (repeat (first | refine W.seq ?_ | refine W.block ?_ | refine W.skip ?_ | refine W.exit ?_))
 refine W.region tab_ok 0 (by decide) (exec_run (by simp only [exa, beq_self_eq_true, ByteArray.size, Nat.reduceAdd, Nat.reduceLeDiff, Nat.reduceEqDiff, Nat.reduceMul, Int.reduceToNat, reduceIte, Int.reduceLE, Int.reduceNeg, hcp, List.map_cons, List.map_nil]; rfl)) ?_
 (repeat (first | refine W.seq ?_ | refine W.block ?_ | refine W.skip ?_ | refine W.exit ?_))
 refine W.regionK tab_ok 0 (by decide) ?_
 refine runk_split 0 (by simp only [exa, beq_self_eq_true, ByteArray.size, Nat.reduceAdd, Nat.reduceLeDiff, Nat.reduceEqDiff, Nat.reduceMul, Int.reduceToNat, reduceIte, Int.reduceLE, Int.reduceNeg]; rfl) ?_
 refine runk_call rfl rfl rfl rfl rfl (by simp) cvs_nil (live_ok _) ?_
 refine runk_exec (by simp only [exa, beq_self_eq_true, ByteArray.size, Nat.reduceAdd, Nat.reduceLeDiff, Nat.reduceEqDiff, Nat.reduceMul, Int.reduceToNat, reduceIte, Int.reduceLE, Int.reduceNeg]; rfl) ?_
 by_cases hb : (60 : Int) < code.length ∧ (code.length : Int) ≤ 2000
 ·have hb1 := eq_true hb.1
  have hb2 := eq_true hb.2
  repeat (first | refine W.seq ?_ | refine W.block ?_ | refine W.skip ?_ | refine W.exit ?_ | refine W.region tab_ok 0 (by decide) (exec_run (by simp only [exa, beq_self_eq_true, ByteArray.size, Nat.reduceAdd, Nat.reduceLeDiff, Nat.reduceEqDiff, Nat.reduceMul, Int.reduceToNat, reduceIte, Int.reduceLE, Int.reduceNeg, List.length_map, hb1, hb2, decide_true]; rfl)) ?_)
  refine W.cond rfl (fun _ => ?_) (fun h => absurd h (by simp))
  repeat (first | refine W.seq ?_ | refine W.block ?_ | refine W.skip ?_ | refine W.exit ?_ | refine W.region tab_ok 0 (by decide) (exec_run (by simp only [exa, beq_self_eq_true, ByteArray.size, Nat.reduceAdd, Nat.reduceLeDiff, Nat.reduceEqDiff, Nat.reduceMul, Int.reduceToNat, reduceIte, Int.reduceLE, Int.reduceNeg]; rfl)) ?_)
  refine W.ret ⟨.inr rfl, by rfl, ?_⟩
  simp only [Tryd.f3, resA, resOne, toT, fin, exa, beq_self_eq_true, ByteArray.size, Nat.reduceAdd, Nat.reduceLeDiff, Nat.reduceEqDiff, Nat.reduceMul, Int.reduceToNat, reduceIte, Int.reduceLE, Int.reduceNeg]
 ·by_cases hb1 : (60 : Int) < code.length
  ·have hb2 := eq_false (show ¬ (code.length : Int) ≤ 2000 from fun h => hb ⟨hb1, h⟩)
   have hb1 := eq_true hb1
   repeat (first | refine W.seq ?_ | refine W.block ?_ | refine W.skip ?_ | refine W.exit ?_ | refine W.region tab_ok 0 (by decide) (exec_run (by simp only [exa, beq_self_eq_true, ByteArray.size, Nat.reduceAdd, Nat.reduceLeDiff, Nat.reduceEqDiff, Nat.reduceMul, Int.reduceToNat, reduceIte, Int.reduceLE, Int.reduceNeg, List.length_map, hb1, hb2, decide_true, decide_false]; rfl)) ?_)
   refine W.cond rfl (fun h => absurd h (by simp)) (fun _ => ?_)
   (repeat (first | refine W.seq ?_ | refine W.block ?_ | refine W.skip ?_ | refine W.exit ?_))
   refine W.regionK tab_ok 0 (by decide) ?_
   refine runk_split 1 (by simp only [exa, beq_self_eq_true, ByteArray.size, Nat.reduceAdd, Nat.reduceLeDiff, Nat.reduceEqDiff, Nat.reduceMul, Int.reduceToNat, reduceIte, Int.reduceLE, Int.reduceNeg, hcp, List.map_cons, List.map_nil]; rfl) ?_
   refine runk_call rfl rfl rfl rfl rfl (by simp) (cvs_cons cv_refl cvs_nil) (h1 _) ?_
   refine runk_exec (by simp only [exa, beq_self_eq_true, ByteArray.size, Nat.reduceAdd, Nat.reduceLeDiff, Nat.reduceEqDiff, Nat.reduceMul, Int.reduceToNat, reduceIte, Int.reduceLE, Int.reduceNeg]; rfl) ?_
   (repeat (first | refine W.seq ?_ | refine W.block ?_ | refine W.skip ?_ | refine W.exit ?_))
   refine W.regionK tab_ok 0 (by decide) ?_
   refine runk_split 1 (by simp only [exa, beq_self_eq_true, ByteArray.size, Nat.reduceAdd, Nat.reduceLeDiff, Nat.reduceEqDiff, Nat.reduceMul, Int.reduceToNat, reduceIte, Int.reduceLE, Int.reduceNeg, hcp, List.map_cons, List.map_nil]; rfl) ?_
   refine runk_call rfl rfl rfl rfl rfl (by simp) (cvs_cons cv_refl cvs_nil) (h2 _) ?_
   refine runk_exec (by simp only [exa, beq_self_eq_true, ByteArray.size, Nat.reduceAdd, Nat.reduceLeDiff, Nat.reduceEqDiff, Nat.reduceMul, Int.reduceToNat, reduceIte, Int.reduceLE, Int.reduceNeg]; rfl) ?_
   (repeat (first | refine W.seq ?_ | refine W.block ?_ | refine W.skip ?_ | refine W.exit ?_))
   refine W.regionK tab_ok 0 (by decide) ?_
   refine runk_split 4 (by simp only [exa, beq_self_eq_true, ByteArray.size, Nat.reduceAdd, Nat.reduceLeDiff, Nat.reduceEqDiff, Nat.reduceMul, Int.reduceToNat, reduceIte, Int.reduceLE, Int.reduceNeg]; rfl) ?_
   refine runk_call rfl rfl rfl rfl rfl (by simp) (cvs_cons cv_refl (cvs_cons cv_refl cvs_nil)) (h3 _) ?_
   refine runk_exec (by simp only [exa, beq_self_eq_true, ByteArray.size, Nat.reduceAdd, Nat.reduceLeDiff, Nat.reduceEqDiff, Nat.reduceMul, Int.reduceToNat, reduceIte, Int.reduceLE, Int.reduceNeg, eq_self, decide_true]; rfl) ?_
   repeat (first | refine W.seq ?_ | refine W.block ?_ | refine W.skip ?_ | refine W.exit ?_ | refine W.region tab_ok 0 (by decide) (exec_run (by simp only [exa, beq_self_eq_true, ByteArray.size, Nat.reduceAdd, Nat.reduceLeDiff, Nat.reduceEqDiff, Nat.reduceMul, Int.reduceToNat, reduceIte, Int.reduceLE, Int.reduceNeg]; rfl)) ?_)
   refine W.ret ⟨.inr rfl, by rfl, ?_⟩
   simp only [Tryd.f3, resA, resOne, toT, fin, exa, beq_self_eq_true, ByteArray.size, Nat.reduceAdd, Nat.reduceLeDiff, Nat.reduceEqDiff, Nat.reduceMul, Int.reduceToNat, reduceIte, Int.reduceLE, Int.reduceNeg]
  ·have hb1 := eq_false hb1
   repeat (first | refine W.seq ?_ | refine W.block ?_ | refine W.skip ?_ | refine W.exit ?_ | refine W.region tab_ok 0 (by decide) (exec_run (by simp only [exa, beq_self_eq_true, ByteArray.size, Nat.reduceAdd, Nat.reduceLeDiff, Nat.reduceEqDiff, Nat.reduceMul, Int.reduceToNat, reduceIte, Int.reduceLE, Int.reduceNeg, List.length_map, hb1, decide_true, decide_false]; rfl)) ?_)
   refine W.cond rfl (fun h => absurd h (by simp)) (fun _ => ?_)
   (repeat (first | refine W.seq ?_ | refine W.block ?_ | refine W.skip ?_ | refine W.exit ?_))
   refine W.regionK tab_ok 0 (by decide) ?_
   refine runk_split 1 (by simp only [exa, beq_self_eq_true, ByteArray.size, Nat.reduceAdd, Nat.reduceLeDiff, Nat.reduceEqDiff, Nat.reduceMul, Int.reduceToNat, reduceIte, Int.reduceLE, Int.reduceNeg, hcp, List.map_cons, List.map_nil]; rfl) ?_
   refine runk_call rfl rfl rfl rfl rfl (by simp) (cvs_cons cv_refl cvs_nil) (h1 _) ?_
   refine runk_exec (by simp only [exa, beq_self_eq_true, ByteArray.size, Nat.reduceAdd, Nat.reduceLeDiff, Nat.reduceEqDiff, Nat.reduceMul, Int.reduceToNat, reduceIte, Int.reduceLE, Int.reduceNeg]; rfl) ?_
   (repeat (first | refine W.seq ?_ | refine W.block ?_ | refine W.skip ?_ | refine W.exit ?_))
   refine W.regionK tab_ok 0 (by decide) ?_
   refine runk_split 1 (by simp only [exa, beq_self_eq_true, ByteArray.size, Nat.reduceAdd, Nat.reduceLeDiff, Nat.reduceEqDiff, Nat.reduceMul, Int.reduceToNat, reduceIte, Int.reduceLE, Int.reduceNeg, hcp, List.map_cons, List.map_nil]; rfl) ?_
   refine runk_call rfl rfl rfl rfl rfl (by simp) (cvs_cons cv_refl cvs_nil) (h2 _) ?_
   refine runk_exec (by simp only [exa, beq_self_eq_true, ByteArray.size, Nat.reduceAdd, Nat.reduceLeDiff, Nat.reduceEqDiff, Nat.reduceMul, Int.reduceToNat, reduceIte, Int.reduceLE, Int.reduceNeg]; rfl) ?_
   (repeat (first | refine W.seq ?_ | refine W.block ?_ | refine W.skip ?_ | refine W.exit ?_))
   refine W.regionK tab_ok 0 (by decide) ?_
   refine runk_split 4 (by simp only [exa, beq_self_eq_true, ByteArray.size, Nat.reduceAdd, Nat.reduceLeDiff, Nat.reduceEqDiff, Nat.reduceMul, Int.reduceToNat, reduceIte, Int.reduceLE, Int.reduceNeg]; rfl) ?_
   refine runk_call rfl rfl rfl rfl rfl (by simp) (cvs_cons cv_refl (cvs_cons cv_refl cvs_nil)) (h3 _) ?_
   refine runk_exec (by simp only [exa, beq_self_eq_true, ByteArray.size, Nat.reduceAdd, Nat.reduceLeDiff, Nat.reduceEqDiff, Nat.reduceMul, Int.reduceToNat, reduceIte, Int.reduceLE, Int.reduceNeg, eq_self, decide_true]; rfl) ?_
   repeat (first | refine W.seq ?_ | refine W.block ?_ | refine W.skip ?_ | refine W.exit ?_ | refine W.region tab_ok 0 (by decide) (exec_run (by simp only [exa, beq_self_eq_true, ByteArray.size, Nat.reduceAdd, Nat.reduceLeDiff, Nat.reduceEqDiff, Nat.reduceMul, Int.reduceToNat, reduceIte, Int.reduceLE, Int.reduceNeg]; rfl)) ?_)
   refine W.ret ⟨.inr rfl, by rfl, ?_⟩
   simp only [Tryd.f3, resA, resOne, toT, fin, exa, beq_self_eq_true, ByteArray.size, Nat.reduceAdd, Nat.reduceLeDiff, Nat.reduceEqDiff, Nat.reduceMul, Int.reduceToNat, reduceIte, Int.reduceLE, Int.reduceNeg]
set_option maxHeartbeats 4000000 in
theorem lawHangs_ok (p : Prc) (hpl : p.code.length ≤ 1000000000000000) (m : Mem) : COk Tryd.prog 4 [.agg (cP p)] m (.c (.bool true)) := by
 obtain ⟨u, T⟩ := tree_of p
 obtain ⟨L, e, hL, hlen⟩ := hangs_shape p u
 have h1 := fun m => hangs_ok p u T m
 have h2 := fun m => refHangs_ok p hpl u T m
 rw [hL] at h1 h2
 have h3 := fun m => sameEdges_ok L L (by omega) m
 rw [decide_eq_true rfl] at h3
 obtain ⟨cls, name, params, regs, code⟩ := p
 have hcp : cP ⟨cls, name, params, regs, code⟩ = [.str cls, .str name, .int .i64 params, .int .i64 regs, .sl (code.map cIns)] := rfl
 refine (ok_pure tab_ok Tryd.func4 (by kernel_rfl) rfl rfl (by rfl) (by rfl) (by rfl) (fun R hkeep => ?_) m)
 (repeat (first | refine W.seq ?_ | refine W.block ?_ | refine W.skip ?_ | refine W.exit ?_))
 refine W.region tab_ok 0 (by decide) (exec_run (by simp only [exa, beq_self_eq_true, ByteArray.size, Nat.reduceAdd, Nat.reduceLeDiff, Nat.reduceEqDiff, Nat.reduceMul, Int.reduceToNat, reduceIte, Int.reduceLE, Int.reduceNeg, hcp, List.map_cons, List.map_nil]; rfl)) ?_
 (repeat (first | refine W.seq ?_ | refine W.block ?_ | refine W.skip ?_ | refine W.exit ?_))
 refine W.regionK tab_ok 0 (by decide) ?_
 refine runk_split 0 (by simp only [exa, beq_self_eq_true, ByteArray.size, Nat.reduceAdd, Nat.reduceLeDiff, Nat.reduceEqDiff, Nat.reduceMul, Int.reduceToNat, reduceIte, Int.reduceLE, Int.reduceNeg]; rfl) ?_
 refine runk_call rfl rfl rfl rfl rfl (by simp) cvs_nil (live_ok _) ?_
 refine runk_exec (by simp only [exa, beq_self_eq_true, ByteArray.size, Nat.reduceAdd, Nat.reduceLeDiff, Nat.reduceEqDiff, Nat.reduceMul, Int.reduceToNat, reduceIte, Int.reduceLE, Int.reduceNeg]; rfl) ?_
 by_cases hb : (60 : Int) < code.length ∧ (code.length : Int) ≤ 2000
 ·have hb1 := eq_true hb.1
  have hb2 := eq_true hb.2
  repeat (first | refine W.seq ?_ | refine W.block ?_ | refine W.skip ?_ | refine W.exit ?_ | refine W.region tab_ok 0 (by decide) (exec_run (by simp only [exa, beq_self_eq_true, ByteArray.size, Nat.reduceAdd, Nat.reduceLeDiff, Nat.reduceEqDiff, Nat.reduceMul, Int.reduceToNat, reduceIte, Int.reduceLE, Int.reduceNeg, List.length_map, hb1, hb2, decide_true]; rfl)) ?_)
  refine W.cond rfl (fun _ => ?_) (fun h => absurd h (by simp))
  repeat (first | refine W.seq ?_ | refine W.block ?_ | refine W.skip ?_ | refine W.exit ?_ | refine W.region tab_ok 0 (by decide) (exec_run (by simp only [exa, beq_self_eq_true, ByteArray.size, Nat.reduceAdd, Nat.reduceLeDiff, Nat.reduceEqDiff, Nat.reduceMul, Int.reduceToNat, reduceIte, Int.reduceLE, Int.reduceNeg]; rfl)) ?_)
  refine W.ret ⟨.inr rfl, by rfl, ?_⟩
  simp only [Tryd.f4, resA, resOne, toT, fin, exa, beq_self_eq_true, ByteArray.size, Nat.reduceAdd, Nat.reduceLeDiff, Nat.reduceEqDiff, Nat.reduceMul, Int.reduceToNat, reduceIte, Int.reduceLE, Int.reduceNeg]
 ·by_cases hb1 : (60 : Int) < code.length
  ·have hb2 := eq_false (show ¬ (code.length : Int) ≤ 2000 from fun h => hb ⟨hb1, h⟩)
   have hb1 := eq_true hb1
   repeat (first | refine W.seq ?_ | refine W.block ?_ | refine W.skip ?_ | refine W.exit ?_ | refine W.region tab_ok 0 (by decide) (exec_run (by simp only [exa, beq_self_eq_true, ByteArray.size, Nat.reduceAdd, Nat.reduceLeDiff, Nat.reduceEqDiff, Nat.reduceMul, Int.reduceToNat, reduceIte, Int.reduceLE, Int.reduceNeg, List.length_map, hb1, hb2, decide_true, decide_false]; rfl)) ?_)
   refine W.cond rfl (fun h => absurd h (by simp)) (fun _ => ?_)
   (repeat (first | refine W.seq ?_ | refine W.block ?_ | refine W.skip ?_ | refine W.exit ?_))
   refine W.regionK tab_ok 0 (by decide) ?_
   refine runk_split 1 (by simp only [exa, beq_self_eq_true, ByteArray.size, Nat.reduceAdd, Nat.reduceLeDiff, Nat.reduceEqDiff, Nat.reduceMul, Int.reduceToNat, reduceIte, Int.reduceLE, Int.reduceNeg, hcp, List.map_cons, List.map_nil]; rfl) ?_
   refine runk_call rfl rfl rfl rfl rfl (by simp) (cvs_cons cv_refl cvs_nil) (h1 _) ?_
   refine runk_exec (by simp only [exa, beq_self_eq_true, ByteArray.size, Nat.reduceAdd, Nat.reduceLeDiff, Nat.reduceEqDiff, Nat.reduceMul, Int.reduceToNat, reduceIte, Int.reduceLE, Int.reduceNeg]; rfl) ?_
   (repeat (first | refine W.seq ?_ | refine W.block ?_ | refine W.skip ?_ | refine W.exit ?_))
   refine W.regionK tab_ok 0 (by decide) ?_
   refine runk_split 1 (by simp only [exa, beq_self_eq_true, ByteArray.size, Nat.reduceAdd, Nat.reduceLeDiff, Nat.reduceEqDiff, Nat.reduceMul, Int.reduceToNat, reduceIte, Int.reduceLE, Int.reduceNeg, hcp, List.map_cons, List.map_nil]; rfl) ?_
   refine runk_call rfl rfl rfl rfl rfl (by simp) (cvs_cons cv_refl cvs_nil) (h2 _) ?_
   refine runk_exec (by simp only [exa, beq_self_eq_true, ByteArray.size, Nat.reduceAdd, Nat.reduceLeDiff, Nat.reduceEqDiff, Nat.reduceMul, Int.reduceToNat, reduceIte, Int.reduceLE, Int.reduceNeg]; rfl) ?_
   (repeat (first | refine W.seq ?_ | refine W.block ?_ | refine W.skip ?_ | refine W.exit ?_))
   refine W.regionK tab_ok 0 (by decide) ?_
   refine runk_split 4 (by simp only [exa, beq_self_eq_true, ByteArray.size, Nat.reduceAdd, Nat.reduceLeDiff, Nat.reduceEqDiff, Nat.reduceMul, Int.reduceToNat, reduceIte, Int.reduceLE, Int.reduceNeg]; rfl) ?_
   refine runk_call rfl rfl rfl rfl rfl (by simp) (cvs_cons cv_refl (cvs_cons cv_refl cvs_nil)) (h3 _) ?_
   refine runk_exec (by simp only [exa, beq_self_eq_true, ByteArray.size, Nat.reduceAdd, Nat.reduceLeDiff, Nat.reduceEqDiff, Nat.reduceMul, Int.reduceToNat, reduceIte, Int.reduceLE, Int.reduceNeg, eq_self, decide_true]; rfl) ?_
   repeat (first | refine W.seq ?_ | refine W.block ?_ | refine W.skip ?_ | refine W.exit ?_ | refine W.region tab_ok 0 (by decide) (exec_run (by simp only [exa, beq_self_eq_true, ByteArray.size, Nat.reduceAdd, Nat.reduceLeDiff, Nat.reduceEqDiff, Nat.reduceMul, Int.reduceToNat, reduceIte, Int.reduceLE, Int.reduceNeg]; rfl)) ?_)
   refine W.ret ⟨.inr rfl, by rfl, ?_⟩
   simp only [Tryd.f4, resA, resOne, toT, fin, exa, beq_self_eq_true, ByteArray.size, Nat.reduceAdd, Nat.reduceLeDiff, Nat.reduceEqDiff, Nat.reduceMul, Int.reduceToNat, reduceIte, Int.reduceLE, Int.reduceNeg]
  ·have hb1 := eq_false hb1
   repeat (first | refine W.seq ?_ | refine W.block ?_ | refine W.skip ?_ | refine W.exit ?_ | refine W.region tab_ok 0 (by decide) (exec_run (by simp only [exa, beq_self_eq_true, ByteArray.size, Nat.reduceAdd, Nat.reduceLeDiff, Nat.reduceEqDiff, Nat.reduceMul, Int.reduceToNat, reduceIte, Int.reduceLE, Int.reduceNeg, List.length_map, hb1, decide_true, decide_false]; rfl)) ?_)
   refine W.cond rfl (fun h => absurd h (by simp)) (fun _ => ?_)
   (repeat (first | refine W.seq ?_ | refine W.block ?_ | refine W.skip ?_ | refine W.exit ?_))
   refine W.regionK tab_ok 0 (by decide) ?_
   refine runk_split 1 (by simp only [exa, beq_self_eq_true, ByteArray.size, Nat.reduceAdd, Nat.reduceLeDiff, Nat.reduceEqDiff, Nat.reduceMul, Int.reduceToNat, reduceIte, Int.reduceLE, Int.reduceNeg, hcp, List.map_cons, List.map_nil]; rfl) ?_
   refine runk_call rfl rfl rfl rfl rfl (by simp) (cvs_cons cv_refl cvs_nil) (h1 _) ?_
   refine runk_exec (by simp only [exa, beq_self_eq_true, ByteArray.size, Nat.reduceAdd, Nat.reduceLeDiff, Nat.reduceEqDiff, Nat.reduceMul, Int.reduceToNat, reduceIte, Int.reduceLE, Int.reduceNeg]; rfl) ?_
   (repeat (first | refine W.seq ?_ | refine W.block ?_ | refine W.skip ?_ | refine W.exit ?_))
   refine W.regionK tab_ok 0 (by decide) ?_
   refine runk_split 1 (by simp only [exa, beq_self_eq_true, ByteArray.size, Nat.reduceAdd, Nat.reduceLeDiff, Nat.reduceEqDiff, Nat.reduceMul, Int.reduceToNat, reduceIte, Int.reduceLE, Int.reduceNeg, hcp, List.map_cons, List.map_nil]; rfl) ?_
   refine runk_call rfl rfl rfl rfl rfl (by simp) (cvs_cons cv_refl cvs_nil) (h2 _) ?_
   refine runk_exec (by simp only [exa, beq_self_eq_true, ByteArray.size, Nat.reduceAdd, Nat.reduceLeDiff, Nat.reduceEqDiff, Nat.reduceMul, Int.reduceToNat, reduceIte, Int.reduceLE, Int.reduceNeg]; rfl) ?_
   (repeat (first | refine W.seq ?_ | refine W.block ?_ | refine W.skip ?_ | refine W.exit ?_))
   refine W.regionK tab_ok 0 (by decide) ?_
   refine runk_split 4 (by simp only [exa, beq_self_eq_true, ByteArray.size, Nat.reduceAdd, Nat.reduceLeDiff, Nat.reduceEqDiff, Nat.reduceMul, Int.reduceToNat, reduceIte, Int.reduceLE, Int.reduceNeg]; rfl) ?_
   refine runk_call rfl rfl rfl rfl rfl (by simp) (cvs_cons cv_refl (cvs_cons cv_refl cvs_nil)) (h3 _) ?_
   refine runk_exec (by simp only [exa, beq_self_eq_true, ByteArray.size, Nat.reduceAdd, Nat.reduceLeDiff, Nat.reduceEqDiff, Nat.reduceMul, Int.reduceToNat, reduceIte, Int.reduceLE, Int.reduceNeg, eq_self, decide_true]; rfl) ?_
   repeat (first | refine W.seq ?_ | refine W.block ?_ | refine W.skip ?_ | refine W.exit ?_ | refine W.region tab_ok 0 (by decide) (exec_run (by simp only [exa, beq_self_eq_true, ByteArray.size, Nat.reduceAdd, Nat.reduceLeDiff, Nat.reduceEqDiff, Nat.reduceMul, Int.reduceToNat, reduceIte, Int.reduceLE, Int.reduceNeg]; rfl)) ?_)
   refine W.ret ⟨.inr rfl, by rfl, ?_⟩
   simp only [Tryd.f4, resA, resOne, toT, fin, exa, beq_self_eq_true, ByteArray.size, Nat.reduceAdd, Nat.reduceLeDiff, Nat.reduceEqDiff, Nat.reduceMul, Int.reduceToNat, reduceIte, Int.reduceLE, Int.reduceNeg]
end V
end Go.Proofs.YtnmfbaahabcocaaDoor
end
section
namespace Go.Proofs.YtnmfbaahabcocaaDoor
open Go.ChangeShapes Go.WideShapes Go.ChangeAt Go.RowKit
open Go.ChangeMaps (open_string shut_string)
open V
theorem controlPosts_met (os : Os) : laidMet Tryd.prog Rows.controlPostsRow.laid ((laidWorld os).forCall (fun _ _ => 0) ⟨#[], #[.agg #[.string ⟨#[]⟩, .string ⟨#[]⟩, .int .i64 0, .int .i64 0, .slice none 0 0]], []⟩).memory :=
 laidMet_of_run' 8 (by kernel_rfl) (by kernel_rfl)
theorem controlPosts_reads (os : Os) {H : Type} (enc : TypeId × Value → H) : ∃ places, DataW.whole enc Tryd.prog ((laidWorld os).forCall (fun _ _ => 0) ⟨#[], #[.agg #[.string ⟨#[]⟩, .string ⟨#[]⟩, .int .i64 0, .int .i64 0, .slice none 0 0]], []⟩).memory Tryd.f3.params.toList Rows.controlPostsSpec.vars false (#[.agg #[.string ⟨#[]⟩, .string ⟨#[]⟩, .int .i64 0, .int .i64 0, .slice none 0 0]] : Array Value).toList 8 = some ([.agg [.lit (.string []), .lit (.string []), .lit (.int .i64 0), .lit (.int .i64 0), .nil]], [], places) :=
 ⟨[], by kernel_rfl⟩
set_option maxRecDepth 100000 in
set_option maxHeartbeats 4000000 in
theorem controlPosts_lifted (os : Os) (started : os.Started) (H : Type) (enc : TypeId × Value → H) (F : Stop.Interp) :
  ReturnsInHanded {} Tryd.checked os 3 .any ((OpenSpec.ofChange Rows.controlPostsSpec).preRow enc Tryd.prog Tryd.f3 Rows.controlPostsRow.domain false Rows.controlPostsRow.laid) (((OpenSpec.ofChange Rows.controlPostsSpec).at F).post enc Tryd.prog Tryd.f3 false true false false) := by
 obtain ⟨places, hx⟩ := controlPosts_reads os enc
 refine returnsInHanded_of_row (C := Tryd.checked) (s := OpenSpec.ofChange Rows.controlPostsSpec) own started (by kernel_rfl) Tryd.func3
  (witness_row_at (enc := enc) (C := Tryd.checked) false (laidWorld os) #[.agg #[.string ⟨#[]⟩, .string ⟨#[]⟩, .int .i64 0, .int .i64 0, .slice none 0 0]] rfl (by kernel_rfl) (by kernel_rfl) (by kernel_rfl)
   (OpenSpec.preRow_of_cond 8 hx (by kernel_rfl) (fun k hk => by cases hk) (by kernel_rfl) (controlPosts_met os))) ?_
 intro W base args ds gs before hval0 hW _ _ hsz0 hL hsh _
 have hval : ∀ (j : Nat) t v, Tryd.f3.params[j]? = some t → args[j]? = some v → Value.okWide Tryd.prog W .any base t v := hval0
 have hW' := hW
 obtain ⟨p, q, hA0, hV, rfl, hfz, hnd⟩ := hW
 have hA : DataW.TrodAll enc Tryd.prog W 0 (fun _ => true) true Tryd.f3.params.toList args.toList ds p := hA0
 have hsz : ∀ n ∈ DataW.weightsEach Tryd.prog (Tryd.f3.params.toList ++ Rows.controlPostsSpec.plain.varTypes Tryd.prog) (ds ++ gs), n ≤ reachBytes := fun n hn => of_decide_eq_true (List.all_eq_true.1 hsz0 n hn)
 rw [Tryd.params3] at hA hval hsz
 clear hsz0
 obtain ⟨v0, vs0, d0, ds0, p0, q0, hargs, rfl, rfl, h0, r0⟩ := trodAll_cons hA
 obtain ⟨rfl, rfl, rfl⟩ := trodAll_nil r0
 obtain rfl : args = #[v0] := by cases args; simp_all
 obtain ⟨rfl, rfl⟩ := trodVars_none hV
 clear hA0 hval0
 simp only [List.append_nil] at hW'
 have k0 := h0
 have lt0 : ∀ x ∈ p0, x.block < W.heap.size := by obtain ⟨m, hm⟩ := k0; exact DataW.trod_lt m _ _ _ hm
 have fit0 : Fits Tryd.prog 24 d0 := fun n hn => hsz n (DataW.weights_mem_each (j := 0) rfl rfl n hn)
 obtain ⟨cs0, rfl, -⟩ := okWide_struct Tryd.underlying24 (hval 0 24 v0 rfl rfl)
 obtain ⟨rn0, h0⟩ := h0
 obtain ⟨l0, R0⟩ := read_proc fit0 h0
 replace R0 : RProc W (· < W.heap.size) cs0.toList l0 := by simpa [Value.cells] using R0
 refine (cok_true (vals := [_]) (lawPosts_ok l0 (proc_len R0) _) (table hL) (fun B => ⟨rv_proc R0, trivial⟩)).mono fun e W' ⟨he, bel⟩ => ?_
 subst he
 exact ⟨_, rfl, _, _, _, [], _, [], hW', trodAll_mk1 (shut_bool Tryd.underlying4 _), trodAll_cons_mk (Below.trod laidOut (by kernel_rfl) (of_decide_eq_true (by kernel_rfl)) k0 bel lt0) trodAll_mk0, rfl, bel.frame _, fun h => by cases h⟩
theorem controlPosts_holds : Rows.ControlPostsSaid :=
 OpenClaim.holds_of_cond 3 Tryd.f3 rfl rfl rfl rfl rfl rfl rfl ⟨rfl, rfl, rfl, rfl, rfl⟩ rfl rfl rfl rfl rfl (by kernel_rfl) Tryd.func3 (by kernel_rfl)
  (of_decide_eq_true (by kernel_rfl)) (by unfold Func.isWrapper; first | (rw [if_pos (by decide +kernel)]; kernel_rfl) | (rw [if_neg (by decide +kernel)]; exact ⟨rfl, rfl⟩))
  (fun os started H enc _ F => by rw [OpenClaim.pre_eq_preRow]; exact controlPosts_lifted os started H enc F)
theorem controlPosts_plain (f : FuncId) (fn : Func) (hf : Tryd.pinned.checked.prog.funcNamed "mordant/mordantlaw17.ControlPosts" = some f) (hfn : Tryd.pinned.checked.prog.funcs[f]? = some fn) :
  false = Tryd.pinned.checked.prog.looks [] ∧ ∀ (j : Nat) t, fn.params[j]? = some t → Tryd.pinned.checked.prog.wantsStandIn t = false := by
 obtain rfl : f = 3 := Option.some.inj ((show Tryd.prog.funcNamed "mordant/mordantlaw17.ControlPosts" = some 3 by kernel_rfl).symm.trans hf) |>.symm
 obtain rfl : fn = Tryd.f3 := (Option.some.inj (Tryd.func3.symm.trans hfn)).symm
 refine ⟨by kernel_rfl, fun j t ht => ?_⟩
 have hall : Tryd.f3.params.all (fun t => !Tryd.prog.wantsStandIn t) = true := by kernel_rfl
 have := Array.all_eq_true'.1 hall t (Array.mem_of_getElem? ht)
 have h2 : Tryd.prog.wantsStandIn t = false := by simpa using this
 exact h2
theorem controlPosts_card : Rows.ControlPostsCardSaid :=
 Claim7.holds_tied_plain_at .later [] _ _ _ _ controlPosts_holds (fun _ h => by cases h) (by kernel_rfl) (fun _ h => by cases h) controlPosts_row_tie rfl ⟨rfl, rfl⟩ (by kernel_rfl) rfl controlPosts_plain (by kernel_rfl)
end Go.Proofs.YtnmfbaahabcocaaDoor
end
section
namespace Go.Proofs.YtnmfbaahabcocaaDoor
open Go.ChangeShapes Go.WideShapes Go.ChangeAt Go.RowKit
open Go.ChangeMaps (open_string shut_string)
open V
theorem controlHangs_met (os : Os) : laidMet Tryd.prog Rows.controlHangsRow.laid ((laidWorld os).forCall (fun _ _ => 0) ⟨#[], #[.agg #[.string ⟨#[]⟩, .string ⟨#[]⟩, .int .i64 0, .int .i64 0, .slice none 0 0]], []⟩).memory :=
 laidMet_of_run' 8 (by kernel_rfl) (by kernel_rfl)
theorem controlHangs_reads (os : Os) {H : Type} (enc : TypeId × Value → H) : ∃ places, DataW.whole enc Tryd.prog ((laidWorld os).forCall (fun _ _ => 0) ⟨#[], #[.agg #[.string ⟨#[]⟩, .string ⟨#[]⟩, .int .i64 0, .int .i64 0, .slice none 0 0]], []⟩).memory Tryd.f4.params.toList Rows.controlHangsSpec.vars false (#[.agg #[.string ⟨#[]⟩, .string ⟨#[]⟩, .int .i64 0, .int .i64 0, .slice none 0 0]] : Array Value).toList 8 = some ([.agg [.lit (.string []), .lit (.string []), .lit (.int .i64 0), .lit (.int .i64 0), .nil]], [], places) :=
 ⟨[], by kernel_rfl⟩
set_option maxRecDepth 100000 in
set_option maxHeartbeats 4000000 in
theorem controlHangs_lifted (os : Os) (started : os.Started) (H : Type) (enc : TypeId × Value → H) (F : Stop.Interp) :
  ReturnsInHanded {} Tryd.checked os 4 .any ((OpenSpec.ofChange Rows.controlHangsSpec).preRow enc Tryd.prog Tryd.f4 Rows.controlHangsRow.domain false Rows.controlHangsRow.laid) (((OpenSpec.ofChange Rows.controlHangsSpec).at F).post enc Tryd.prog Tryd.f4 false true false false) := by
 obtain ⟨places, hx⟩ := controlHangs_reads os enc
 refine returnsInHanded_of_row (C := Tryd.checked) (s := OpenSpec.ofChange Rows.controlHangsSpec) own started (by kernel_rfl) Tryd.func4
  (witness_row_at (enc := enc) (C := Tryd.checked) false (laidWorld os) #[.agg #[.string ⟨#[]⟩, .string ⟨#[]⟩, .int .i64 0, .int .i64 0, .slice none 0 0]] rfl (by kernel_rfl) (by kernel_rfl) (by kernel_rfl)
   (OpenSpec.preRow_of_cond 8 hx (by kernel_rfl) (fun k hk => by cases hk) (by kernel_rfl) (controlHangs_met os))) ?_
 intro W base args ds gs before hval0 hW _ _ hsz0 hL hsh _
 have hval : ∀ (j : Nat) t v, Tryd.f4.params[j]? = some t → args[j]? = some v → Value.okWide Tryd.prog W .any base t v := hval0
 have hW' := hW
 obtain ⟨p, q, hA0, hV, rfl, hfz, hnd⟩ := hW
 have hA : DataW.TrodAll enc Tryd.prog W 0 (fun _ => true) true Tryd.f4.params.toList args.toList ds p := hA0
 have hsz : ∀ n ∈ DataW.weightsEach Tryd.prog (Tryd.f4.params.toList ++ Rows.controlHangsSpec.plain.varTypes Tryd.prog) (ds ++ gs), n ≤ reachBytes := fun n hn => of_decide_eq_true (List.all_eq_true.1 hsz0 n hn)
 rw [Tryd.params4] at hA hval hsz
 clear hsz0
 obtain ⟨v0, vs0, d0, ds0, p0, q0, hargs, rfl, rfl, h0, r0⟩ := trodAll_cons hA
 obtain ⟨rfl, rfl, rfl⟩ := trodAll_nil r0
 obtain rfl : args = #[v0] := by cases args; simp_all
 obtain ⟨rfl, rfl⟩ := trodVars_none hV
 clear hA0 hval0
 simp only [List.append_nil] at hW'
 have k0 := h0
 have lt0 : ∀ x ∈ p0, x.block < W.heap.size := by obtain ⟨m, hm⟩ := k0; exact DataW.trod_lt m _ _ _ hm
 have fit0 : Fits Tryd.prog 24 d0 := fun n hn => hsz n (DataW.weights_mem_each (j := 0) rfl rfl n hn)
 obtain ⟨cs0, rfl, -⟩ := okWide_struct Tryd.underlying24 (hval 0 24 v0 rfl rfl)
 obtain ⟨rn0, h0⟩ := h0
 obtain ⟨l0, R0⟩ := read_proc fit0 h0
 replace R0 : RProc W (· < W.heap.size) cs0.toList l0 := by simpa [Value.cells] using R0
 refine (cok_true (vals := [_]) (lawHangs_ok l0 (proc_len R0) _) (table hL) (fun B => ⟨rv_proc R0, trivial⟩)).mono fun e W' ⟨he, bel⟩ => ?_
 subst he
 exact ⟨_, rfl, _, _, _, [], _, [], hW', trodAll_mk1 (shut_bool Tryd.underlying4 _), trodAll_cons_mk (Below.trod laidOut (by kernel_rfl) (of_decide_eq_true (by kernel_rfl)) k0 bel lt0) trodAll_mk0, rfl, bel.frame _, fun h => by cases h⟩
theorem controlHangs_holds : Rows.ControlHangsSaid :=
 OpenClaim.holds_of_cond 4 Tryd.f4 rfl rfl rfl rfl rfl rfl rfl ⟨rfl, rfl, rfl, rfl, rfl⟩ rfl rfl rfl rfl rfl (by kernel_rfl) Tryd.func4 (by kernel_rfl)
  (of_decide_eq_true (by kernel_rfl)) (by unfold Func.isWrapper; first | (rw [if_pos (by decide +kernel)]; kernel_rfl) | (rw [if_neg (by decide +kernel)]; exact ⟨rfl, rfl⟩))
  (fun os started H enc _ F => by rw [OpenClaim.pre_eq_preRow]; exact controlHangs_lifted os started H enc F)
theorem controlHangs_plain (f : FuncId) (fn : Func) (hf : Tryd.pinned.checked.prog.funcNamed "mordant/mordantlaw17.ControlHangs" = some f) (hfn : Tryd.pinned.checked.prog.funcs[f]? = some fn) :
  false = Tryd.pinned.checked.prog.looks [] ∧ ∀ (j : Nat) t, fn.params[j]? = some t → Tryd.pinned.checked.prog.wantsStandIn t = false := by
 obtain rfl : f = 4 := Option.some.inj ((show Tryd.prog.funcNamed "mordant/mordantlaw17.ControlHangs" = some 4 by kernel_rfl).symm.trans hf) |>.symm
 obtain rfl : fn = Tryd.f4 := (Option.some.inj (Tryd.func4.symm.trans hfn)).symm
 refine ⟨by kernel_rfl, fun j t ht => ?_⟩
 have hall : Tryd.f4.params.all (fun t => !Tryd.prog.wantsStandIn t) = true := by kernel_rfl
 have := Array.all_eq_true'.1 hall t (Array.mem_of_getElem? ht)
 have h2 : Tryd.prog.wantsStandIn t = false := by simpa using this
 exact h2
theorem controlHangs_card : Rows.ControlHangsCardSaid :=
 Claim7.holds_tied_plain_at .later [] _ _ _ _ controlHangs_holds (fun _ h => by cases h) (by kernel_rfl) (fun _ h => by cases h) controlHangs_row_tie rfl ⟨rfl, rfl⟩ (by kernel_rfl) rfl controlHangs_plain (by kernel_rfl)
end Go.Proofs.YtnmfbaahabcocaaDoor
end
section
namespace Go.Proofs.YtnmfbaahabcocaaDoor
namespace V
open Go.RowKit G C17
def cB (b : Bool) : List C := [.bool b]
theorem met_ok (L : List Nat) (hL : L.length ≤ 1000000) (i : Nat) (m : Mem) : COk Tryd.prog 15 [.c (.sl (L.map cN)), .c (.int .i64 i)] m (.c (.bool (decide (i ∈ L)))) := by
 refine (ok_pure tab_ok Tryd.func15 (by kernel_rfl) rfl rfl (by rfl) (by rfl) (by rfl) (fun R hkeep => ?_) m)
 repeat (first | refine W.seq ?_ | refine W.block ?_ | refine W.skip ?_ | refine W.exit ?_ | refine W.region tab_ok 0 (by decide) (exec_run (by simp only [exa, beq_self_eq_true, ByteArray.size, Nat.reduceAdd, Nat.reduceLeDiff, Nat.reduceEqDiff, Nat.reduceMul, Int.reduceToNat, reduceIte, Int.reduceLE, Int.reduceNeg, List.length_map]; rfl)) ?_)
 refine W.loop (ι := Nat) (fun k => ⟨upd (upd (upd (upd (upd (fun _ => .top) 1 (.c (.int .i64 i))) 4 (.c (.bool false))) 7 (.c (.sl (L.map cN)))) 8 (.c (.int .i64 L.length))) 9 (.c (.int .i64 k)), Mem.nil⟩) (fun k => k ≤ L.length ∧ i ∉ L.take k) (fun k => L.length - k) 0 ?start ⟨Nat.zero_le _, by simp⟩ ?round
 case start =>
  refine le_mk ?sle ?mle ?swf ?mwf ?kept (by rfl)
  case kept => exact kept_not hkeep
  case swf => repeat (first | exact swf_top _ | refine swf_upd ?_ (by simp [A.ids, upd_app]))
  case mwf => repeat (first | exact mwf_nil _ | refine mwf_upd ?_ (by simp [A.ids, O.ids, upd_app]))
  case mle => repeat (first | exact mle_nil _ | exact mle_refl _ | refine mle_upd ?_ (by first | rfl | (simp only [upd_app, killM_app, Nat.reduceEqDiff, reduceIte]; done)))
  case sle => repeat (first | exact sle_top _ | exact sle_refl _ | refine sle_upd ?_ (by first | rfl | (simp only [upd_app, entry_zero, entry_succ, Nat.reduceEqDiff, reduceIte]; done)))
 case round =>
  rintro k ⟨hkl, hno⟩
  repeat (first | refine W.seq ?_ | refine W.block ?_ | refine W.skip ?_ | refine W.exit ?_ | refine W.region tab_ok 0 (by decide) (exec_run (by simp only [exa, beq_self_eq_true, ByteArray.size, Nat.reduceAdd, Nat.reduceLeDiff, Nat.reduceEqDiff, Nat.reduceMul, Int.reduceToNat, reduceIte, Int.reduceLE, Int.reduceNeg]; rfl)) ?_)
  refine W.cond rfl ?_ ?_
  ·intro hlt
   simp only [decide_eq_true_eq, Int.ofNat_lt] at hlt
   obtain ⟨x, hx⟩ : ∃ x, L[k]? = some x := ⟨_, List.getElem?_eq_getElem hlt⟩
   by_cases hxi : x = i
   ·have hq := eq_true (show (x : Int) = (i : Int) by omega)
    repeat (first | refine W.seq ?_ | refine W.block ?_ | refine W.skip ?_ | refine W.exit ?_ | refine W.region tab_ok 0 (by decide) (exec_run (by simp only [exa, beq_self_eq_true, ByteArray.size, Nat.reduceAdd, Nat.reduceLeDiff, Nat.reduceEqDiff, Nat.reduceMul, Int.reduceToNat, reduceIte, Int.reduceLE, Int.reduceNeg, at_map hx, cN, hq, decide_true]; rfl)) ?_)
    refine W.cond rfl (fun _ => ?_) (fun h => absurd h (by simp))
    repeat (first | refine W.seq ?_ | refine W.block ?_ | refine W.skip ?_ | refine W.exit ?_ | refine W.region tab_ok 0 (by decide) (exec_run (by simp only [exa, beq_self_eq_true, ByteArray.size, Nat.reduceAdd, Nat.reduceLeDiff, Nat.reduceEqDiff, Nat.reduceMul, Int.reduceToNat, reduceIte, Int.reduceLE, Int.reduceNeg]; rfl)) ?_)
    refine W.ret ⟨.inr rfl, by rfl, ?_⟩
    simp only [Tryd.f15, resA, resOne, toT, fin, exa, beq_self_eq_true, ByteArray.size, Nat.reduceAdd, Nat.reduceLeDiff, Nat.reduceEqDiff, Nat.reduceMul, Int.reduceToNat, reduceIte, Int.reduceLE, Int.reduceNeg]
    have : i ∈ L := hxi ▸ List.mem_of_getElem? hx
    simp [this]
   ·have hq := eq_false (show ¬ (x : Int) = (i : Int) by omega)
    repeat (first | refine W.seq ?_ | refine W.block ?_ | refine W.skip ?_ | refine W.exit ?_ | refine W.region tab_ok 0 (by decide) (exec_run (by simp only [exa, beq_self_eq_true, ByteArray.size, Nat.reduceAdd, Nat.reduceLeDiff, Nat.reduceEqDiff, Nat.reduceMul, Int.reduceToNat, reduceIte, Int.reduceLE, Int.reduceNeg, at_map hx, cN, hq, decide_false]; rfl)) ?_)
    refine W.cond rfl (fun h => absurd h (by simp)) (fun _ => ?_)
    repeat (first | refine W.seq ?_ | refine W.block ?_ | refine W.skip ?_ | refine W.exit ?_ | refine W.region tab_ok 0 (by decide) (exec_run (by simp only [exa, beq_self_eq_true, ByteArray.size, Nat.reduceAdd, Nat.reduceLeDiff, Nat.reduceEqDiff, Nat.reduceMul, Int.reduceToNat, reduceIte, Int.reduceLE, Int.reduceNeg]; rfl)) ?_)
    refine ⟨k + 1, ⟨hlt, ?_⟩, by omega, ?_⟩
    ·rw [List.take_add_one, hx, List.mem_append, Option.mem_toList]
     rintro (h | h)
     ·exact hno h
     ·exact hxi (by simpa using h)
    refine le_mk ?sle ?mle ?swf ?mwf ?kept (by rfl)
    case kept => exact kept_not hkeep
    case swf => repeat (first | exact swf_top _ | refine swf_upd ?_ (by simp [A.ids, upd_app]))
    case mwf => repeat (first | exact mwf_nil _ | refine mwf_upd ?_ (by simp [A.ids, O.ids, upd_app]))
    case mle => repeat (first | exact mle_nil _ | exact mle_refl _ | refine mle_upd ?_ (by first | rfl | (simp only [upd_app, killM_app, Nat.reduceEqDiff, reduceIte, wrap_succ (show k + 1 < 9223372036854775808 by omega)]; done)))
    case sle => repeat (first | exact sle_top _ | exact sle_refl _ | refine sle_upd ?_ (by first | rfl | (simp only [upd_app, entry_zero, entry_succ, Nat.reduceEqDiff, reduceIte, wrap_succ (show k + 1 < 9223372036854775808 by omega)]; done)))
  ·intro hge
   simp only [decide_eq_false_iff_not, Int.ofNat_lt] at hge
   obtain rfl : k = L.length := by omega
   rw [List.take_length] at hno
   repeat (first | refine W.seq ?_ | refine W.block ?_ | refine W.skip ?_ | refine W.exit ?_ | refine W.region tab_ok 0 (by decide) (exec_run (by simp only [exa, beq_self_eq_true, ByteArray.size, Nat.reduceAdd, Nat.reduceLeDiff, Nat.reduceEqDiff, Nat.reduceMul, Int.reduceToNat, reduceIte, Int.reduceLE, Int.reduceNeg]; rfl)) ?_)
   refine W.ret ⟨.inr rfl, by rfl, ?_⟩
   simp only [Tryd.f15, resA, resOne, toT, fin, exa, beq_self_eq_true, ByteArray.size, Nat.reduceAdd, Nat.reduceLeDiff, Nat.reduceEqDiff, Nat.reduceMul, Int.reduceToNat, reduceIte, Int.reduceLE, Int.reduceNeg]
   simp [hno]
set_option maxHeartbeats 4000000 in
theorem walk_ok (p : Prc) (hok : okC p.code = true) (bs : List Bool) (m : Mem) : COk Tryd.prog 14 [.agg (cP p), .c (.sl (bs.map cB))] m (.c (.sl ((walkF p.code bs 300 0 0 []).map cN))) := by
 have hn2 : 1 ≤ p.code.length ∧ p.code.length ≤ 2000 := by
  have := hok
  unfold okC at this
  simp only [Bool.and_eq_true, decide_eq_true_eq] at this
  omega
 have hnx := fun i (hi : i ≤ p.code.length) m => refNext_ok p i (by omega) hi m
 obtain ⟨cls, name, params, regs, code⟩ := p
 simp only at hok hn2 hnx ⊢
 have hcp : cP ⟨cls, name, params, regs, code⟩ = [.str cls, .str name, .int .i64 params, .int .i64 regs, .sl (code.map cIns)] := rfl
 refine (ok_pure tab_ok Tryd.func14 (by kernel_rfl) rfl rfl (by rfl) (by rfl) (by rfl) (fun R hkeep => ?_) m)
 repeat (first | refine W.seq ?_ | refine W.block ?_ | refine W.skip ?_ | refine W.exit ?_ | refine W.region tab_ok 0 (by decide) (exec_run (by simp only [exa, beq_self_eq_true, ByteArray.size, Nat.reduceAdd, Nat.reduceLeDiff, Nat.reduceEqDiff, Nat.reduceMul, Int.reduceToNat, reduceIte, Int.reduceLE, Int.reduceNeg, hcp, List.map_cons, List.map_nil]; rfl)) ?_)
 refine W.newArr 6 50 3 1 rfl rfl ?_
 refine W.loop (ι := Nat × Nat × Nat × List Nat) (fun x => ⟨upd (upd (upd (upd (upd (upd (fun _ => .top) 1 (.c (.sl (bs.map cB)))) 2 (.ptr 2 0)) 5 (.c (.int .i64 x.2.1))) 6 (.own 50)) 7 (.c (.int .i64 x.2.2.1))) 9 (.c (.int .i64 x.1)),
  upd (upd Mem.nil 2 (some (.box 24 [.c (.str cls), .c (.str name), .c (.int .i64 params), .c (.int .i64 regs), .c (.sl (code.map cIns))]))) 50 (some (.arr 3 1 (x.2.2.2.map cN)))⟩)
  (fun x => walkF code bs 300 0 0 [] = walkF code bs (300 - x.1) x.2.1 x.2.2.1 x.2.2.2 ∧ x.2.1 < code.length ∧ x.2.2.2.length = x.1 ∧ x.2.2.1 ≤ x.1 ∧ x.1 ≤ 300) (fun x => 300 - x.1) (0, 0, 0, []) ?start ⟨rfl, by simp only; omega, rfl, by simp, by simp⟩ ?round
 case start =>
  refine le_mk ?sle ?mle ?swf ?mwf (kept_not hkeep) (by rfl)
  case swf => repeat (first | exact swf_top _ | refine swf_upd ?_ (by simp [A.ids, upd_app]))
  case mwf => repeat (first | exact mwf_nil _ | refine mwf_upd ?_ (by simp [A.ids, O.ids, upd_app]))
  case mle => repeat (first | exact mle_nil _ | exact mle_refl _ | refine mle_upd ?_ (by first | rfl | (simp only [upd_app, killM_app, O.kill, A.kill, Nat.reduceEqDiff, reduceIte, Option.map_some, Option.map_none, List.map_cons, List.map_nil]; done)))
  case sle => repeat (first | exact sle_top _ | exact sle_refl _ | refine sle_upd ?_ (by first | rfl | (simp only [upd_app, killS_app, A.kill, entry_zero, entry_succ, Nat.reduceEqDiff, reduceIte]; done)))
 case round =>
  rintro ⟨j, i, k, out⟩ ⟨hw, hi, hol, hkj, hj3⟩
  simp only at hw hi hol hkj hj3
  by_cases hj : j < 300
  ·have hjt := eq_true (show (j : Int) < 300 by omega)
   obtain ⟨f, hf⟩ : ∃ f, 300 - j = f + 1 := ⟨300 - j - 1, by omega⟩
   (repeat (first | refine W.seq ?_ | refine W.block ?_ | refine W.skip ?_ | refine W.exit ?_))
   refine W.region tab_ok 0 (by decide) (exec_run (by simp only [exa, beq_self_eq_true, ByteArray.size, Nat.reduceAdd, Nat.reduceLeDiff, Nat.reduceEqDiff, Nat.reduceMul, Int.reduceToNat, reduceIte, Int.reduceLE, Int.reduceNeg, hjt, decide_true]; rfl)) ?_
   (repeat (first | refine W.seq ?_ | refine W.block ?_ | refine W.skip ?_ | refine W.exit ?_))
   refine W.cond rfl (fun _ => ?_) (fun h => absurd h (by simp))
   (repeat (first | refine W.seq ?_ | refine W.block ?_ | refine W.skip ?_ | refine W.exit ?_))
   refine W.regionK tab_ok 0 (by decide) ?_
   refine runk_split 3 (by simp only [exa, beq_self_eq_true, ByteArray.size, Nat.reduceAdd, Nat.reduceLeDiff, Nat.reduceEqDiff, Nat.reduceMul, Int.reduceToNat, reduceIte, Int.reduceLE, Int.reduceNeg]; rfl) ?_
   refine runk_append tab_ok 50 rfl rfl rfl rfl rfl rfl rfl rfl (by first | rfl | (simp only [exa, beq_self_eq_true, ByteArray.size, Nat.reduceAdd, Nat.reduceLeDiff, Nat.reduceEqDiff, Nat.reduceMul, Int.reduceToNat, reduceIte, Int.reduceLE, Int.reduceNeg]; rfl)) rfl rfl rfl rfl (nokeep hkeep) (by intro z hz; simp at hz; subst hz; rfl) (by simp only [List.length_map, List.length_append, List.length_cons, List.length_nil]; omega) (by decide) ?_
   refine runk_exec (by simp only [exa, beq_self_eq_true, ByteArray.size, Nat.reduceAdd, Nat.reduceLeDiff, Nat.reduceEqDiff, Nat.reduceMul, Int.reduceToNat, reduceIte, Int.reduceLE, Int.reduceNeg]; rfl) ?_
   (repeat (first | refine W.seq ?_ | refine W.block ?_ | refine W.skip ?_ | refine W.exit ?_))
   cases hn : nx code i with
   | nil =>
    have hst : stepF code bs i k = none := by unfold stepF; rw [hn]
    have hnx := hnx i (by omega)
    rw [hn] at hnx
    refine W.regionK tab_ok 0 (by decide) ?_
    refine runk_split 2 (by simp only [exa, beq_self_eq_true, ByteArray.size, Nat.reduceAdd, Nat.reduceLeDiff, Nat.reduceEqDiff, Nat.reduceMul, Int.reduceToNat, reduceIte, Int.reduceLE, Int.reduceNeg, hcp, List.map_cons, List.map_nil]; rfl) ?_
    refine runk_call rfl rfl rfl rfl rfl (by simp) (cvs_cons cv_refl (cvs_cons cv_refl cvs_nil)) (hnx _) ?_
    refine runk_exec (by simp only [exa, beq_self_eq_true, ByteArray.size, Nat.reduceAdd, Nat.reduceLeDiff, Nat.reduceEqDiff, Nat.reduceMul, Int.reduceToNat, reduceIte, Int.reduceLE, Int.reduceNeg]; rfl) ?_
    repeat (first | refine W.seq ?_ | refine W.block ?_ | refine W.skip ?_ | refine W.exit ?_ | refine W.region tab_ok 0 (by decide) (exec_run (by simp only [exa, beq_self_eq_true, ByteArray.size, Nat.reduceAdd, Nat.reduceLeDiff, Nat.reduceEqDiff, Nat.reduceMul, Int.reduceToNat, reduceIte, Int.reduceLE, Int.reduceNeg, List.map_nil, List.length_nil, Int.cast_ofNat_Int, decide_true]; rfl)) ?_)
    refine W.cond rfl (fun _ => ?_) (fun h => absurd h (by simp))
    repeat (first | refine W.seq ?_ | refine W.block ?_ | refine W.skip ?_ | refine W.exit ?_ | refine W.region tab_ok 0 (by decide) (exec_run (by simp only [exa, beq_self_eq_true, ByteArray.size, Nat.reduceAdd, Nat.reduceLeDiff, Nat.reduceEqDiff, Nat.reduceMul, Int.reduceToNat, reduceIte, Int.reduceLE, Int.reduceNeg]; rfl)) ?_)
    refine W.ret ⟨.inr rfl, by rfl, ?_⟩
    simp only [Tryd.f14, resA, resOne, toT, fin, exa, beq_self_eq_true, ByteArray.size, Nat.reduceAdd, Nat.reduceLeDiff, Nat.reduceEqDiff, Nat.reduceMul, Int.reduceToNat, reduceIte, Int.reduceLE, Int.reduceNeg]
    rw [hw, hf, walkF_none hst]
    simp [cN]
   | cons a r =>
    have hnx := hnx i (by omega)
    have hlen := nx_len code i
    have hall : ∀ z ∈ nx code i, 0 ≤ z ∧ z < code.length := fun z hz => okC_in hok hz
    rw [hn] at hnx hlen hall
    obtain ⟨a, rfl⟩ := Int.eq_ofNat_of_zero_le (hall a (by simp)).1
    cases r with
    | nil =>
     have hst : stepF code bs i k = some (a, k) := by unfold stepF; rw [hn]; simp
     refine W.regionK tab_ok 0 (by decide) ?_
     refine runk_split 2 (by simp only [exa, beq_self_eq_true, ByteArray.size, Nat.reduceAdd, Nat.reduceLeDiff, Nat.reduceEqDiff, Nat.reduceMul, Int.reduceToNat, reduceIte, Int.reduceLE, Int.reduceNeg, hcp, List.map_cons, List.map_nil]; rfl) ?_
     refine runk_call rfl rfl rfl rfl rfl (by simp) (cvs_cons cv_refl (cvs_cons cv_refl cvs_nil)) (hnx _) ?_
     refine runk_exec (by simp only [exa, beq_self_eq_true, ByteArray.size, Nat.reduceAdd, Nat.reduceLeDiff, Nat.reduceEqDiff, Nat.reduceMul, Int.reduceToNat, reduceIte, Int.reduceLE, Int.reduceNeg]; rfl) ?_
     repeat (first | refine W.seq ?_ | refine W.block ?_ | refine W.skip ?_ | refine W.exit ?_ | refine W.region tab_ok 0 (by decide) (exec_run (by simp only [exa, beq_self_eq_true, ByteArray.size, Nat.reduceAdd, Nat.reduceLeDiff, Nat.reduceEqDiff, Nat.reduceMul, Int.reduceToNat, reduceIte, Int.reduceLE, Int.reduceNeg, List.map_nil, List.map_cons, List.length_nil, List.length_cons, Int.cast_ofNat_Int, Int.reduceEq, decide_true, decide_false, cZ]; rfl)) ?_)
     refine W.cond rfl (fun h => absurd h (by simp)) (fun _ => ?_)
     repeat (first | refine W.seq ?_ | refine W.block ?_ | refine W.skip ?_ | refine W.exit ?_ | refine W.region tab_ok 0 (by decide) (exec_run (by simp only [exa, beq_self_eq_true, ByteArray.size, Nat.reduceAdd, Nat.reduceLeDiff, Nat.reduceEqDiff, Nat.reduceMul, Int.reduceToNat, reduceIte, Int.reduceLE, Int.reduceNeg, List.map_nil, List.map_cons, List.length_nil, List.length_cons, Int.cast_ofNat_Int, Int.reduceEq, Int.reduceLT, decide_true, decide_false, cZ]; rfl)) ?_)
     refine W.cond rfl (fun h => absurd h (by simp)) (fun _ => ?_)
     repeat (first | refine W.seq ?_ | refine W.block ?_ | refine W.skip ?_ | refine W.exit ?_ | refine W.region tab_ok 0 (by decide) (exec_run (by simp only [exa, beq_self_eq_true, ByteArray.size, Nat.reduceAdd, Nat.reduceLeDiff, Nat.reduceEqDiff, Nat.reduceMul, Int.reduceToNat, reduceIte, Int.reduceLE, Int.reduceNeg]; rfl)) ?_)
     refine ⟨(j + 1, a, k, out ++ [i]), ⟨?_, ?_, ?_, ?_, ?_⟩, ?_, ?_⟩
     ·skip
      show walkF code bs 300 0 0 [] = walkF code bs (300 - (j + 1)) a k (out ++ [i])
      rw [hw, hf, walkF_some hst, show 300 - (j + 1) = f by omega]
     ·exact (stepF_in hok hi hst).1
     ·simp only [List.length_append, List.length_cons, List.length_nil]; omega
     ·simp only; omega
     ·simp only; omega
     ·simp only; omega
     refine le_mk ?sle ?mle ?swf ?mwf (kept_not hkeep) (by rfl)
     case swf => repeat (first | exact swf_top _ | refine swf_upd ?_ (by simp [A.ids, upd_app, List.map_append, List.map_cons, List.map_nil, cN, wrap_succ (show j + 1 < 9223372036854775808 by omega), wrap_succ (show k + 1 < 9223372036854775808 by omega)]))
     case mwf => repeat (first | exact mwf_nil _ | refine mwf_upd ?_ (by simp [A.ids, O.ids, upd_app, List.map_append, List.map_cons, List.map_nil, cN, wrap_succ (show j + 1 < 9223372036854775808 by omega), wrap_succ (show k + 1 < 9223372036854775808 by omega)]))
     case mle => repeat (first | exact mle_nil _ | exact mle_refl _ | refine mle_upd ?_ (by first | rfl | (simp only [upd_app, killM_app, O.kill, A.kill, Nat.reduceEqDiff, reduceIte, Option.map_some, Option.map_none, List.map_cons, List.map_nil, List.map_append, List.map_cons, List.map_nil, cN, wrap_succ (show j + 1 < 9223372036854775808 by omega), wrap_succ (show k + 1 < 9223372036854775808 by omega)]; done)))
     case sle => repeat (first | exact sle_top _ | exact sle_refl _ | refine sle_upd ?_ (by first | rfl | (simp only [upd_app, killS_app, A.kill, entry_zero, entry_succ, Nat.reduceEqDiff, reduceIte, List.map_append, List.map_cons, List.map_nil, cN, wrap_succ (show j + 1 < 9223372036854775808 by omega), wrap_succ (show k + 1 < 9223372036854775808 by omega)]; done)))
    | cons b r =>
     obtain rfl : r = [] := by
      cases r with
      | nil => rfl
      | cons c r => simp at hlen
     obtain ⟨b, rfl⟩ := Int.eq_ofNat_of_zero_le (hall b (by simp)).1
     refine W.regionK tab_ok 0 (by decide) ?_
     refine runk_split 2 (by simp only [exa, beq_self_eq_true, ByteArray.size, Nat.reduceAdd, Nat.reduceLeDiff, Nat.reduceEqDiff, Nat.reduceMul, Int.reduceToNat, reduceIte, Int.reduceLE, Int.reduceNeg, hcp, List.map_cons, List.map_nil]; rfl) ?_
     refine runk_call rfl rfl rfl rfl rfl (by simp) (cvs_cons cv_refl (cvs_cons cv_refl cvs_nil)) (hnx _) ?_
     refine runk_exec (by simp only [exa, beq_self_eq_true, ByteArray.size, Nat.reduceAdd, Nat.reduceLeDiff, Nat.reduceEqDiff, Nat.reduceMul, Int.reduceToNat, reduceIte, Int.reduceLE, Int.reduceNeg]; rfl) ?_
     by_cases hbz : bs.length = 0
     ·have hst : stepF code bs i k = some (a, k) := by unfold stepF; rw [hn]; simp [hbz]
      repeat (first | refine W.seq ?_ | refine W.block ?_ | refine W.skip ?_ | refine W.exit ?_ | refine W.region tab_ok 0 (by decide) (exec_run (by simp only [exa, beq_self_eq_true, ByteArray.size, Nat.reduceAdd, Nat.reduceLeDiff, Nat.reduceEqDiff, Nat.reduceMul, Int.reduceToNat, reduceIte, Int.reduceLE, Int.reduceNeg, List.map_nil, List.map_cons, List.length_nil, List.length_cons, Int.cast_ofNat_Int, Int.reduceEq, decide_true, decide_false, cZ]; rfl)) ?_)
      refine W.cond rfl (fun h => absurd h (by simp)) (fun _ => ?_)
      repeat (first | refine W.seq ?_ | refine W.block ?_ | refine W.skip ?_ | refine W.exit ?_ | refine W.region tab_ok 0 (by decide) (exec_run (by simp only [exa, beq_self_eq_true, ByteArray.size, Nat.reduceAdd, Nat.reduceLeDiff, Nat.reduceEqDiff, Nat.reduceMul, Int.reduceToNat, reduceIte, Int.reduceLE, Int.reduceNeg, List.map_nil, List.map_cons, List.length_nil, List.length_cons, Int.cast_ofNat_Int, Int.reduceEq, Int.reduceLT, decide_true, decide_false, cZ, List.length_map, hbz]; rfl)) ?_)
      refine W.cond rfl (fun h => absurd h (by simp)) (fun _ => ?_)
      repeat (first | refine W.seq ?_ | refine W.block ?_ | refine W.skip ?_ | refine W.exit ?_ | refine W.region tab_ok 0 (by decide) (exec_run (by simp only [exa, beq_self_eq_true, ByteArray.size, Nat.reduceAdd, Nat.reduceLeDiff, Nat.reduceEqDiff, Nat.reduceMul, Int.reduceToNat, reduceIte, Int.reduceLE, Int.reduceNeg]; rfl)) ?_)
      refine ⟨(j + 1, a, k, out ++ [i]), ⟨?_, ?_, ?_, ?_, ?_⟩, ?_, ?_⟩
      ·skip
       show walkF code bs 300 0 0 [] = walkF code bs (300 - (j + 1)) a k (out ++ [i])
       rw [hw, hf, walkF_some hst, show 300 - (j + 1) = f by omega]
      ·exact (stepF_in hok hi hst).1
      ·simp only [List.length_append, List.length_cons, List.length_nil]; omega
      ·simp only; omega
      ·simp only; omega
      ·simp only; omega
      refine le_mk ?sle ?mle ?swf ?mwf (kept_not hkeep) (by rfl)
      case swf => repeat (first | exact swf_top _ | refine swf_upd ?_ (by simp [A.ids, upd_app, List.map_append, List.map_cons, List.map_nil, cN, wrap_succ (show j + 1 < 9223372036854775808 by omega), wrap_succ (show k + 1 < 9223372036854775808 by omega)]))
      case mwf => repeat (first | exact mwf_nil _ | refine mwf_upd ?_ (by simp [A.ids, O.ids, upd_app, List.map_append, List.map_cons, List.map_nil, cN, wrap_succ (show j + 1 < 9223372036854775808 by omega), wrap_succ (show k + 1 < 9223372036854775808 by omega)]))
      case mle => repeat (first | exact mle_nil _ | exact mle_refl _ | refine mle_upd ?_ (by first | rfl | (simp only [upd_app, killM_app, O.kill, A.kill, Nat.reduceEqDiff, reduceIte, Option.map_some, Option.map_none, List.map_cons, List.map_nil, List.map_append, List.map_cons, List.map_nil, cN, wrap_succ (show j + 1 < 9223372036854775808 by omega), wrap_succ (show k + 1 < 9223372036854775808 by omega)]; done)))
      case sle => repeat (first | exact sle_top _ | exact sle_refl _ | refine sle_upd ?_ (by first | rfl | (simp only [upd_app, killS_app, A.kill, entry_zero, entry_succ, Nat.reduceEqDiff, reduceIte, List.map_append, List.map_cons, List.map_nil, cN, wrap_succ (show j + 1 < 9223372036854775808 by omega), wrap_succ (show k + 1 < 9223372036854775808 by omega)]; done)))
     ·have hb0 := eq_true (show (0 : Int) < (bs.length : Int) by omega)
      have hb1 := eq_false (show ¬ (bs.length : Int) = 0 by omega)
      obtain ⟨q, hq⟩ : ∃ q, q = k % bs.length := ⟨_, rfl⟩
      have hrem : (k : Int).tmod (bs.length : Int) = (q : Int) := by rw [hq]; exact (Int.ofNat_tmod k bs.length).symm
      have hql : q < bs.length := by rw [hq]; exact Nat.mod_lt _ (by omega)
      obtain ⟨v, hv⟩ : ∃ v, bs[q]? = some v := ⟨_, List.getElem?_eq_getElem hql⟩
      have hst0 : stepF code bs i k = some (if v = true then a else b, k + 1) := by
       unfold stepF; rw [hn]
       simp only
       rw [if_pos (by simp; omega), ← hq, List.getD_eq_getElem?_getD, hv]
       simp
      repeat (first | refine W.seq ?_ | refine W.block ?_ | refine W.skip ?_ | refine W.exit ?_ | refine W.region tab_ok 0 (by decide) (exec_run (by simp only [exa, beq_self_eq_true, ByteArray.size, Nat.reduceAdd, Nat.reduceLeDiff, Nat.reduceEqDiff, Nat.reduceMul, Int.reduceToNat, reduceIte, Int.reduceLE, Int.reduceNeg, List.map_nil, List.map_cons, List.length_nil, List.length_cons, Int.cast_ofNat_Int, Int.reduceEq, decide_true, decide_false, cZ]; rfl)) ?_)
      refine W.cond rfl (fun h => absurd h (by simp)) (fun _ => ?_)
      (repeat (first | refine W.seq ?_ | refine W.block ?_ | refine W.skip ?_ | refine W.exit ?_))
      refine W.region tab_ok 0 (by decide) (exec_run (by simp only [exa, beq_self_eq_true, ByteArray.size, Nat.reduceAdd, Nat.reduceLeDiff, Nat.reduceEqDiff, Nat.reduceMul, Int.reduceToNat, reduceIte, Int.reduceLE, Int.reduceNeg, List.map_nil, List.map_cons, List.length_nil, List.length_cons, Int.cast_ofNat_Int, Int.reduceEq, Int.reduceLT, decide_true, decide_false, cZ]; rfl)) ?_
      (repeat (first | refine W.seq ?_ | refine W.block ?_ | refine W.skip ?_ | refine W.exit ?_))
      refine W.region tab_ok 0 (by decide) (exec_run (by simp only [exa, beq_self_eq_true, ByteArray.size, Nat.reduceAdd, Nat.reduceLeDiff, Nat.reduceEqDiff, Nat.reduceMul, Int.reduceToNat, reduceIte, Int.reduceLE, Int.reduceNeg, List.map_nil, List.map_cons, List.length_nil, List.length_cons, Int.cast_ofNat_Int, Int.reduceEq, Int.reduceLT, decide_true, decide_false, cZ, List.length_map, hb0]; rfl)) ?_
      (repeat (first | refine W.seq ?_ | refine W.block ?_ | refine W.skip ?_ | refine W.exit ?_))
      refine W.cond rfl (fun _ => ?_) (fun h => absurd h (by simp))
      cases v with
      | true =>
       have hst : stepF code bs i k = some (a, k + 1) := hst0
       repeat (first | refine W.seq ?_ | refine W.block ?_ | refine W.skip ?_ | refine W.exit ?_ | refine W.region tab_ok 0 (by decide) (exec_run (by simp only [exa, beq_self_eq_true, ByteArray.size, Nat.reduceAdd, Nat.reduceLeDiff, Nat.reduceEqDiff, Nat.reduceMul, Int.reduceToNat, reduceIte, Int.reduceLE, Int.reduceNeg, List.length_map, hb1, hrem, at_map hv, cB, Bool.not_true]; rfl)) ?_)
       refine W.cond rfl (fun h => absurd h (by simp)) (fun _ => ?_)
       repeat (first | refine W.seq ?_ | refine W.block ?_ | refine W.skip ?_ | refine W.exit ?_ | refine W.region tab_ok 0 (by decide) (exec_run (by simp only [exa, beq_self_eq_true, ByteArray.size, Nat.reduceAdd, Nat.reduceLeDiff, Nat.reduceEqDiff, Nat.reduceMul, Int.reduceToNat, reduceIte, Int.reduceLE, Int.reduceNeg]; rfl)) ?_)
       refine ⟨(j + 1, a, (k + 1), out ++ [i]), ⟨?_, ?_, ?_, ?_, ?_⟩, ?_, ?_⟩
       ·skip
        show walkF code bs 300 0 0 [] = walkF code bs (300 - (j + 1)) a (k + 1) (out ++ [i])
        rw [hw, hf, walkF_some hst, show 300 - (j + 1) = f by omega]
       ·exact (stepF_in hok hi hst).1
       ·simp only [List.length_append, List.length_cons, List.length_nil]; omega
       ·simp only; omega
       ·simp only; omega
       ·simp only; omega
       refine le_mk ?sle ?mle ?swf ?mwf (kept_not hkeep) (by rfl)
       case swf => repeat (first | exact swf_top _ | refine swf_upd ?_ (by simp [A.ids, upd_app, List.map_append, List.map_cons, List.map_nil, cN, wrap_succ (show j + 1 < 9223372036854775808 by omega), wrap_succ (show k + 1 < 9223372036854775808 by omega)]))
       case mwf => repeat (first | exact mwf_nil _ | refine mwf_upd ?_ (by simp [A.ids, O.ids, upd_app, List.map_append, List.map_cons, List.map_nil, cN, wrap_succ (show j + 1 < 9223372036854775808 by omega), wrap_succ (show k + 1 < 9223372036854775808 by omega)]))
       case mle => repeat (first | exact mle_nil _ | exact mle_refl _ | refine mle_upd ?_ (by first | rfl | (simp only [upd_app, killM_app, O.kill, A.kill, Nat.reduceEqDiff, reduceIte, Option.map_some, Option.map_none, List.map_cons, List.map_nil, List.map_append, List.map_cons, List.map_nil, cN, wrap_succ (show j + 1 < 9223372036854775808 by omega), wrap_succ (show k + 1 < 9223372036854775808 by omega)]; done)))
       case sle => repeat (first | exact sle_top _ | exact sle_refl _ | refine sle_upd ?_ (by first | rfl | (simp only [upd_app, killS_app, A.kill, entry_zero, entry_succ, Nat.reduceEqDiff, reduceIte, List.map_append, List.map_cons, List.map_nil, cN, wrap_succ (show j + 1 < 9223372036854775808 by omega), wrap_succ (show k + 1 < 9223372036854775808 by omega)]; done)))
      | false =>
       have hst : stepF code bs i k = some (b, k + 1) := hst0
       repeat (first | refine W.seq ?_ | refine W.block ?_ | refine W.skip ?_ | refine W.exit ?_ | refine W.region tab_ok 0 (by decide) (exec_run (by simp only [exa, beq_self_eq_true, ByteArray.size, Nat.reduceAdd, Nat.reduceLeDiff, Nat.reduceEqDiff, Nat.reduceMul, Int.reduceToNat, reduceIte, Int.reduceLE, Int.reduceNeg, List.length_map, hb1, hrem, at_map hv, cB, Bool.not_false]; rfl)) ?_)
       refine W.cond rfl (fun _ => ?_) (fun h => absurd h (by simp))
       repeat (first | refine W.seq ?_ | refine W.block ?_ | refine W.skip ?_ | refine W.exit ?_ | refine W.region tab_ok 0 (by decide) (exec_run (by simp only [exa, beq_self_eq_true, ByteArray.size, Nat.reduceAdd, Nat.reduceLeDiff, Nat.reduceEqDiff, Nat.reduceMul, Int.reduceToNat, reduceIte, Int.reduceLE, Int.reduceNeg, List.map_nil, List.map_cons, List.length_nil, List.length_cons, cZ]; rfl)) ?_)
       refine ⟨(j + 1, b, (k + 1), out ++ [i]), ⟨?_, ?_, ?_, ?_, ?_⟩, ?_, ?_⟩
       ·skip
        show walkF code bs 300 0 0 [] = walkF code bs (300 - (j + 1)) b (k + 1) (out ++ [i])
        rw [hw, hf, walkF_some hst, show 300 - (j + 1) = f by omega]
       ·exact (stepF_in hok hi hst).1
       ·simp only [List.length_append, List.length_cons, List.length_nil]; omega
       ·simp only; omega
       ·simp only; omega
       ·simp only; omega
       refine le_mk ?sle ?mle ?swf ?mwf (kept_not hkeep) (by rfl)
       case swf => repeat (first | exact swf_top _ | refine swf_upd ?_ (by simp [A.ids, upd_app, List.map_append, List.map_cons, List.map_nil, cN, wrap_succ (show j + 1 < 9223372036854775808 by omega), wrap_succ (show k + 1 < 9223372036854775808 by omega)]))
       case mwf => repeat (first | exact mwf_nil _ | refine mwf_upd ?_ (by simp [A.ids, O.ids, upd_app, List.map_append, List.map_cons, List.map_nil, cN, wrap_succ (show j + 1 < 9223372036854775808 by omega), wrap_succ (show k + 1 < 9223372036854775808 by omega)]))
       case mle => repeat (first | exact mle_nil _ | exact mle_refl _ | refine mle_upd ?_ (by first | rfl | (simp only [upd_app, killM_app, O.kill, A.kill, Nat.reduceEqDiff, reduceIte, Option.map_some, Option.map_none, List.map_cons, List.map_nil, List.map_append, List.map_cons, List.map_nil, cN, wrap_succ (show j + 1 < 9223372036854775808 by omega), wrap_succ (show k + 1 < 9223372036854775808 by omega)]; done)))
       case sle => repeat (first | exact sle_top _ | exact sle_refl _ | refine sle_upd ?_ (by first | rfl | (simp only [upd_app, killS_app, A.kill, entry_zero, entry_succ, Nat.reduceEqDiff, reduceIte, List.map_append, List.map_cons, List.map_nil, cN, wrap_succ (show j + 1 < 9223372036854775808 by omega), wrap_succ (show k + 1 < 9223372036854775808 by omega)]; done)))
  ·have hjt := eq_false (show ¬ (j : Int) < 300 by omega)
   have : 300 - j = 0 := by omega
   rw [this] at hw
   repeat (first | refine W.seq ?_ | refine W.block ?_ | refine W.skip ?_ | refine W.exit ?_ | refine W.region tab_ok 0 (by decide) (exec_run (by simp only [exa, beq_self_eq_true, ByteArray.size, Nat.reduceAdd, Nat.reduceLeDiff, Nat.reduceEqDiff, Nat.reduceMul, Int.reduceToNat, reduceIte, Int.reduceLE, Int.reduceNeg, hjt, decide_false]; rfl)) ?_)
   refine W.cond rfl (fun h => absurd h (by simp)) (fun _ => ?_)
   repeat (first | refine W.seq ?_ | refine W.block ?_ | refine W.skip ?_ | refine W.exit ?_ | refine W.region tab_ok 0 (by decide) (exec_run (by simp only [exa, beq_self_eq_true, ByteArray.size, Nat.reduceAdd, Nat.reduceLeDiff, Nat.reduceEqDiff, Nat.reduceMul, Int.reduceToNat, reduceIte, Int.reduceLE, Int.reduceNeg]; rfl)) ?_)
   refine W.ret ⟨.inr rfl, by rfl, ?_⟩
   simp only [Tryd.f14, resA, resOne, toT, fin, exa, beq_self_eq_true, ByteArray.size, Nat.reduceAdd, Nat.reduceLeDiff, Nat.reduceEqDiff, Nat.reduceMul, Int.reduceToNat, reduceIte, Int.reduceLE, Int.reduceNeg]
   rw [hw]; rfl
end V
end Go.Proofs.YtnmfbaahabcocaaDoor
end
section
namespace Go.Proofs.YtnmfbaahabcocaaDoor
namespace C17
theorem fixed {code : List Ins} {u : Nat → Option Nat} (hok : okC code = true) (T : Tree (turnP (gC code)) code.length u) {bs cs : List Bool} {f : Nat} (hA : walkF code bs f 0 0 [] ≠ []) (hB : walkF code cs f 0 0 [] ≠ []) {i : Nat} (hi : i < code.length) (hm : i ∈ walkF code bs f 0 0 []) (hno : i ∉ walkF code cs f 0 0 []) : ∃ x, (x, i) ∈ hangL (gC code) u code.length ∧ x ∈ walkF code bs f 0 0 [] := by
 have hR : ∀ i, i ≤ code.length → Rch (turnP (gC code)) code.length i := fun i hi => gC_all i hi
 rcases walkF_walk (bs := bs) hok f 0 0 [] (by omega) with h | ⟨A, h1, h2, h3⟩
 ·exact absurd h hA
 rcases walkF_walk (bs := cs) hok f 0 0 [] (by omega) with h | ⟨B, k1, k2, k3⟩
 ·exact absurd h hB
 rw [List.nil_append] at h1 k1
 rw [h1] at hm ⊢
 rw [k1] at hno
 obtain ⟨x, hx, hh⟩ := two_walks T hR (gC_lt hok) hi (by omega) h2 k2 k3 hm hno
 obtain ⟨b, hb, -⟩ := hh.2
 exact ⟨x, mem_hangL.2 ⟨(gC_lt hok _ hb).1, hh⟩, hx⟩
end C17
end Go.Proofs.YtnmfbaahabcocaaDoor
end
