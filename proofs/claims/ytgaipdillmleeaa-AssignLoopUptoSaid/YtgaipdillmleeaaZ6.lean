/- Joined by my own program, in build order: RO, RS, SR, PL, Su, Bulk8, PL2. -/
import Derived.Test.YtgaipdillmleeaaZ5
import Derived.Sort.Walk0
import Derived.Test.YtgaipdillmleeaaRows
import Derived.Test.YtgaipdillmleeaaZ1
import Derived.Test.YtgaipdillmleeaaZ4
set_option linter.unusedVariables false
set_option linter.unusedSimpArgs false
section
/- The document's branch and one walked. -/
set_option linter.unusedVariables false
set_option linter.unusedSimpArgs false
namespace Go.Proofs.Ytgaipdillmleeaa
namespace V
open Go.RowKit AS
def SureC (l : List Stmt) : Prop := ∀ (H : List Nm), H.length + cntSs l ≤ 1000000000 → ∀ m, COk Try.prog 15 [.c (.sl (cBs H)), .c (.sl (l.map cStmt))] m (resR (sureR H l))
set_option maxHeartbeats 4000000 in
theorem branch_of (k nn : Int) (ty nm : ByteArray) (es : List Expr) (th el : List Stmt) (hT : SureC th) (hE : SureC el) (H : List Nm) (hH : H.length + cntSs th + cntSs el ≤ 1000000000) (m : Mem) :
    COk Try.prog 34 [.c (.sl (cBs H)), .agg (cStmt ⟨k, nn, ty, nm, es, th, el⟩)] m (resR (branchR (sureR H th) (sureR H el))) := by
  have hT := hT H (by omega)
  have hE := hE H (by omega)
  have l1 := sureR_len th H
  have l2 := sureR_len el H
  obtain ⟨la, ra, oka, ha⟩ : ∃ l r ok, sureR H th = (l, r, ok) := ⟨_, _, _, rfl⟩
  obtain ⟨lb, rb, okb, hb⟩ : ∃ l r ok, sureR H el = (l, r, ok) := ⟨_, _, _, rfl⟩
  rw [ha] at hT l1 ⊢
  rw [hb] at hE l2 ⊢
  simp only [resR] at hT hE
  simp only at l1 l2
  simp only [cStmt, cExprs_map, cStmts_map]
  refine (ok_pure tab_ok Try.func34 (by kernel_rfl) rfl rfl (by rfl) (by rfl) (by rfl) (fun R hkeep => ?_) m)
  repeat (first | refine W.seq ?_ | refine W.block ?_ | refine W.skip ?_ | refine W.exit ?_ | refine W.region tab_ok 0 (by decide) (exec_run (by simp only [exa, beq_self_eq_true, ByteArray.size, Nat.reduceAdd, Nat.reduceLeDiff, Nat.reduceEqDiff, Nat.reduceMul, Int.reduceToNat, reduceIte, Int.reduceLE, Int.reduceNeg]; rfl)) ?_)
  refine W.regionK tab_ok 0 (by decide) ?_
  refine runk_split 3 (by simp only [exa, beq_self_eq_true, ByteArray.size, Nat.reduceAdd, Nat.reduceLeDiff, Nat.reduceEqDiff, Nat.reduceMul, Int.reduceToNat, reduceIte, Int.reduceLE, Int.reduceNeg]; rfl) ?_
  refine runk_call rfl rfl rfl rfl rfl (by simp) (cvs_cons cv_refl (cvs_cons cv_refl cvs_nil)) (hT _) ?_
  refine runk_exec (by simp only [exa, beq_self_eq_true, ByteArray.size, Nat.reduceAdd, Nat.reduceLeDiff, Nat.reduceEqDiff, Nat.reduceMul, Int.reduceToNat, reduceIte, Int.reduceLE, Int.reduceNeg]; rfl) ?_
  repeat (first | refine W.seq ?_ | refine W.block ?_ | refine W.skip ?_ | refine W.exit ?_ | refine W.region tab_ok 0 (by decide) (exec_run (by simp only [exa, beq_self_eq_true, ByteArray.size, Nat.reduceAdd, Nat.reduceLeDiff, Nat.reduceEqDiff, Nat.reduceMul, Int.reduceToNat, reduceIte, Int.reduceLE, Int.reduceNeg]; rfl)) ?_)
  refine W.regionK tab_ok 0 (by decide) ?_
  refine runk_split 3 (by simp only [exa, beq_self_eq_true, ByteArray.size, Nat.reduceAdd, Nat.reduceLeDiff, Nat.reduceEqDiff, Nat.reduceMul, Int.reduceToNat, reduceIte, Int.reduceLE, Int.reduceNeg]; rfl) ?_
  refine runk_call rfl rfl rfl rfl rfl (by simp) (cvs_cons cv_refl (cvs_cons cv_refl cvs_nil)) (hE _) ?_
  refine runk_exec (by simp only [exa, beq_self_eq_true, ByteArray.size, Nat.reduceAdd, Nat.reduceLeDiff, Nat.reduceEqDiff, Nat.reduceMul, Int.reduceToNat, reduceIte, Int.reduceLE, Int.reduceNeg]; rfl) ?_
  cases oka with
  | false =>
    skip
    repeat (first | refine W.seq ?_ | refine W.block ?_ | refine W.skip ?_ | refine W.exit ?_ | refine W.region tab_ok 0 (by decide) (exec_run (by simp only [exa, beq_self_eq_true, ByteArray.size, Nat.reduceAdd, Nat.reduceLeDiff, Nat.reduceEqDiff, Nat.reduceMul, Int.reduceToNat, reduceIte, Int.reduceLE, Int.reduceNeg, Bool.not_false]; rfl)) ?_)
    refine W.cond rfl (fun _ => ?_) (fun h => absurd h (by simp))
    repeat (first | refine W.seq ?_ | refine W.block ?_ | refine W.skip ?_ | refine W.exit ?_ | refine W.region tab_ok 0 (by decide) (exec_run (by simp only [exa, beq_self_eq_true, ByteArray.size, Nat.reduceAdd, Nat.reduceLeDiff, Nat.reduceEqDiff, Nat.reduceMul, Int.reduceToNat, reduceIte, Int.reduceLE, Int.reduceNeg]; rfl)) ?_)
    refine W.ret ⟨.inr rfl, by rfl, ?_⟩
    simp only [Try.f34, resA, resOne, toT, fin, exa, beq_self_eq_true, ByteArray.size, Nat.reduceAdd, Nat.reduceLeDiff, Nat.reduceEqDiff, Nat.reduceMul, Int.reduceToNat, reduceIte, Int.reduceLE, Int.reduceNeg, resR, branchR, List.map_nil]
    rfl
  | true =>
    cases okb with
    | false =>
      skip
      repeat (first | refine W.seq ?_ | refine W.block ?_ | refine W.skip ?_ | refine W.exit ?_ | refine W.region tab_ok 0 (by decide) (exec_run (by simp only [exa, beq_self_eq_true, ByteArray.size, Nat.reduceAdd, Nat.reduceLeDiff, Nat.reduceEqDiff, Nat.reduceMul, Int.reduceToNat, reduceIte, Int.reduceLE, Int.reduceNeg, Bool.not_false, Bool.not_true]; rfl)) ?_)
      refine W.cond rfl (fun _ => ?_) (fun h => absurd h (by simp))
      repeat (first | refine W.seq ?_ | refine W.block ?_ | refine W.skip ?_ | refine W.exit ?_ | refine W.region tab_ok 0 (by decide) (exec_run (by simp only [exa, beq_self_eq_true, ByteArray.size, Nat.reduceAdd, Nat.reduceLeDiff, Nat.reduceEqDiff, Nat.reduceMul, Int.reduceToNat, reduceIte, Int.reduceLE, Int.reduceNeg]; rfl)) ?_)
      refine W.ret ⟨.inr rfl, by rfl, ?_⟩
      simp only [Try.f34, resA, resOne, toT, fin, exa, beq_self_eq_true, ByteArray.size, Nat.reduceAdd, Nat.reduceLeDiff, Nat.reduceEqDiff, Nat.reduceMul, Int.reduceToNat, reduceIte, Int.reduceLE, Int.reduceNeg, resR, branchR, List.map_nil]
      rfl
    | true =>
      skip
      repeat (first | refine W.seq ?_ | refine W.block ?_ | refine W.skip ?_ | refine W.exit ?_ | refine W.region tab_ok 0 (by decide) (exec_run (by simp only [exa, beq_self_eq_true, ByteArray.size, Nat.reduceAdd, Nat.reduceLeDiff, Nat.reduceEqDiff, Nat.reduceMul, Int.reduceToNat, reduceIte, Int.reduceLE, Int.reduceNeg, Bool.not_true]; rfl)) ?_)
      refine W.cond rfl (fun h => absurd h (by simp)) (fun _ => ?_)
      cases ra with
      | false =>
        skip
        repeat (first | refine W.seq ?_ | refine W.block ?_ | refine W.skip ?_ | refine W.exit ?_ | refine W.region tab_ok 0 (by decide) (exec_run (by simp only [exa, beq_self_eq_true, ByteArray.size, Nat.reduceAdd, Nat.reduceLeDiff, Nat.reduceEqDiff, Nat.reduceMul, Int.reduceToNat, reduceIte, Int.reduceLE, Int.reduceNeg]; rfl)) ?_)
        refine W.cond rfl (fun h => absurd h (by simp)) (fun _ => ?_)
        repeat (first | refine W.seq ?_ | refine W.block ?_ | refine W.skip ?_ | refine W.exit ?_ | refine W.region tab_ok 0 (by decide) (exec_run (by simp only [exa, beq_self_eq_true, ByteArray.size, Nat.reduceAdd, Nat.reduceLeDiff, Nat.reduceEqDiff, Nat.reduceMul, Int.reduceToNat, reduceIte, Int.reduceLE, Int.reduceNeg]; rfl)) ?_)
        refine W.cond rfl (fun h => absurd h (by simp)) (fun _ => ?_)
        repeat (first | refine W.seq ?_ | refine W.block ?_ | refine W.skip ?_ | refine W.exit ?_ | refine W.region tab_ok 0 (by decide) (exec_run (by simp only [exa, beq_self_eq_true, ByteArray.size, Nat.reduceAdd, Nat.reduceLeDiff, Nat.reduceEqDiff, Nat.reduceMul, Int.reduceToNat, reduceIte, Int.reduceLE, Int.reduceNeg]; rfl)) ?_)
        cases rb with
        | false =>
          skip
          refine W.cond rfl (fun h => absurd h (by simp)) (fun _ => ?_)
          repeat (first | refine W.seq ?_ | refine W.block ?_ | refine W.skip ?_ | refine W.exit ?_ | refine W.region tab_ok 0 (by decide) (exec_run (by simp only [exa, beq_self_eq_true, ByteArray.size, Nat.reduceAdd, Nat.reduceLeDiff, Nat.reduceEqDiff, Nat.reduceMul, Int.reduceToNat, reduceIte, Int.reduceLE, Int.reduceNeg]; rfl)) ?_)
          refine W.regionK tab_ok 0 (by decide) ?_
          refine runk_split 2 (by simp only [exa, beq_self_eq_true, ByteArray.size, Nat.reduceAdd, Nat.reduceLeDiff, Nat.reduceEqDiff, Nat.reduceMul, Int.reduceToNat, reduceIte, Int.reduceLE, Int.reduceNeg]; rfl) ?_
          refine runk_call rfl rfl rfl rfl rfl (by simp) (cvs_cons cv_refl (cvs_cons cv_refl cvs_nil)) (both_ok la lb (by omega) (by omega) _) ?_
          refine runk_exec (by simp only [exa, beq_self_eq_true, ByteArray.size, Nat.reduceAdd, Nat.reduceLeDiff, Nat.reduceEqDiff, Nat.reduceMul, Int.reduceToNat, reduceIte, Int.reduceLE, Int.reduceNeg]; rfl) ?_
          refine W.ret ⟨.inr rfl, by rfl, ?_⟩
          simp only [Try.f34, resA, resOne, toT, fin, exa, beq_self_eq_true, ByteArray.size, Nat.reduceAdd, Nat.reduceLeDiff, Nat.reduceEqDiff, Nat.reduceMul, Int.reduceToNat, reduceIte, Int.reduceLE, Int.reduceNeg, resR, branchR]
          rfl
        | true =>
          skip
          refine W.cond rfl (fun _ => ?_) (fun h => absurd h (by simp))
          repeat (first | refine W.seq ?_ | refine W.block ?_ | refine W.skip ?_ | refine W.exit ?_ | refine W.region tab_ok 0 (by decide) (exec_run (by simp only [exa, beq_self_eq_true, ByteArray.size, Nat.reduceAdd, Nat.reduceLeDiff, Nat.reduceEqDiff, Nat.reduceMul, Int.reduceToNat, reduceIte, Int.reduceLE, Int.reduceNeg]; rfl)) ?_)
          refine W.ret ⟨.inr rfl, by rfl, ?_⟩
          simp only [Try.f34, resA, resOne, toT, fin, exa, beq_self_eq_true, ByteArray.size, Nat.reduceAdd, Nat.reduceLeDiff, Nat.reduceEqDiff, Nat.reduceMul, Int.reduceToNat, reduceIte, Int.reduceLE, Int.reduceNeg, resR, branchR]
          rfl
      | true =>
        skip
        repeat (first | refine W.seq ?_ | refine W.block ?_ | refine W.skip ?_ | refine W.exit ?_ | refine W.region tab_ok 0 (by decide) (exec_run (by simp only [exa, beq_self_eq_true, ByteArray.size, Nat.reduceAdd, Nat.reduceLeDiff, Nat.reduceEqDiff, Nat.reduceMul, Int.reduceToNat, reduceIte, Int.reduceLE, Int.reduceNeg]; rfl)) ?_)
        cases rb with
        | false =>
          skip
          refine W.cond rfl (fun h => absurd h (by simp)) (fun _ => ?_)
          repeat (first | refine W.seq ?_ | refine W.block ?_ | refine W.skip ?_ | refine W.exit ?_ | refine W.region tab_ok 0 (by decide) (exec_run (by simp only [exa, beq_self_eq_true, ByteArray.size, Nat.reduceAdd, Nat.reduceLeDiff, Nat.reduceEqDiff, Nat.reduceMul, Int.reduceToNat, reduceIte, Int.reduceLE, Int.reduceNeg]; rfl)) ?_)
          refine W.cond rfl (fun _ => ?_) (fun h => absurd h (by simp))
          repeat (first | refine W.seq ?_ | refine W.block ?_ | refine W.skip ?_ | refine W.exit ?_ | refine W.region tab_ok 0 (by decide) (exec_run (by simp only [exa, beq_self_eq_true, ByteArray.size, Nat.reduceAdd, Nat.reduceLeDiff, Nat.reduceEqDiff, Nat.reduceMul, Int.reduceToNat, reduceIte, Int.reduceLE, Int.reduceNeg]; rfl)) ?_)
          refine W.ret ⟨.inr rfl, by rfl, ?_⟩
          simp only [Try.f34, resA, resOne, toT, fin, exa, beq_self_eq_true, ByteArray.size, Nat.reduceAdd, Nat.reduceLeDiff, Nat.reduceEqDiff, Nat.reduceMul, Int.reduceToNat, reduceIte, Int.reduceLE, Int.reduceNeg, resR, branchR]
          rfl
        | true =>
          skip
          refine W.cond rfl (fun _ => ?_) (fun h => absurd h (by simp))
          repeat (first | refine W.seq ?_ | refine W.block ?_ | refine W.skip ?_ | refine W.exit ?_ | refine W.region tab_ok 0 (by decide) (exec_run (by simp only [exa, beq_self_eq_true, ByteArray.size, Nat.reduceAdd, Nat.reduceLeDiff, Nat.reduceEqDiff, Nat.reduceMul, Int.reduceToNat, reduceIte, Int.reduceLE, Int.reduceNeg]; rfl)) ?_)
          refine W.ret ⟨.inr rfl, by rfl, ?_⟩
          simp only [Try.f34, resA, resOne, toT, fin, exa, beq_self_eq_true, ByteArray.size, Nat.reduceAdd, Nat.reduceLeDiff, Nat.reduceEqDiff, Nat.reduceMul, Int.reduceToNat, reduceIte, Int.reduceLE, Int.reduceNeg, resR, branchR, List.map_nil]
          rfl
set_option maxHeartbeats 8000000 in
theorem one_of (k nn : Int) (ty nm : ByteArray) (es : List Expr) (th el : List Stmt) (hS : SmS ⟨k, nn, ty, nm, es, th, el⟩) (hT : SureC th) (hE : SureC el) : ROk ⟨k, nn, ty, nm, es, th, el⟩ := by
  intro H hH m
  simp only [cntS] at hH
  simp only [SmS] at hS
  obtain ⟨s1, s2, -⟩ := hS
  have hbr := fun m => branch_of k nn ty nm es th el hT hE H (by omega) m
  have hT := hT H (by omega)
  have hall := asks_all H k es
  have l1 := sureR_len th H
  simp only [cStmt, cExprs_map, cStmts_map] at hbr ⊢
  refine (ok_pure tab_ok Try.func22 (by kernel_rfl) rfl rfl (by rfl) (by rfl) (by rfl) (fun R hkeep => ?_) m)
  repeat (first | refine W.seq ?_ | refine W.block ?_ | refine W.skip ?_ | refine W.exit ?_ | refine W.region tab_ok 0 (by decide) (exec_run (by simp only [exa, beq_self_eq_true, ByteArray.size, Nat.reduceAdd, Nat.reduceLeDiff, Nat.reduceEqDiff, Nat.reduceMul, Int.reduceToNat, reduceIte, Int.reduceLE, Int.reduceNeg]; rfl)) ?_)
  refine W.loop (ι := Nat) (fun i => ⟨upd (upd (upd (upd (upd (fun _ => .top) 0 (.c (.sl (cBs H)))) 3 (.ptr 3 0)) 13 (.c (.sl (es.map cExpr)))) 14 (.c (.int .i64 es.length))) 15 (.c (.int .i64 i)), upd Mem.nil 3 (some (O.box 36 [.c (.int .i64 k), .c (.int .i64 nn), .c (.str ty), .c (.str nm), .c (.sl (es.map cExpr)), .c (.sl (th.map cStmt)), .c (.sl (el.map cStmt))]))⟩)
    (fun i => i ≤ es.length ∧ ∀ i' x, i' < i → es[i']? = some x → askAt H k i' x = true) (fun i => es.length - i) 0 ?start ⟨Nat.zero_le _, fun i' x h => by omega⟩ ?round
  case start =>
    refine le_mk ?sle ?mle ?swf ?mwf ?kept (by rfl)
    case kept => exact kept_not hkeep
    case swf => repeat (first | exact swf_top _ | refine swf_upd ?_ (by simp [A.ids, upd_app]))
    case mwf => repeat (first | exact mwf_nil _ | refine mwf_upd ?_ (by simp [A.ids, O.ids, upd_app]))
    case mle => repeat (first | exact mle_nil _ | exact mle_refl _ | refine mle_upd ?_ (by first | rfl | (simp only [upd_app, killM_app, Nat.reduceEqDiff, reduceIte, List.length_map]; done)))
    case sle => repeat (first | exact sle_top _ | exact sle_refl _ | refine sle_upd ?_ (by first | rfl | (simp only [upd_app, entry_zero, entry_succ, Nat.reduceEqDiff, reduceIte, List.length_map]; done)))
  case round =>
    rintro i ⟨hi, hpre⟩
    repeat (first | refine W.seq ?_ | refine W.block ?_ | refine W.skip ?_ | refine W.exit ?_ | refine W.region tab_ok 0 (by decide) (exec_run (by simp only [exa, beq_self_eq_true, ByteArray.size, Nat.reduceAdd, Nat.reduceLeDiff, Nat.reduceEqDiff, Nat.reduceMul, Int.reduceToNat, reduceIte, Int.reduceLE, Int.reduceNeg]; rfl)) ?_)
    refine W.cond rfl ?_ ?_
    · intro hlt
      simp only [decide_eq_true_eq, Int.ofNat_lt] at hlt
      obtain ⟨x, hx⟩ : ∃ x, es[i]? = some x := ⟨_, List.getElem?_eq_getElem hlt⟩
      have hxm := List.mem_of_getElem? hx
      have hsx := s2.mem hxm
      obtain ⟨xk, xn, xm, xs⟩ := x
      have hak := fun m => asked_ok _ ⟨xk, xn, xm, xs⟩ (Nat.le_refl _) hsx H (by omega) m
      have hak2 := fun m => asked_ok _ ⟨0, 0, ⟨#[]⟩, xs⟩ (Nat.le_refl _) (by simp only [SmE] at hsx ⊢; exact hsx) H (by omega) m
      simp only [cExpr, cExprs_map] at hak hak2
      repeat (first | refine W.seq ?_ | refine W.block ?_ | refine W.skip ?_ | refine W.exit ?_ | refine W.region tab_ok 0 (by decide) (exec_run (by simp only [exa, beq_self_eq_true, ByteArray.size, Nat.reduceAdd, Nat.reduceLeDiff, Nat.reduceEqDiff, Nat.reduceMul, Int.reduceToNat, reduceIte, Int.reduceLE, Int.reduceNeg, List.length_map, hlt, at_map hx, cExpr, cExprs_map]; rfl)) ?_)
      refine W.cutK ⟨upd (upd (upd (upd (upd (upd (upd (fun _ => .top) 0 (.c (.sl (cBs H)))) 3 (.ptr 3 0)) 13 (.c (.sl (es.map cExpr)))) 14 (.c (.int .i64 es.length))) 15 (.c (.int .i64 i))) 8 (.ptr 8 0)) 31 (.c (.bool (decide (k = 2) && decide (i = 0) && decide (xk = 4)))), upd (upd Mem.nil 3 (some (O.box 36 [.c (.int .i64 k), .c (.int .i64 nn), .c (.str ty), .c (.str nm), .c (.sl (es.map cExpr)), .c (.sl (th.map cStmt)), .c (.sl (el.map cStmt))]))) 8 (some (.box 34 [.c (.int .i64 xk), .c (.int .i64 xn), .c (.str xm), .c (.sl (xs.map cExpr))]))⟩ ?g ?rest
      case g =>
        by_cases h2 : k = 2
        · subst h2
          by_cases h0 : i = 0
          · subst h0
            repeat (first | refine W.seq ?_ | refine W.block ?_ | refine W.skip ?_ | refine W.exit ?_ | refine W.region tab_ok 0 (by decide) (exec_run (by simp only [exa, beq_self_eq_true, ByteArray.size, Nat.reduceAdd, Nat.reduceLeDiff, Nat.reduceEqDiff, Nat.reduceMul, Int.reduceToNat, reduceIte, Int.reduceLE, Int.reduceNeg, decide_true, Bool.true_and, Int.ofNat_zero, Int.cast_ofNat_Int]; rfl)) ?_)
            refine ⟨rfl, ?_⟩
            simp only [decide_true, Bool.true_and]
            (refine le_mk ?sle ?mle ?swf ?mwf ?kept (by rfl)
             case kept => exact kept_not hkeep
             case swf => repeat (first | exact swf_top _ | refine swf_upd ?_ (by simp [A.ids, upd_app]))
             case mwf => repeat (first | exact mwf_nil _ | refine mwf_upd ?_ (by simp [A.ids, O.ids, upd_app]))
             case sle => repeat (first | exact sle_top _ | exact sle_refl _ | refine sle_upd ?_ (by first | rfl | (simp only [upd_app, killS_app, A.kill, entry_zero, entry_succ, Nat.reduceEqDiff, reduceIte] <;> rfl)))
             case mle => repeat (first | exact mle_nil _ | exact mle_refl _ | refine mle_upd ?_ (by first | rfl | (simp only [upd_app, killM_app, O.kill, A.kill, Option.map_some, Option.map_none, List.map_cons, List.map_nil, Nat.reduceEqDiff, reduceIte] <;> rfl))))
          · have h0' : decide ((i : Int) = 0) = false := by simp; omega
            have h0'' : decide (i = 0) = false := by simp [h0]
            repeat (first | refine W.seq ?_ | refine W.block ?_ | refine W.skip ?_ | refine W.exit ?_ | refine W.region tab_ok 0 (by decide) (exec_run (by simp only [exa, beq_self_eq_true, ByteArray.size, Nat.reduceAdd, Nat.reduceLeDiff, Nat.reduceEqDiff, Nat.reduceMul, Int.reduceToNat, reduceIte, Int.reduceLE, Int.reduceNeg, decide_true, Bool.true_and, h0']; rfl)) ?_)
            refine ⟨rfl, ?_⟩
            simp only [h0'', Bool.and_false, Bool.false_and]
            (refine le_mk ?sle ?mle ?swf ?mwf ?kept (by rfl)
             case kept => exact kept_not hkeep
             case swf => repeat (first | exact swf_top _ | refine swf_upd ?_ (by simp [A.ids, upd_app]))
             case mwf => repeat (first | exact mwf_nil _ | refine mwf_upd ?_ (by simp [A.ids, O.ids, upd_app]))
             case sle => repeat (first | exact sle_top _ | exact sle_refl _ | refine sle_upd ?_ (by first | rfl | (simp only [upd_app, killS_app, A.kill, entry_zero, entry_succ, Nat.reduceEqDiff, reduceIte] <;> rfl)))
             case mle => repeat (first | exact mle_nil _ | exact mle_refl _ | refine mle_upd ?_ (by first | rfl | (simp only [upd_app, killM_app, O.kill, A.kill, Option.map_some, Option.map_none, List.map_cons, List.map_nil, Nat.reduceEqDiff, reduceIte] <;> rfl))))
        · have h2' : decide (k = 2) = false := by simp [h2]
          repeat (first | refine W.seq ?_ | refine W.block ?_ | refine W.skip ?_ | refine W.exit ?_ | refine W.region tab_ok 0 (by decide) (exec_run (by simp only [exa, beq_self_eq_true, ByteArray.size, Nat.reduceAdd, Nat.reduceLeDiff, Nat.reduceEqDiff, Nat.reduceMul, Int.reduceToNat, reduceIte, Int.reduceLE, Int.reduceNeg, h2']; rfl)) ?_)
          refine ⟨rfl, ?_⟩
          simp only [h2', Bool.false_and]
          (refine le_mk ?sle ?mle ?swf ?mwf ?kept (by rfl)
           case kept => exact kept_not hkeep
           case swf => repeat (first | exact swf_top _ | refine swf_upd ?_ (by simp [A.ids, upd_app]))
           case mwf => repeat (first | exact mwf_nil _ | refine mwf_upd ?_ (by simp [A.ids, O.ids, upd_app]))
           case sle => repeat (first | exact sle_top _ | exact sle_refl _ | refine sle_upd ?_ (by first | rfl | (simp only [upd_app, killS_app, A.kill, entry_zero, entry_succ, Nat.reduceEqDiff, reduceIte] <;> rfl)))
           case mle => repeat (first | exact mle_nil _ | exact mle_refl _ | refine mle_upd ?_ (by first | rfl | (simp only [upd_app, killM_app, O.kill, A.kill, Option.map_some, Option.map_none, List.map_cons, List.map_nil, Nat.reduceEqDiff, reduceIte] <;> rfl))))
      case rest =>
        cases hb : (decide (k = 2) && decide (i = 0) && decide (xk = 4)) with
        | true =>
          have hat : askAt H k i ⟨xk, xn, xm, xs⟩ = askB H ⟨0, 0, ⟨#[]⟩, xs⟩ := by
            unfold askAt
            rw [if_pos hb, askB_eq]; rfl
          refine W.cond rfl (fun _ => ?_) (fun h => absurd h (by simp))
          repeat (first | refine W.seq ?_ | refine W.block ?_ | refine W.skip ?_ | refine W.exit ?_ | refine W.region tab_ok 0 (by decide) (exec_run (by simp only [exa, beq_self_eq_true, ByteArray.size, Nat.reduceAdd, Nat.reduceLeDiff, Nat.reduceEqDiff, Nat.reduceMul, Int.reduceToNat, reduceIte, Int.reduceLE, Int.reduceNeg]; rfl)) ?_)
          refine W.regionK tab_ok 0 (by decide) ?_
          refine runk_split 2 (by simp only [exa, beq_self_eq_true, ByteArray.size, Nat.reduceAdd, Nat.reduceLeDiff, Nat.reduceEqDiff, Nat.reduceMul, Int.reduceToNat, reduceIte, Int.reduceLE, Int.reduceNeg]; rfl) ?_
          refine runk_call rfl rfl rfl rfl rfl (by simp) (cvs_cons cv_refl (cvs_cons cv_refl cvs_nil)) (hak2 _) ?_
          cases hb2 : askB H ⟨0, 0, ⟨#[]⟩, xs⟩ with
          | false =>
            skip
            refine runk_exec (by simp only [exa, beq_self_eq_true, ByteArray.size, Nat.reduceAdd, Nat.reduceLeDiff, Nat.reduceEqDiff, Nat.reduceMul, Int.reduceToNat, reduceIte, Int.reduceLE, Int.reduceNeg]; rfl) ?_
            refine W.cond rfl (fun _ => ?_) (fun h => absurd h (by simp))
            repeat (first | refine W.seq ?_ | refine W.block ?_ | refine W.skip ?_ | refine W.exit ?_ | refine W.region tab_ok 0 (by decide) (exec_run (by simp only [exa, beq_self_eq_true, ByteArray.size, Nat.reduceAdd, Nat.reduceLeDiff, Nat.reduceEqDiff, Nat.reduceMul, Int.reduceToNat, reduceIte, Int.reduceLE, Int.reduceNeg]; rfl)) ?_)
            have hno : askBs H (asksB k es) = false := by
              cases h : askBs H (asksB k es) with
              | false => rfl
              | true => exact absurd (hall.1 h i _ hx) (by rw [hat, hb2]; decide)
            have hst : oneR H ⟨k, nn, ty, nm, es, th, el⟩ = ([], false, false) := by simp only [oneR]; rw [hno]; rfl
            refine W.ret ⟨.inr rfl, by rfl, ?_⟩
            simp only [Try.f22, resA, resOne, toT, fin, exa, beq_self_eq_true, ByteArray.size, Nat.reduceAdd, Nat.reduceLeDiff, Nat.reduceEqDiff, Nat.reduceMul, Int.reduceToNat, reduceIte, Int.reduceLE, Int.reduceNeg, hst, resR, List.map_nil]
          | true =>
            skip
            refine runk_exec (by simp only [exa, beq_self_eq_true, ByteArray.size, Nat.reduceAdd, Nat.reduceLeDiff, Nat.reduceEqDiff, Nat.reduceMul, Int.reduceToNat, reduceIte, Int.reduceLE, Int.reduceNeg]; rfl) ?_
            refine W.cond rfl (fun h => absurd h (by simp)) (fun _ => ?_)
            repeat (first | refine W.seq ?_ | refine W.block ?_ | refine W.skip ?_ | refine W.exit ?_ | refine W.region tab_ok 0 (by decide) (exec_run (by simp only [exa, beq_self_eq_true, ByteArray.size, Nat.reduceAdd, Nat.reduceLeDiff, Nat.reduceEqDiff, Nat.reduceMul, Int.reduceToNat, reduceIte, Int.reduceLE, Int.reduceNeg]; rfl)) ?_)
            refine ⟨i + 1, ⟨hlt, fun i' x h1 h2 => ?_⟩, by omega, ?_⟩
            · rcases Nat.lt_succ_iff_lt_or_eq.1 h1 with h | rfl
              · exact hpre i' x h h2
              · rw [hx] at h2; cases h2; exact hat.trans hb2
            refine le_mk ?sle ?mle ?swf ?mwf ?kept (by rfl)
            case kept => exact kept_not hkeep
            case swf => repeat (first | exact swf_top _ | refine swf_upd ?_ (by simp [A.ids, upd_app]))
            case mwf => repeat (first | exact mwf_nil _ | refine mwf_upd ?_ (by simp [A.ids, O.ids, upd_app]))
            case mle => repeat (first | exact mle_nil _ | exact mle_refl _ | refine mle_upd ?_ (by first | rfl | (simp only [upd_app, killM_app, Nat.reduceEqDiff, reduceIte, wrap_succ (show i + 1 < 9223372036854775808 by omega)]; done)))
            case sle => repeat (first | exact sle_top _ | exact sle_refl _ | refine sle_upd ?_ (by first | rfl | (simp only [upd_app, entry_zero, entry_succ, Nat.reduceEqDiff, reduceIte, wrap_succ (show i + 1 < 9223372036854775808 by omega)]; done)))
        | false =>
          have hat : askAt H k i ⟨xk, xn, xm, xs⟩ = askB H ⟨xk, xn, xm, xs⟩ := by
            unfold askAt
            rw [if_neg (by rw [hb]; decide)]
          refine W.cond rfl (fun h => absurd h (by simp)) (fun _ => ?_)
          repeat (first | refine W.seq ?_ | refine W.block ?_ | refine W.skip ?_ | refine W.exit ?_ | refine W.region tab_ok 0 (by decide) (exec_run (by simp only [exa, beq_self_eq_true, ByteArray.size, Nat.reduceAdd, Nat.reduceLeDiff, Nat.reduceEqDiff, Nat.reduceMul, Int.reduceToNat, reduceIte, Int.reduceLE, Int.reduceNeg]; rfl)) ?_)
          refine W.regionK tab_ok 0 (by decide) ?_
          refine runk_split 2 (by simp only [exa, beq_self_eq_true, ByteArray.size, Nat.reduceAdd, Nat.reduceLeDiff, Nat.reduceEqDiff, Nat.reduceMul, Int.reduceToNat, reduceIte, Int.reduceLE, Int.reduceNeg]; rfl) ?_
          refine runk_call rfl rfl rfl rfl rfl (by simp) (cvs_cons cv_refl (cvs_cons cv_refl cvs_nil)) (hak _) ?_
          cases hb2 : askB H ⟨xk, xn, xm, xs⟩ with
          | false =>
            skip
            refine runk_exec (by simp only [exa, beq_self_eq_true, ByteArray.size, Nat.reduceAdd, Nat.reduceLeDiff, Nat.reduceEqDiff, Nat.reduceMul, Int.reduceToNat, reduceIte, Int.reduceLE, Int.reduceNeg]; rfl) ?_
            refine W.cond rfl (fun _ => ?_) (fun h => absurd h (by simp))
            repeat (first | refine W.seq ?_ | refine W.block ?_ | refine W.skip ?_ | refine W.exit ?_ | refine W.region tab_ok 0 (by decide) (exec_run (by simp only [exa, beq_self_eq_true, ByteArray.size, Nat.reduceAdd, Nat.reduceLeDiff, Nat.reduceEqDiff, Nat.reduceMul, Int.reduceToNat, reduceIte, Int.reduceLE, Int.reduceNeg]; rfl)) ?_)
            have hno : askBs H (asksB k es) = false := by
              cases h : askBs H (asksB k es) with
              | false => rfl
              | true => exact absurd (hall.1 h i _ hx) (by rw [hat, hb2]; decide)
            have hst : oneR H ⟨k, nn, ty, nm, es, th, el⟩ = ([], false, false) := by simp only [oneR]; rw [hno]; rfl
            refine W.ret ⟨.inr rfl, by rfl, ?_⟩
            simp only [Try.f22, resA, resOne, toT, fin, exa, beq_self_eq_true, ByteArray.size, Nat.reduceAdd, Nat.reduceLeDiff, Nat.reduceEqDiff, Nat.reduceMul, Int.reduceToNat, reduceIte, Int.reduceLE, Int.reduceNeg, hst, resR, List.map_nil]
          | true =>
            skip
            refine runk_exec (by simp only [exa, beq_self_eq_true, ByteArray.size, Nat.reduceAdd, Nat.reduceLeDiff, Nat.reduceEqDiff, Nat.reduceMul, Int.reduceToNat, reduceIte, Int.reduceLE, Int.reduceNeg]; rfl) ?_
            refine W.cond rfl (fun h => absurd h (by simp)) (fun _ => ?_)
            repeat (first | refine W.seq ?_ | refine W.block ?_ | refine W.skip ?_ | refine W.exit ?_ | refine W.region tab_ok 0 (by decide) (exec_run (by simp only [exa, beq_self_eq_true, ByteArray.size, Nat.reduceAdd, Nat.reduceLeDiff, Nat.reduceEqDiff, Nat.reduceMul, Int.reduceToNat, reduceIte, Int.reduceLE, Int.reduceNeg]; rfl)) ?_)
            refine ⟨i + 1, ⟨hlt, fun i' x h1 h2 => ?_⟩, by omega, ?_⟩
            · rcases Nat.lt_succ_iff_lt_or_eq.1 h1 with h | rfl
              · exact hpre i' x h h2
              · rw [hx] at h2; cases h2; exact hat.trans hb2
            refine le_mk ?sle ?mle ?swf ?mwf ?kept (by rfl)
            case kept => exact kept_not hkeep
            case swf => repeat (first | exact swf_top _ | refine swf_upd ?_ (by simp [A.ids, upd_app]))
            case mwf => repeat (first | exact mwf_nil _ | refine mwf_upd ?_ (by simp [A.ids, O.ids, upd_app]))
            case mle => repeat (first | exact mle_nil _ | exact mle_refl _ | refine mle_upd ?_ (by first | rfl | (simp only [upd_app, killM_app, Nat.reduceEqDiff, reduceIte, wrap_succ (show i + 1 < 9223372036854775808 by omega)]; done)))
            case sle => repeat (first | exact sle_top _ | exact sle_refl _ | refine sle_upd ?_ (by first | rfl | (simp only [upd_app, entry_zero, entry_succ, Nat.reduceEqDiff, reduceIte, wrap_succ (show i + 1 < 9223372036854775808 by omega)]; done)))
    · intro hge
      simp only [decide_eq_false_iff_not, Int.ofNat_lt] at hge
      obtain rfl : i = es.length := by omega
      have hask : askBs H (asksB k es) = true := hall.2 fun i' x hx => hpre i' x (List.getElem?_eq_some_iff.1 hx).1 hx
      have hst : oneR H ⟨k, nn, ty, nm, es, th, el⟩ = if k = 1 then (if es.isEmpty = true then delN (bs nm) H else delN (bs nm) H ++ [bs nm], false, true)
          else if k = 2 then (if ownB k es = true then delN (headN es) H ++ [headN es] else H, false, true)
          else if k = 3 then branchR (sureR H th) (sureR H el)
          else if k = 4 then (H, false, (sureR H th).2.2)
          else if k = 6 then ([], true, true)
          else (H, false, true) := by simp only [oneR]; rw [hask]; rfl
      rw [hst]
      repeat (first | refine W.seq ?_ | refine W.block ?_ | refine W.skip ?_ | refine W.exit ?_ | refine W.region tab_ok 0 (by decide) (exec_run (by simp only [exa, beq_self_eq_true, ByteArray.size, Nat.reduceAdd, Nat.reduceLeDiff, Nat.reduceEqDiff, Nat.reduceMul, Int.reduceToNat, reduceIte, Int.reduceLE, Int.reduceNeg]; rfl)) ?_)
      by_cases k1 : k = 1
      · subst k1
        rw [if_pos rfl]
        refine W.cond rfl (fun _ => ?_) (fun h => absurd h (by simp))
        (repeat (first | refine W.seq ?_ | refine W.block ?_))
        have hde : ∀ s, (delN s H).length ≤ H.length := fun s => List.length_filter_le (fun t => t != s) H
        refine W.regionK tab_ok 0 (by decide) ?_
        refine runk_split 3 (by simp only [exa, beq_self_eq_true, ByteArray.size, Nat.reduceAdd, Nat.reduceLeDiff, Nat.reduceEqDiff, Nat.reduceMul, Int.reduceToNat, reduceIte, Int.reduceLE, Int.reduceNeg]; rfl) ?_
        refine runk_callE (D := []) rfl rfl rfl rfl rfl (fun j hj => by simp at hj) (by simp) (cvs_cons cv_refl (cvs_cons cv_refl cvs_nil)) (without_ok H (by omega) nm _ 60 rfl) ?_
        simp only [killL, putS, upd_upd]
        refine runk_exec (by simp only [exa, beq_self_eq_true, ByteArray.size, Nat.reduceAdd, Nat.reduceLeDiff, Nat.reduceEqDiff, Nat.reduceMul, Int.reduceToNat, reduceIte, Int.reduceLE, Int.reduceNeg]; rfl) ?_
        cases es with
        | nil =>
          skip
          repeat (first | refine W.seq ?_ | refine W.block ?_ | refine W.skip ?_ | refine W.exit ?_ | refine W.region tab_ok 0 (by decide) (exec_run (by simp only [exa, beq_self_eq_true, ByteArray.size, Nat.reduceAdd, Nat.reduceLeDiff, Nat.reduceEqDiff, Nat.reduceMul, Int.reduceToNat, reduceIte, Int.reduceLE, Int.reduceNeg, List.map_nil]; rfl)) ?_)
          refine W.cond rfl (fun h => absurd h (by simp)) (fun _ => ?_)
          repeat (first | refine W.seq ?_ | refine W.block ?_ | refine W.skip ?_ | refine W.exit ?_ | refine W.region tab_ok 0 (by decide) (exec_run (by simp only [exa, beq_self_eq_true, ByteArray.size, Nat.reduceAdd, Nat.reduceLeDiff, Nat.reduceEqDiff, Nat.reduceMul, Int.reduceToNat, reduceIte, Int.reduceLE, Int.reduceNeg]; rfl)) ?_)
          refine W.asData 4 (x := .sl (cBs (delN (bs nm) H))) rfl ?_ (by decide)
          refine W.ret ⟨.inr rfl, by rfl, ?_⟩
          simp only [Try.f22, resA, resOne, toT, fin, exa, beq_self_eq_true, ByteArray.size, Nat.reduceAdd, Nat.reduceLeDiff, Nat.reduceEqDiff, Nat.reduceMul, Int.reduceToNat, reduceIte, Int.reduceLE, Int.reduceNeg, resR, List.isEmpty]
        | cons x tl =>
          have hpos : (0 : Int) < ((tl.length + 1 : Nat) : Int) := by omega
          skip
          repeat (first | refine W.seq ?_ | refine W.block ?_ | refine W.skip ?_ | refine W.exit ?_ | refine W.region tab_ok 0 (by decide) (exec_run (by simp only [exa, beq_self_eq_true, ByteArray.size, Nat.reduceAdd, Nat.reduceLeDiff, Nat.reduceEqDiff, Nat.reduceMul, Int.reduceToNat, reduceIte, Int.reduceLE, Int.reduceNeg, List.map_cons, List.length_cons, List.length_map, hpos, decide_true]; rfl)) ?_)
          refine W.cond rfl (fun _ => ?_) (fun h => absurd h (by simp))
          refine W.regionK tab_ok 0 (by decide) ?_
          refine runk_split 4 (by simp only [exa, beq_self_eq_true, ByteArray.size, Nat.reduceAdd, Nat.reduceLeDiff, Nat.reduceEqDiff, Nat.reduceMul, Int.reduceToNat, reduceIte, Int.reduceLE, Int.reduceNeg]; rfl) ?_
          refine runk_append tab_ok 60 rfl rfl rfl rfl rfl rfl rfl rfl (by first | rfl | (simp only [exa, beq_self_eq_true, ByteArray.size, Nat.reduceAdd, Nat.reduceLeDiff, Nat.reduceEqDiff, Nat.reduceMul, Int.reduceToNat, reduceIte, Int.reduceLE, Int.reduceNeg]; rfl)) rfl rfl rfl rfl (nokeep hkeep) (by simp) (by have := hde (bs nm); simp only [List.length_map, List.length_cons, List.length_nil]; omega) (by decide) ?_
          refine runk_exec (by simp only [exa, beq_self_eq_true, ByteArray.size, Nat.reduceAdd, Nat.reduceLeDiff, Nat.reduceEqDiff, Nat.reduceMul, Int.reduceToNat, reduceIte, Int.reduceLE, Int.reduceNeg]; rfl) ?_
          repeat (first | refine W.seq ?_ | refine W.block ?_ | refine W.skip ?_ | refine W.exit ?_ | refine W.region tab_ok 0 (by decide) (exec_run (by simp only [exa, beq_self_eq_true, ByteArray.size, Nat.reduceAdd, Nat.reduceLeDiff, Nat.reduceEqDiff, Nat.reduceMul, Int.reduceToNat, reduceIte, Int.reduceLE, Int.reduceNeg]; rfl)) ?_)
          refine W.asData 4 (x := .sl (cBs (delN (bs nm) H ++ [bs nm]))) (by simp only [exa, beq_self_eq_true, ByteArray.size, Nat.reduceAdd, Nat.reduceLeDiff, Nat.reduceEqDiff, Nat.reduceMul, Int.reduceToNat, reduceIte, Int.reduceLE, Int.reduceNeg, List.map_append, List.map_cons, List.map_nil, cB]; rfl) ?_ (by decide)
          refine W.ret ⟨.inr rfl, by rfl, ?_⟩
          simp only [Try.f22, resA, resOne, toT, fin, exa, beq_self_eq_true, ByteArray.size, Nat.reduceAdd, Nat.reduceLeDiff, Nat.reduceEqDiff, Nat.reduceMul, Int.reduceToNat, reduceIte, Int.reduceLE, Int.reduceNeg, resR, List.isEmpty]
          rfl
      have k1' : decide (k = 1) = false := by simp [k1]
      rw [if_neg k1]
      refine W.cond rfl (fun h => absurd h (by simp [k1])) (fun _ => ?_)
      repeat (first | refine W.seq ?_ | refine W.block ?_ | refine W.skip ?_ | refine W.exit ?_ | refine W.region tab_ok 0 (by decide) (exec_run (by simp only [exa, beq_self_eq_true, ByteArray.size, Nat.reduceAdd, Nat.reduceLeDiff, Nat.reduceEqDiff, Nat.reduceMul, Int.reduceToNat, reduceIte, Int.reduceLE, Int.reduceNeg]; rfl)) ?_)
      by_cases k2 : k = 2
      · subst k2
        rw [if_pos rfl]
        refine W.cond rfl (fun _ => ?_) (fun h => absurd h (by simp))
        (repeat (first | refine W.seq ?_ | refine W.block ?_))
        cases es with
        | nil =>
          skip
          repeat (first | refine W.seq ?_ | refine W.block ?_ | refine W.skip ?_ | refine W.exit ?_ | refine W.region tab_ok 0 (by decide) (exec_run (by simp only [exa, beq_self_eq_true, ByteArray.size, Nat.reduceAdd, Nat.reduceLeDiff, Nat.reduceEqDiff, Nat.reduceMul, Int.reduceToNat, reduceIte, Int.reduceLE, Int.reduceNeg, List.map_nil]; rfl)) ?_)
          refine W.cond rfl (fun h => absurd h (by simp)) (fun _ => ?_)
          repeat (first | refine W.seq ?_ | refine W.block ?_ | refine W.skip ?_ | refine W.exit ?_ | refine W.region tab_ok 0 (by decide) (exec_run (by simp only [exa, beq_self_eq_true, ByteArray.size, Nat.reduceAdd, Nat.reduceLeDiff, Nat.reduceEqDiff, Nat.reduceMul, Int.reduceToNat, reduceIte, Int.reduceLE, Int.reduceNeg]; rfl)) ?_)
          refine W.ret ⟨.inr rfl, by rfl, ?_⟩
          simp only [Try.f22, resA, resOne, toT, fin, exa, beq_self_eq_true, ByteArray.size, Nat.reduceAdd, Nat.reduceLeDiff, Nat.reduceEqDiff, Nat.reduceMul, Int.reduceToNat, reduceIte, Int.reduceLE, Int.reduceNeg, resR]
          rfl
        | cons x tl =>
          obtain ⟨xk, xn, xm, xs⟩ := x
          have hpos : (0 : Int) < ((tl.length + 1 : Nat) : Int) := by omega
          repeat (first | refine W.seq ?_ | refine W.block ?_ | refine W.skip ?_ | refine W.exit ?_ | refine W.region tab_ok 0 (by decide) (exec_run (by simp only [exa, beq_self_eq_true, ByteArray.size, Nat.reduceAdd, Nat.reduceLeDiff, Nat.reduceEqDiff, Nat.reduceMul, Int.reduceToNat, reduceIte, Int.reduceLE, Int.reduceNeg, List.map_cons, List.length_cons, List.length_map, hpos, decide_true, cExpr, cExprs_map]; rfl)) ?_)
          by_cases k4 : xk = 4
          · subst k4
            have ho : ownB 2 (⟨4, xn, xm, xs⟩ :: tl) = true := rfl
            rw [ho]
            refine W.cond rfl (fun _ => ?_) (fun h => absurd h (by simp))
            have hde : (delN (bs xm) H).length ≤ H.length := List.length_filter_le (fun t => t != bs xm) H
            refine W.regionX tab_ok follows_mixed ⟨upd (fun _ => .top) 0 (.own 60), upd Mem.nil 60 (some (.arr 9 1 (cBs (delN (bs xm) H ++ [bs xm]))))⟩ ?_ ?_
            · skip
              refine rx_field (base := 0) tab_ok (by decide) (by decide +kernel) 7 rfl rfl (by simp only [exa, beq_self_eq_true, ByteArray.size, Nat.reduceAdd, Nat.reduceLeDiff, Nat.reduceEqDiff, Nat.reduceMul, Int.reduceToNat, reduceIte, Int.reduceLE, Int.reduceNeg]; rfl) rfl rfl (by decide +kernel) (by decide +kernel) ⟨_, by simp only [exec1, exa, beq_self_eq_true, ByteArray.size, Nat.reduceAdd, Nat.reduceLeDiff, Nat.reduceEqDiff, Nat.reduceMul, Int.reduceToNat, reduceIte, Int.reduceLE, Int.reduceNeg]; rfl, ?_⟩
              refine rx_runs (base := 0) tab_ok (by decide) ?_
              refine first_exec 0 (by decide +kernel) ⟨_, by simp only [exec1, exa, beq_self_eq_true, ByteArray.size, Nat.reduceAdd, Nat.reduceLeDiff, Nat.reduceEqDiff, Nat.reduceMul, Int.reduceToNat, reduceIte, Int.reduceLE, Int.reduceNeg]; rfl, ?_⟩
              refine first_exec 1 (by decide +kernel) ⟨_, by simp only [exec1, exa, beq_self_eq_true, ByteArray.size, Nat.reduceAdd, Nat.reduceLeDiff, Nat.reduceEqDiff, Nat.reduceMul, Int.reduceToNat, reduceIte, Int.reduceLE, Int.reduceNeg]; rfl, ?_⟩
              refine first_exec 2 (by decide +kernel) ⟨_, by simp only [exec1, exa, beq_self_eq_true, ByteArray.size, Nat.reduceAdd, Nat.reduceLeDiff, Nat.reduceEqDiff, Nat.reduceMul, Int.reduceToNat, reduceIte, Int.reduceLE, Int.reduceNeg]; rfl, ?_⟩
              refine first_exec 3 (by decide +kernel) ⟨_, by simp only [exec1, exa, beq_self_eq_true, ByteArray.size, Nat.reduceAdd, Nat.reduceLeDiff, Nat.reduceEqDiff, Nat.reduceMul, Int.reduceToNat, reduceIte, Int.reduceLE, Int.reduceNeg, List.map_cons, cExpr, cExprs_map]; rfl, ?_⟩
              refine first_exec 4 (by decide +kernel) ⟨_, by simp only [exec1, exa, beq_self_eq_true, ByteArray.size, Nat.reduceAdd, Nat.reduceLeDiff, Nat.reduceEqDiff, Nat.reduceMul, Int.reduceToNat, reduceIte, Int.reduceLE, Int.reduceNeg]; rfl, ?_⟩
              refine first_exec 5 (by decide +kernel) ⟨_, by simp only [exec1, exa, beq_self_eq_true, ByteArray.size, Nat.reduceAdd, Nat.reduceLeDiff, Nat.reduceEqDiff, Nat.reduceMul, Int.reduceToNat, reduceIte, Int.reduceLE, Int.reduceNeg]; rfl, ?_⟩
              refine runs_node [6, 8] (by decide +kernel) (by decide) ?_
              refine step_callE (D := []) rfl rfl rfl rfl rfl rfl rfl (fun u hu => by simp at hu) (by simp) (cvs_cons cv_refl (cvs_cons cv_refl cvs_nil)) (without_ok H (by omega) xm _ 60 rfl) ?_ ?_
              simp only [killL, upd_upd]
              refine first_exec 8 (by decide +kernel) ⟨_, by simp only [exec1, exa, beq_self_eq_true, ByteArray.size, Nat.reduceAdd, Nat.reduceLeDiff, Nat.reduceEqDiff, Nat.reduceMul, Int.reduceToNat, reduceIte, Int.reduceLE, Int.reduceNeg]; rfl, ?_⟩
              refine first_exec 9 (by decide +kernel) ⟨_, by simp only [exec1, exa, beq_self_eq_true, ByteArray.size, Nat.reduceAdd, Nat.reduceLeDiff, Nat.reduceEqDiff, Nat.reduceMul, Int.reduceToNat, reduceIte, Int.reduceLE, Int.reduceNeg, List.map_cons, cExpr]; rfl, ?_⟩
              refine first_exec 10 (by decide +kernel) ⟨_, by simp only [exec1, exa, beq_self_eq_true, ByteArray.size, Nat.reduceAdd, Nat.reduceLeDiff, Nat.reduceEqDiff, Nat.reduceMul, Int.reduceToNat, reduceIte, Int.reduceLE, Int.reduceNeg]; rfl, ?_⟩
              refine first_exec 11 (by decide +kernel) ⟨_, by simp only [exec1, exa, beq_self_eq_true, ByteArray.size, Nat.reduceAdd, Nat.reduceLeDiff, Nat.reduceEqDiff, Nat.reduceMul, Int.reduceToNat, reduceIte, Int.reduceLE, Int.reduceNeg]; rfl, ?_⟩
              refine first_exec 12 (by decide +kernel) ⟨_, by simp only [exec1, exa, beq_self_eq_true, ByteArray.size, Nat.reduceAdd, Nat.reduceLeDiff, Nat.reduceEqDiff, Nat.reduceMul, Int.reduceToNat, reduceIte, Int.reduceLE, Int.reduceNeg]; rfl, ?_⟩
              refine runs_node [13] (by decide +kernel) (by decide) ?_
              refine step_append tab_ok rfl 60 true rfl rfl rfl rfl rfl rfl (by simp only [exa, beq_self_eq_true, ByteArray.size, Nat.reduceAdd, Nat.reduceLeDiff, Nat.reduceEqDiff, Nat.reduceMul, Int.reduceToNat, reduceIte, Int.reduceLE, Int.reduceNeg]; done) (by simp only [exa, beq_self_eq_true, ByteArray.size, Nat.reduceAdd, Nat.reduceLeDiff, Nat.reduceEqDiff, Nat.reduceMul, Int.reduceToNat, reduceIte, Int.reduceLE, Int.reduceNeg]; rfl) (by simp only [exa, beq_self_eq_true, ByteArray.size, Nat.reduceAdd, Nat.reduceLeDiff, Nat.reduceEqDiff, Nat.reduceMul, Int.reduceToNat, reduceIte, Int.reduceLE, Int.reduceNeg]; rfl) rfl rfl rfl rfl (nokeep hkeep) (by simp) (by simp only [List.length_map, List.length_cons, List.length_nil]; omega) (by decide) ?_ ?_
              refine first_exec 14 (by decide +kernel) ⟨_, by simp only [exec1, exa, beq_self_eq_true, ByteArray.size, Nat.reduceAdd, Nat.reduceLeDiff, Nat.reduceEqDiff, Nat.reduceMul, Int.reduceToNat, reduceIte, Int.reduceLE, Int.reduceNeg]; rfl, ?_⟩
              refine runsw_end (by decide +kernel) ?_
              simp only [List.map_append, List.map_cons, List.map_nil, cB, rowO]
              (refine le_mk ?sle ?mle ?swf ?mwf ?kept (by rfl)
               case kept => exact kept_not hkeep
               case swf => repeat (first | exact swf_top _ | refine swf_upd ?_ (by simp [A.ids, upd_app]))
               case mwf => repeat (first | exact mwf_nil _ | refine mwf_upd ?_ (by simp [A.ids, O.ids, upd_app]))
               case sle => repeat (first | exact sle_top _ | exact sle_refl _ | refine sle_upd ?_ (by first | rfl | (simp only [upd_app, killS_app, A.kill, entry_zero, entry_succ, Nat.reduceEqDiff, reduceIte] <;> rfl)))
               case mle => repeat (first | exact mle_nil _ | exact mle_refl _ | refine mle_upd ?_ (by first | rfl | (simp only [upd_app, killM_app, O.kill, A.kill, Option.map_some, Option.map_none, List.map_cons, List.map_nil, Nat.reduceEqDiff, reduceIte] <;> rfl))))
              exact trivial
              refine step_exec ⟨_, by simp only [exec1, exa, beq_self_eq_true, ByteArray.size, Nat.reduceAdd, Nat.reduceLeDiff, Nat.reduceEqDiff, Nat.reduceMul, Int.reduceToNat, reduceIte, Int.reduceLE, Int.reduceNeg]; rfl, ?_⟩ trivial
              refine runs_node [6, 9] (by decide +kernel) (by decide) ?_
              refine step_callE (D := []) rfl rfl rfl rfl rfl rfl rfl (fun u hu => by simp at hu) (by simp) (cvs_cons cv_refl (cvs_cons cv_refl cvs_nil)) (without_ok H (by omega) xm _ 60 rfl) ?_ ?_
              simp only [killL, upd_upd]
              refine first_exec 9 (by decide +kernel) ⟨_, by simp only [exec1, exa, beq_self_eq_true, ByteArray.size, Nat.reduceAdd, Nat.reduceLeDiff, Nat.reduceEqDiff, Nat.reduceMul, Int.reduceToNat, reduceIte, Int.reduceLE, Int.reduceNeg, List.map_cons, cExpr]; rfl, ?_⟩
              refine first_exec 10 (by decide +kernel) ⟨_, by simp only [exec1, exa, beq_self_eq_true, ByteArray.size, Nat.reduceAdd, Nat.reduceLeDiff, Nat.reduceEqDiff, Nat.reduceMul, Int.reduceToNat, reduceIte, Int.reduceLE, Int.reduceNeg]; rfl, ?_⟩
              refine first_exec 11 (by decide +kernel) ⟨_, by simp only [exec1, exa, beq_self_eq_true, ByteArray.size, Nat.reduceAdd, Nat.reduceLeDiff, Nat.reduceEqDiff, Nat.reduceMul, Int.reduceToNat, reduceIte, Int.reduceLE, Int.reduceNeg]; rfl, ?_⟩
              refine first_exec 12 (by decide +kernel) ⟨_, by simp only [exec1, exa, beq_self_eq_true, ByteArray.size, Nat.reduceAdd, Nat.reduceLeDiff, Nat.reduceEqDiff, Nat.reduceMul, Int.reduceToNat, reduceIte, Int.reduceLE, Int.reduceNeg]; rfl, ?_⟩
              refine runs_node [13] (by decide +kernel) (by decide) ?_
              refine step_append tab_ok rfl 60 true rfl rfl rfl rfl rfl rfl (by simp only [exa, beq_self_eq_true, ByteArray.size, Nat.reduceAdd, Nat.reduceLeDiff, Nat.reduceEqDiff, Nat.reduceMul, Int.reduceToNat, reduceIte, Int.reduceLE, Int.reduceNeg]; done) (by simp only [exa, beq_self_eq_true, ByteArray.size, Nat.reduceAdd, Nat.reduceLeDiff, Nat.reduceEqDiff, Nat.reduceMul, Int.reduceToNat, reduceIte, Int.reduceLE, Int.reduceNeg]; rfl) (by simp only [exa, beq_self_eq_true, ByteArray.size, Nat.reduceAdd, Nat.reduceLeDiff, Nat.reduceEqDiff, Nat.reduceMul, Int.reduceToNat, reduceIte, Int.reduceLE, Int.reduceNeg]; rfl) rfl rfl rfl rfl (nokeep hkeep) (by simp) (by simp only [List.length_map, List.length_cons, List.length_nil]; omega) (by decide) ?_ ?_
              refine first_exec 14 (by decide +kernel) ⟨_, by simp only [exec1, exa, beq_self_eq_true, ByteArray.size, Nat.reduceAdd, Nat.reduceLeDiff, Nat.reduceEqDiff, Nat.reduceMul, Int.reduceToNat, reduceIte, Int.reduceLE, Int.reduceNeg]; rfl, ?_⟩
              refine runsw_end (by decide +kernel) ?_
              simp only [List.map_append, List.map_cons, List.map_nil, cB, rowO]
              (refine le_mk ?sle ?mle ?swf ?mwf ?kept (by rfl)
               case kept => exact kept_not hkeep
               case swf => repeat (first | exact swf_top _ | refine swf_upd ?_ (by simp [A.ids, upd_app]))
               case mwf => repeat (first | exact mwf_nil _ | refine mwf_upd ?_ (by simp [A.ids, O.ids, upd_app]))
               case sle => repeat (first | exact sle_top _ | exact sle_refl _ | refine sle_upd ?_ (by first | rfl | (simp only [upd_app, killS_app, A.kill, entry_zero, entry_succ, Nat.reduceEqDiff, reduceIte] <;> rfl)))
               case mle => repeat (first | exact mle_nil _ | exact mle_refl _ | refine mle_upd ?_ (by first | rfl | (simp only [upd_app, killM_app, O.kill, A.kill, Option.map_some, Option.map_none, List.map_cons, List.map_nil, Nat.reduceEqDiff, reduceIte] <;> rfl))))
              exact trivial
              refine step_exec ⟨_, by simp only [exec1, exa, beq_self_eq_true, ByteArray.size, Nat.reduceAdd, Nat.reduceLeDiff, Nat.reduceEqDiff, Nat.reduceMul, Int.reduceToNat, reduceIte, Int.reduceLE, Int.reduceNeg, List.map_cons, cExpr, cExprs_map]; rfl, ?_⟩ trivial
              refine runs_node [6, 10] (by decide +kernel) (by decide) ?_
              refine step_callE (D := []) rfl rfl rfl rfl rfl rfl rfl (fun u hu => by simp at hu) (by simp) (cvs_cons cv_refl (cvs_cons cv_refl cvs_nil)) (without_ok H (by omega) xm _ 60 rfl) ?_ ?_
              simp only [killL, upd_upd]
              refine first_exec 10 (by decide +kernel) ⟨_, by simp only [exec1, exa, beq_self_eq_true, ByteArray.size, Nat.reduceAdd, Nat.reduceLeDiff, Nat.reduceEqDiff, Nat.reduceMul, Int.reduceToNat, reduceIte, Int.reduceLE, Int.reduceNeg]; rfl, ?_⟩
              refine first_exec 11 (by decide +kernel) ⟨_, by simp only [exec1, exa, beq_self_eq_true, ByteArray.size, Nat.reduceAdd, Nat.reduceLeDiff, Nat.reduceEqDiff, Nat.reduceMul, Int.reduceToNat, reduceIte, Int.reduceLE, Int.reduceNeg]; rfl, ?_⟩
              refine first_exec 12 (by decide +kernel) ⟨_, by simp only [exec1, exa, beq_self_eq_true, ByteArray.size, Nat.reduceAdd, Nat.reduceLeDiff, Nat.reduceEqDiff, Nat.reduceMul, Int.reduceToNat, reduceIte, Int.reduceLE, Int.reduceNeg]; rfl, ?_⟩
              refine runs_node [13] (by decide +kernel) (by decide) ?_
              refine step_append tab_ok rfl 60 true rfl rfl rfl rfl rfl rfl (by simp only [exa, beq_self_eq_true, ByteArray.size, Nat.reduceAdd, Nat.reduceLeDiff, Nat.reduceEqDiff, Nat.reduceMul, Int.reduceToNat, reduceIte, Int.reduceLE, Int.reduceNeg]; done) (by simp only [exa, beq_self_eq_true, ByteArray.size, Nat.reduceAdd, Nat.reduceLeDiff, Nat.reduceEqDiff, Nat.reduceMul, Int.reduceToNat, reduceIte, Int.reduceLE, Int.reduceNeg]; rfl) (by simp only [exa, beq_self_eq_true, ByteArray.size, Nat.reduceAdd, Nat.reduceLeDiff, Nat.reduceEqDiff, Nat.reduceMul, Int.reduceToNat, reduceIte, Int.reduceLE, Int.reduceNeg]; rfl) rfl rfl rfl rfl (nokeep hkeep) (by simp) (by simp only [List.length_map, List.length_cons, List.length_nil]; omega) (by decide) ?_ ?_
              refine first_exec 14 (by decide +kernel) ⟨_, by simp only [exec1, exa, beq_self_eq_true, ByteArray.size, Nat.reduceAdd, Nat.reduceLeDiff, Nat.reduceEqDiff, Nat.reduceMul, Int.reduceToNat, reduceIte, Int.reduceLE, Int.reduceNeg]; rfl, ?_⟩
              refine runsw_end (by decide +kernel) ?_
              simp only [List.map_append, List.map_cons, List.map_nil, cB, rowO]
              (refine le_mk ?sle ?mle ?swf ?mwf ?kept (by rfl)
               case kept => exact kept_not hkeep
               case swf => repeat (first | exact swf_top _ | refine swf_upd ?_ (by simp [A.ids, upd_app]))
               case mwf => repeat (first | exact mwf_nil _ | refine mwf_upd ?_ (by simp [A.ids, O.ids, upd_app]))
               case sle => repeat (first | exact sle_top _ | exact sle_refl _ | refine sle_upd ?_ (by first | rfl | (simp only [upd_app, killS_app, A.kill, entry_zero, entry_succ, Nat.reduceEqDiff, reduceIte] <;> rfl)))
               case mle => repeat (first | exact mle_nil _ | exact mle_refl _ | refine mle_upd ?_ (by first | rfl | (simp only [upd_app, killM_app, O.kill, A.kill, Option.map_some, Option.map_none, List.map_cons, List.map_nil, Nat.reduceEqDiff, reduceIte] <;> rfl))))
              exact trivial
              refine step_exec ⟨_, by simp only [exec1, exa, beq_self_eq_true, ByteArray.size, Nat.reduceAdd, Nat.reduceLeDiff, Nat.reduceEqDiff, Nat.reduceMul, Int.reduceToNat, reduceIte, Int.reduceLE, Int.reduceNeg]; rfl, ?_⟩ trivial
              refine runs_node [6, 11] (by decide +kernel) (by decide) ?_
              refine step_callE (D := []) rfl rfl rfl rfl rfl rfl rfl (fun u hu => by simp at hu) (by simp) (cvs_cons cv_refl (cvs_cons cv_refl cvs_nil)) (without_ok H (by omega) xm _ 60 rfl) ?_ ?_
              simp only [killL, upd_upd]
              refine first_exec 11 (by decide +kernel) ⟨_, by simp only [exec1, exa, beq_self_eq_true, ByteArray.size, Nat.reduceAdd, Nat.reduceLeDiff, Nat.reduceEqDiff, Nat.reduceMul, Int.reduceToNat, reduceIte, Int.reduceLE, Int.reduceNeg]; rfl, ?_⟩
              refine first_exec 12 (by decide +kernel) ⟨_, by simp only [exec1, exa, beq_self_eq_true, ByteArray.size, Nat.reduceAdd, Nat.reduceLeDiff, Nat.reduceEqDiff, Nat.reduceMul, Int.reduceToNat, reduceIte, Int.reduceLE, Int.reduceNeg]; rfl, ?_⟩
              refine runs_node [13] (by decide +kernel) (by decide) ?_
              refine step_append tab_ok rfl 60 true rfl rfl rfl rfl rfl rfl (by simp only [exa, beq_self_eq_true, ByteArray.size, Nat.reduceAdd, Nat.reduceLeDiff, Nat.reduceEqDiff, Nat.reduceMul, Int.reduceToNat, reduceIte, Int.reduceLE, Int.reduceNeg]; done) (by simp only [exa, beq_self_eq_true, ByteArray.size, Nat.reduceAdd, Nat.reduceLeDiff, Nat.reduceEqDiff, Nat.reduceMul, Int.reduceToNat, reduceIte, Int.reduceLE, Int.reduceNeg]; rfl) (by simp only [exa, beq_self_eq_true, ByteArray.size, Nat.reduceAdd, Nat.reduceLeDiff, Nat.reduceEqDiff, Nat.reduceMul, Int.reduceToNat, reduceIte, Int.reduceLE, Int.reduceNeg]; rfl) rfl rfl rfl rfl (nokeep hkeep) (by simp) (by simp only [List.length_map, List.length_cons, List.length_nil]; omega) (by decide) ?_ ?_
              refine first_exec 14 (by decide +kernel) ⟨_, by simp only [exec1, exa, beq_self_eq_true, ByteArray.size, Nat.reduceAdd, Nat.reduceLeDiff, Nat.reduceEqDiff, Nat.reduceMul, Int.reduceToNat, reduceIte, Int.reduceLE, Int.reduceNeg]; rfl, ?_⟩
              refine runsw_end (by decide +kernel) ?_
              simp only [List.map_append, List.map_cons, List.map_nil, cB, rowO]
              (refine le_mk ?sle ?mle ?swf ?mwf ?kept (by rfl)
               case kept => exact kept_not hkeep
               case swf => repeat (first | exact swf_top _ | refine swf_upd ?_ (by simp [A.ids, upd_app]))
               case mwf => repeat (first | exact mwf_nil _ | refine mwf_upd ?_ (by simp [A.ids, O.ids, upd_app]))
               case sle => repeat (first | exact sle_top _ | exact sle_refl _ | refine sle_upd ?_ (by first | rfl | (simp only [upd_app, killS_app, A.kill, entry_zero, entry_succ, Nat.reduceEqDiff, reduceIte] <;> rfl)))
               case mle => repeat (first | exact mle_nil _ | exact mle_refl _ | refine mle_upd ?_ (by first | rfl | (simp only [upd_app, killM_app, O.kill, A.kill, Option.map_some, Option.map_none, List.map_cons, List.map_nil, Nat.reduceEqDiff, reduceIte] <;> rfl))))
              exact trivial
              refine step_exec ⟨_, by simp only [exec1, exa, beq_self_eq_true, ByteArray.size, Nat.reduceAdd, Nat.reduceLeDiff, Nat.reduceEqDiff, Nat.reduceMul, Int.reduceToNat, reduceIte, Int.reduceLE, Int.reduceNeg]; rfl, ?_⟩ trivial
              refine runs_node [6, 12] (by decide +kernel) (by decide) ?_
              refine step_callE (D := []) rfl rfl rfl rfl rfl rfl rfl (fun u hu => by simp at hu) (by simp) (cvs_cons cv_refl (cvs_cons cv_refl cvs_nil)) (without_ok H (by omega) xm _ 60 rfl) ?_ ?_
              simp only [killL, upd_upd]
              refine first_exec 12 (by decide +kernel) ⟨_, by simp only [exec1, exa, beq_self_eq_true, ByteArray.size, Nat.reduceAdd, Nat.reduceLeDiff, Nat.reduceEqDiff, Nat.reduceMul, Int.reduceToNat, reduceIte, Int.reduceLE, Int.reduceNeg]; rfl, ?_⟩
              refine runs_node [13] (by decide +kernel) (by decide) ?_
              refine step_append tab_ok rfl 60 true rfl rfl rfl rfl rfl rfl (by simp only [exa, beq_self_eq_true, ByteArray.size, Nat.reduceAdd, Nat.reduceLeDiff, Nat.reduceEqDiff, Nat.reduceMul, Int.reduceToNat, reduceIte, Int.reduceLE, Int.reduceNeg]; done) (by simp only [exa, beq_self_eq_true, ByteArray.size, Nat.reduceAdd, Nat.reduceLeDiff, Nat.reduceEqDiff, Nat.reduceMul, Int.reduceToNat, reduceIte, Int.reduceLE, Int.reduceNeg]; rfl) (by simp only [exa, beq_self_eq_true, ByteArray.size, Nat.reduceAdd, Nat.reduceLeDiff, Nat.reduceEqDiff, Nat.reduceMul, Int.reduceToNat, reduceIte, Int.reduceLE, Int.reduceNeg]; rfl) rfl rfl rfl rfl (nokeep hkeep) (by simp) (by simp only [List.length_map, List.length_cons, List.length_nil]; omega) (by decide) ?_ ?_
              refine first_exec 14 (by decide +kernel) ⟨_, by simp only [exec1, exa, beq_self_eq_true, ByteArray.size, Nat.reduceAdd, Nat.reduceLeDiff, Nat.reduceEqDiff, Nat.reduceMul, Int.reduceToNat, reduceIte, Int.reduceLE, Int.reduceNeg]; rfl, ?_⟩
              refine runsw_end (by decide +kernel) ?_
              simp only [List.map_append, List.map_cons, List.map_nil, cB, rowO]
              (refine le_mk ?sle ?mle ?swf ?mwf ?kept (by rfl)
               case kept => exact kept_not hkeep
               case swf => repeat (first | exact swf_top _ | refine swf_upd ?_ (by simp [A.ids, upd_app]))
               case mwf => repeat (first | exact mwf_nil _ | refine mwf_upd ?_ (by simp [A.ids, O.ids, upd_app]))
               case sle => repeat (first | exact sle_top _ | exact sle_refl _ | refine sle_upd ?_ (by first | rfl | (simp only [upd_app, killS_app, A.kill, entry_zero, entry_succ, Nat.reduceEqDiff, reduceIte] <;> rfl)))
               case mle => repeat (first | exact mle_nil _ | exact mle_refl _ | refine mle_upd ?_ (by first | rfl | (simp only [upd_app, killM_app, O.kill, A.kill, Option.map_some, Option.map_none, List.map_cons, List.map_nil, Nat.reduceEqDiff, reduceIte] <;> rfl))))
              exact trivial
              refine step_exec ⟨_, by simp only [exec1, exa, beq_self_eq_true, ByteArray.size, Nat.reduceAdd, Nat.reduceLeDiff, Nat.reduceEqDiff, Nat.reduceMul, Int.reduceToNat, reduceIte, Int.reduceLE, Int.reduceNeg]; rfl, ?_⟩ trivial
              refine runs_node [6] (by decide +kernel) (by decide) ?_
              refine step_callE (D := []) rfl rfl rfl rfl rfl rfl rfl (fun u hu => by simp at hu) (by simp) (cvs_cons cv_refl (cvs_cons cv_refl cvs_nil)) (without_ok H (by omega) xm _ 60 rfl) ?_ ?_
              simp only [killL, upd_upd]
              refine runs_node [13] (by decide +kernel) (by decide) ?_
              refine step_append tab_ok rfl 60 true rfl rfl rfl rfl rfl rfl (by simp only [exa, beq_self_eq_true, ByteArray.size, Nat.reduceAdd, Nat.reduceLeDiff, Nat.reduceEqDiff, Nat.reduceMul, Int.reduceToNat, reduceIte, Int.reduceLE, Int.reduceNeg]; done) (by simp only [exa, beq_self_eq_true, ByteArray.size, Nat.reduceAdd, Nat.reduceLeDiff, Nat.reduceEqDiff, Nat.reduceMul, Int.reduceToNat, reduceIte, Int.reduceLE, Int.reduceNeg]; rfl) (by simp only [exa, beq_self_eq_true, ByteArray.size, Nat.reduceAdd, Nat.reduceLeDiff, Nat.reduceEqDiff, Nat.reduceMul, Int.reduceToNat, reduceIte, Int.reduceLE, Int.reduceNeg]; rfl) rfl rfl rfl rfl (nokeep hkeep) (by simp) (by simp only [List.length_map, List.length_cons, List.length_nil]; omega) (by decide) ?_ ?_
              refine first_exec 14 (by decide +kernel) ⟨_, by simp only [exec1, exa, beq_self_eq_true, ByteArray.size, Nat.reduceAdd, Nat.reduceLeDiff, Nat.reduceEqDiff, Nat.reduceMul, Int.reduceToNat, reduceIte, Int.reduceLE, Int.reduceNeg]; rfl, ?_⟩
              refine runsw_end (by decide +kernel) ?_
              simp only [List.map_append, List.map_cons, List.map_nil, cB, rowO]
              (refine le_mk ?sle ?mle ?swf ?mwf ?kept (by rfl)
               case kept => exact kept_not hkeep
               case swf => repeat (first | exact swf_top _ | refine swf_upd ?_ (by simp [A.ids, upd_app]))
               case mwf => repeat (first | exact mwf_nil _ | refine mwf_upd ?_ (by simp [A.ids, O.ids, upd_app]))
               case sle => repeat (first | exact sle_top _ | exact sle_refl _ | refine sle_upd ?_ (by first | rfl | (simp only [upd_app, killS_app, A.kill, entry_zero, entry_succ, Nat.reduceEqDiff, reduceIte] <;> rfl)))
               case mle => repeat (first | exact mle_nil _ | exact mle_refl _ | refine mle_upd ?_ (by first | rfl | (simp only [upd_app, killM_app, O.kill, A.kill, Option.map_some, Option.map_none, List.map_cons, List.map_nil, Nat.reduceEqDiff, reduceIte] <;> rfl))))
              exact trivial
              exact trivial
            intro st' hle
            refine W.weaken hle ?_
            clear hle st'
            repeat (first | refine W.seq ?_ | refine W.block ?_ | refine W.skip ?_ | refine W.exit ?_ | refine W.region tab_ok 0 (by decide) (exec_run (by simp only [exa, beq_self_eq_true, ByteArray.size, Nat.reduceAdd, Nat.reduceLeDiff, Nat.reduceEqDiff, Nat.reduceMul, Int.reduceToNat, reduceIte, Int.reduceLE, Int.reduceNeg]; rfl)) ?_)
            refine W.asData 4 (x := .sl (cBs (delN (bs xm) H ++ [bs xm]))) rfl ?_ (by decide)
            refine W.ret ⟨.inr rfl, by rfl, ?_⟩
            simp only [Try.f22, resA, resOne, toT, fin, exa, beq_self_eq_true, ByteArray.size, Nat.reduceAdd, Nat.reduceLeDiff, Nat.reduceEqDiff, Nat.reduceMul, Int.reduceToNat, reduceIte, Int.reduceLE, Int.reduceNeg, resR]
            rfl
          · have ho : ownB 2 (⟨xk, xn, xm, xs⟩ :: tl) = false := by simp [ownB, k4]
            rw [ho]
            refine W.cond rfl (fun h => absurd h (by simp [k4])) (fun _ => ?_)
            repeat (first | refine W.seq ?_ | refine W.block ?_ | refine W.skip ?_ | refine W.exit ?_ | refine W.region tab_ok 0 (by decide) (exec_run (by simp only [exa, beq_self_eq_true, ByteArray.size, Nat.reduceAdd, Nat.reduceLeDiff, Nat.reduceEqDiff, Nat.reduceMul, Int.reduceToNat, reduceIte, Int.reduceLE, Int.reduceNeg]; rfl)) ?_)
            refine W.ret ⟨.inr rfl, by rfl, ?_⟩
            simp only [Try.f22, resA, resOne, toT, fin, exa, beq_self_eq_true, ByteArray.size, Nat.reduceAdd, Nat.reduceLeDiff, Nat.reduceEqDiff, Nat.reduceMul, Int.reduceToNat, reduceIte, Int.reduceLE, Int.reduceNeg, resR]
            rfl
      rw [if_neg k2]
      refine W.cond rfl (fun h => absurd h (by simp [k2])) (fun _ => ?_)
      repeat (first | refine W.seq ?_ | refine W.block ?_ | refine W.skip ?_ | refine W.exit ?_ | refine W.region tab_ok 0 (by decide) (exec_run (by simp only [exa, beq_self_eq_true, ByteArray.size, Nat.reduceAdd, Nat.reduceLeDiff, Nat.reduceEqDiff, Nat.reduceMul, Int.reduceToNat, reduceIte, Int.reduceLE, Int.reduceNeg]; rfl)) ?_)
      by_cases k3 : k = 3
      · subst k3
        rw [if_pos rfl]
        refine W.cond rfl (fun _ => ?_) (fun h => absurd h (by simp))
        (repeat (first | refine W.seq ?_ | refine W.block ?_))
        simp only [resR] at hbr
        refine W.regionK tab_ok 0 (by decide) ?_
        refine runk_split 2 (by simp only [exa, beq_self_eq_true, ByteArray.size, Nat.reduceAdd, Nat.reduceLeDiff, Nat.reduceEqDiff, Nat.reduceMul, Int.reduceToNat, reduceIte, Int.reduceLE, Int.reduceNeg]; rfl) ?_
        refine runk_call rfl rfl rfl rfl rfl (by simp) (cvs_cons cv_refl (cvs_cons cv_refl cvs_nil)) (hbr _) ?_
        refine runk_exec (by simp only [exa, beq_self_eq_true, ByteArray.size, Nat.reduceAdd, Nat.reduceLeDiff, Nat.reduceEqDiff, Nat.reduceMul, Int.reduceToNat, reduceIte, Int.reduceLE, Int.reduceNeg]; rfl) ?_
        refine W.ret ⟨.inr rfl, by rfl, ?_⟩
        simp only [Try.f22, resA, resOne, toT, fin, exa, beq_self_eq_true, ByteArray.size, Nat.reduceAdd, Nat.reduceLeDiff, Nat.reduceEqDiff, Nat.reduceMul, Int.reduceToNat, reduceIte, Int.reduceLE, Int.reduceNeg, resR]
      rw [if_neg k3]
      refine W.cond rfl (fun h => absurd h (by simp [k3])) (fun _ => ?_)
      repeat (first | refine W.seq ?_ | refine W.block ?_ | refine W.skip ?_ | refine W.exit ?_ | refine W.region tab_ok 0 (by decide) (exec_run (by simp only [exa, beq_self_eq_true, ByteArray.size, Nat.reduceAdd, Nat.reduceLeDiff, Nat.reduceEqDiff, Nat.reduceMul, Int.reduceToNat, reduceIte, Int.reduceLE, Int.reduceNeg]; rfl)) ?_)
      by_cases k4 : k = 4
      · subst k4
        rw [if_pos rfl]
        refine W.cond rfl (fun _ => ?_) (fun h => absurd h (by simp))
        (repeat (first | refine W.seq ?_ | refine W.block ?_))
        simp only [resR] at hT
        refine W.regionK tab_ok 0 (by decide) ?_
        refine runk_split 3 (by simp only [exa, beq_self_eq_true, ByteArray.size, Nat.reduceAdd, Nat.reduceLeDiff, Nat.reduceEqDiff, Nat.reduceMul, Int.reduceToNat, reduceIte, Int.reduceLE, Int.reduceNeg]; rfl) ?_
        refine runk_call rfl rfl rfl rfl rfl (by simp) (cvs_cons cv_refl (cvs_cons cv_refl cvs_nil)) (hT _) ?_
        refine runk_exec (by simp only [exa, beq_self_eq_true, ByteArray.size, Nat.reduceAdd, Nat.reduceLeDiff, Nat.reduceEqDiff, Nat.reduceMul, Int.reduceToNat, reduceIte, Int.reduceLE, Int.reduceNeg]; rfl) ?_
        repeat (first | refine W.seq ?_ | refine W.block ?_ | refine W.skip ?_ | refine W.exit ?_ | refine W.region tab_ok 0 (by decide) (exec_run (by simp only [exa, beq_self_eq_true, ByteArray.size, Nat.reduceAdd, Nat.reduceLeDiff, Nat.reduceEqDiff, Nat.reduceMul, Int.reduceToNat, reduceIte, Int.reduceLE, Int.reduceNeg]; rfl)) ?_)
        refine W.ret ⟨.inr rfl, by rfl, ?_⟩
        simp only [Try.f22, resA, resOne, toT, fin, exa, beq_self_eq_true, ByteArray.size, Nat.reduceAdd, Nat.reduceLeDiff, Nat.reduceEqDiff, Nat.reduceMul, Int.reduceToNat, reduceIte, Int.reduceLE, Int.reduceNeg, resR]
      rw [if_neg k4]
      refine W.cond rfl (fun h => absurd h (by simp [k4])) (fun _ => ?_)
      repeat (first | refine W.seq ?_ | refine W.block ?_ | refine W.skip ?_ | refine W.exit ?_ | refine W.region tab_ok 0 (by decide) (exec_run (by simp only [exa, beq_self_eq_true, ByteArray.size, Nat.reduceAdd, Nat.reduceLeDiff, Nat.reduceEqDiff, Nat.reduceMul, Int.reduceToNat, reduceIte, Int.reduceLE, Int.reduceNeg]; rfl)) ?_)
      by_cases k6 : k = 6
      · subst k6
        rw [if_pos rfl]
        refine W.cond rfl (fun _ => ?_) (fun h => absurd h (by simp))
        repeat (first | refine W.seq ?_ | refine W.block ?_ | refine W.skip ?_ | refine W.exit ?_ | refine W.region tab_ok 0 (by decide) (exec_run (by simp only [exa, beq_self_eq_true, ByteArray.size, Nat.reduceAdd, Nat.reduceLeDiff, Nat.reduceEqDiff, Nat.reduceMul, Int.reduceToNat, reduceIte, Int.reduceLE, Int.reduceNeg]; rfl)) ?_)
        refine W.ret ⟨.inr rfl, by rfl, ?_⟩
        simp only [Try.f22, resA, resOne, toT, fin, exa, beq_self_eq_true, ByteArray.size, Nat.reduceAdd, Nat.reduceLeDiff, Nat.reduceEqDiff, Nat.reduceMul, Int.reduceToNat, reduceIte, Int.reduceLE, Int.reduceNeg, resR, List.map_nil]
      rw [if_neg k6]
      refine W.cond rfl (fun h => absurd h (by simp [k6])) (fun _ => ?_)
      repeat (first | refine W.seq ?_ | refine W.block ?_ | refine W.skip ?_ | refine W.exit ?_ | refine W.region tab_ok 0 (by decide) (exec_run (by simp only [exa, beq_self_eq_true, ByteArray.size, Nat.reduceAdd, Nat.reduceLeDiff, Nat.reduceEqDiff, Nat.reduceMul, Int.reduceToNat, reduceIte, Int.reduceLE, Int.reduceNeg]; rfl)) ?_)
      refine W.ret ⟨.inr rfl, by rfl, ?_⟩
      simp only [Try.f22, resA, resOne, toT, fin, exa, beq_self_eq_true, ByteArray.size, Nat.reduceAdd, Nat.reduceLeDiff, Nat.reduceEqDiff, Nat.reduceMul, Int.reduceToNat, reduceIte, Int.reduceLE, Int.reduceNeg, resR]
end V
end Go.Proofs.Ytgaipdillmleeaa
end
section
/- The document's Sorted walked. -/
set_option linter.unusedVariables false
set_option linter.unusedSimpArgs false
namespace Go.Proofs.Ytgaipdillmleeaa
namespace V
open Go.RowKit AS
theorem lss_nm (a : Nm) (s : ByteArray) : Op.bytesLess (⟨a.toArray⟩ : ByteArray).toList s.toList = decide (a < bs s) := by rw [toList_bs, toList_bs, bs_mk, bytesLess_eq]
theorem insN_in {s : Nm} : ∀ {L : List Nm}, L.Pairwise (· < ·) → L.contains s = true → insN s L = L
  | [], _, h => by simp at h
  | t :: l, hp, h => by
    unfold insN
    rw [List.pairwise_cons] at hp
    rw [List.contains_cons, Bool.or_eq_true, beq_iff_eq] at h
    split
    · rfl
    · rename_i hne
      have hm : l.contains s = true := h.resolve_left hne
      have hts := hp.1 s (by simpa using hm)
      rw [if_neg (fun q => List.lt_irrefl _ (List.lt_trans q hts)), insN_in hp.2 hm]
theorem insN_at {s : Nm} : ∀ {L : List Nm} (a : Nat), L.contains s = false → a ≤ L.length → (∀ j x, j < a → L[j]? = some x → x < s) → (∀ x, L[a]? = some x → ¬ x < s) → insN s L = L.take a ++ [s] ++ L.drop a
  | [], a, _, h, _, _ => by
    obtain rfl : a = 0 := by simpa using h
    rfl
  | t :: l, 0, hc, _, _, h2 => by
    unfold insN
    rw [List.contains_cons, Bool.or_eq_false_iff, beq_eq_false_iff_ne] at hc
    have := h2 t rfl
    rw [if_neg hc.1, if_pos (Classical.byContradiction fun q => by
      rcases List.le_total t s with h | h
      · rcases Classical.em (t < s) with k | k
        · exact this k
        · exact hc.1 (List.le_antisymm (List.not_lt.1 k) h)
      · rcases Classical.em (s < t) with k | k
        · exact q k
        · exact hc.1 (List.le_antisymm h (List.not_lt.1 k)))]
    rfl
  | t :: l, a + 1, hc, hl, h1, h2 => by
    unfold insN
    rw [List.contains_cons, Bool.or_eq_false_iff, beq_eq_false_iff_ne] at hc
    have ht := h1 0 t (by omega) rfl
    rw [if_neg hc.1, if_neg (fun q => List.lt_irrefl _ (List.lt_trans q ht)), insN_at a hc.2 (by simpa using hl) (fun j x hj hx => h1 (j + 1) x (by omega) (by simpa using hx)) (fun x hx => h2 x (by simpa using hx))]
    rfl
theorem insN_srt {s : Nm} : ∀ {L : List Nm}, L.Pairwise (· < ·) → (insN s L).Pairwise (· < ·)
  | [], _ => by simp [insN]
  | t :: l, hp => by
    have hp' := hp
    rw [List.pairwise_cons] at hp
    unfold insN
    split
    · exact hp'
    · rename_i hne
      split
      · rename_i hlt
        rw [List.pairwise_cons]
        refine ⟨fun x hx => ?_, hp'⟩
        rcases List.mem_cons.1 hx with rfl | hx
        · exact hlt
        · exact List.lt_trans hlt (hp.1 x hx)
      · rename_i hlt
        rw [List.pairwise_cons]
        refine ⟨fun x hx => ?_, insN_srt hp.2⟩
        rcases mem_insN.1 hx with rfl | hx
        · rcases Classical.em (t < x) with k | k
          · exact k
          · exact absurd (List.le_antisymm (List.not_lt.1 k) (List.not_lt.1 hlt)) hne
        · exact hp.1 x hx
theorem putAll_append : ∀ (l : List Nm) (L : List Nm) (s : Nm), putAll L (l ++ [s]) = insN s (putAll L l)
  | [], L, s => rfl
  | x :: l, L, s => putAll_append l (insN x L) s
theorem putAll_srt : ∀ (l : List Nm) {L : List Nm}, L.Pairwise (· < ·) → (putAll L l).Pairwise (· < ·)
  | [], _, h => h
  | x :: l, _, h => putAll_srt l (insN_srt h)
theorem mem_putAll {x : Nm} : ∀ {l L : List Nm}, x ∈ putAll L l ↔ x ∈ L ∨ x ∈ l
  | [], L => by simp [putAll]
  | y :: l, L => by
    show x ∈ putAll (insN y L) l ↔ _
    rw [mem_putAll, mem_insN, List.mem_cons]
    constructor
    · rintro ((h | h) | h)
      · exact .inr (.inl h)
      · exact .inl h
      · exact .inr (.inr h)
    · rintro (h | h | h)
      · exact .inl (.inr h)
      · exact .inl (.inl h)
      · exact .inr h
theorem putAll_len : ∀ (l L : List Nm), (putAll L l).length ≤ L.length + l.length
  | [], L => by simp [putAll]
  | x :: l, L => by
    have h1 := putAll_len l (insN x L)
    have : ∀ L : List Nm, (insN x L).length ≤ L.length + 1 := fun L => by
      induction L with
      | nil => simp [insN]
      | cons t l ih =>
        unfold insN
        split
        · simp
        · split
          · simp
          · simp only [List.length_cons]; omega
    have h2 := this L
    show (putAll (insN x L) l).length ≤ _
    simp only [List.length_cons]; omega
theorem take_len {α : Type} (l : List α) : l.take l.length = l := List.take_length
set_option maxHeartbeats 8000000 in
theorem sorted_ok (l : List Nm) (hl : l.length ≤ 1000000000) (m : Mem) : COk Try.prog 11 [.c (.sl (cBs l))] m (.c (.sl (cBs (putAll [] l)))) := by
  refine (ok_pure tab_ok Try.func11 (by kernel_rfl) rfl rfl (by rfl) (by rfl) (by rfl) (fun R hkeep => ?_) m)
  repeat (first | refine W.seq ?_ | refine W.block ?_ | refine W.skip ?_ | refine W.exit ?_ | refine W.region tab_ok 0 (by decide) (exec_run (by simp only [exa, beq_self_eq_true, ByteArray.size, Nat.reduceAdd, Nat.reduceLeDiff, Nat.reduceEqDiff, Nat.reduceMul, Int.reduceToNat, reduceIte, Int.reduceLE, Int.reduceNeg]; rfl)) ?_)
  refine W.asData 3 (x := .sl []) rfl ?_ (by decide)
  refine W.loop (ι := Nat) (fun k => ⟨upd (upd (upd (upd (fun _ => .top) 3 (.c (.sl (cBs (putAll [] (l.take k)))))) 7 (.c (.sl (cBs l)))) 8 (.c (.int .i64 l.length))) 9 (.c (.int .i64 k)), Mem.nil⟩)
    (fun k => k ≤ l.length) (fun k => l.length - k) 0 ?start (Nat.zero_le _) ?round
  case start =>
    refine le_mk ?sle ?mle ?swf ?mwf ?kept (by rfl)
    case kept => exact kept_not hkeep
    case swf => repeat (first | exact swf_top _ | refine swf_upd ?_ (by simp [A.ids, upd_app]))
    case mwf => repeat (first | exact mwf_nil _ | refine mwf_upd ?_ (by simp [A.ids, O.ids, upd_app]))
    case mle => repeat (first | exact mle_nil _ | exact mle_refl _ | refine mle_upd ?_ (by first | rfl | (simp only [upd_app, killM_app, Nat.reduceEqDiff, reduceIte, List.length_map, List.take_zero, putAll, List.map_nil]; done)))
    case sle => repeat (first | exact sle_top _ | exact sle_refl _ | refine sle_upd ?_ (by first | rfl | (simp only [upd_app, entry_zero, entry_succ, Nat.reduceEqDiff, reduceIte, List.length_map, List.take_zero, putAll, List.map_nil]; done)))
  case round =>
    intro k hk
    repeat (first | refine W.seq ?_ | refine W.block ?_ | refine W.skip ?_ | refine W.exit ?_ | refine W.region tab_ok 0 (by decide) (exec_run (by simp only [exa, beq_self_eq_true, ByteArray.size, Nat.reduceAdd, Nat.reduceLeDiff, Nat.reduceEqDiff, Nat.reduceMul, Int.reduceToNat, reduceIte, Int.reduceLE, Int.reduceNeg]; rfl)) ?_)
    refine W.cond rfl ?_ ?_
    · intro hlt
      simp only [decide_eq_true_eq, Int.ofNat_lt] at hlt
      obtain ⟨x, hx⟩ : ∃ x, l[k]? = some x := ⟨_, List.getElem?_eq_getElem hlt⟩
      have htk : putAll [] (l.take (k + 1)) = insN x (putAll [] (l.take k)) := by rw [List.take_add_one, hx]; exact putAll_append _ _ _
      have hsrt := putAll_srt (l.take k) (L := []) List.Pairwise.nil
      have hlen := putAll_len (l.take k) []
      rw [List.length_take, List.length_nil] at hlen
      obtain ⟨out, ho⟩ : ∃ o, o = putAll [] (l.take k) := ⟨_, rfl⟩
      rw [← ho] at htk hsrt hlen ⊢
      have hol : out.length ≤ 1000000000 := by omega
      have hhx := has_ok out (by omega) ⟨x.toArray⟩
      rw [bs_mk] at hhx
      repeat (first | refine W.seq ?_ | refine W.block ?_ | refine W.skip ?_ | refine W.exit ?_ | refine W.region tab_ok 0 (by decide) (exec_run (by simp only [exa, beq_self_eq_true, ByteArray.size, Nat.reduceAdd, Nat.reduceLeDiff, Nat.reduceEqDiff, Nat.reduceMul, Int.reduceToNat, reduceIte, Int.reduceLE, Int.reduceNeg, List.length_map, hlt, at_map hx, cB]; rfl)) ?_)
      refine W.regionK tab_ok 0 (by decide) ?_
      refine runk_split 2 (by simp only [exa, beq_self_eq_true, ByteArray.size, Nat.reduceAdd, Nat.reduceLeDiff, Nat.reduceEqDiff, Nat.reduceMul, Int.reduceToNat, reduceIte, Int.reduceLE, Int.reduceNeg]; rfl) ?_
      refine runk_call rfl rfl rfl rfl rfl (by simp) (cvs_cons cv_refl (cvs_cons cv_refl cvs_nil)) (hhx _) ?_
      refine runk_exec (by simp only [exa, beq_self_eq_true, ByteArray.size, Nat.reduceAdd, Nat.reduceLeDiff, Nat.reduceEqDiff, Nat.reduceMul, Int.reduceToNat, reduceIte, Int.reduceLE, Int.reduceNeg]; rfl) ?_
      refine W.cond rfl ?_ ?_
      · intro hc
        repeat (first | refine W.seq ?_ | refine W.block ?_ | refine W.skip ?_ | refine W.exit ?_ | refine W.region tab_ok 0 (by decide) (exec_run (by simp only [exa, beq_self_eq_true, ByteArray.size, Nat.reduceAdd, Nat.reduceLeDiff, Nat.reduceEqDiff, Nat.reduceMul, Int.reduceToNat, reduceIte, Int.reduceLE, Int.reduceNeg]; rfl)) ?_)
        refine ⟨k + 1, hlt, by omega, ?_⟩
        rw [htk, insN_in hsrt hc]
        refine le_mk ?sle ?mle ?swf ?mwf ?kept (by rfl)
        case kept => exact kept_not hkeep
        case swf => repeat (first | exact swf_top _ | refine swf_upd ?_ (by simp [A.ids, upd_app]))
        case mwf => repeat (first | exact mwf_nil _ | refine mwf_upd ?_ (by simp [A.ids, O.ids, upd_app]))
        case mle => repeat (first | exact mle_nil _ | exact mle_refl _ | refine mle_upd ?_ (by first | rfl | (simp only [upd_app, killM_app, Nat.reduceEqDiff, reduceIte, wrap_succ (show k + 1 < 9223372036854775808 by omega)]; done)))
        case sle => repeat (first | exact sle_top _ | exact sle_refl _ | refine sle_upd ?_ (by first | rfl | (simp only [upd_app, entry_zero, entry_succ, Nat.reduceEqDiff, reduceIte, wrap_succ (show k + 1 < 9223372036854775808 by omega)]; done)))
      · intro hc
        repeat (first | refine W.seq ?_ | refine W.block ?_ | refine W.skip ?_ | refine W.exit ?_ | refine W.region tab_ok 0 (by decide) (exec_run (by simp only [exa, beq_self_eq_true, ByteArray.size, Nat.reduceAdd, Nat.reduceLeDiff, Nat.reduceEqDiff, Nat.reduceMul, Int.reduceToNat, reduceIte, Int.reduceLE, Int.reduceNeg]; rfl)) ?_)
        refine W.loop (ι := Nat) (fun a => ⟨upd (upd (upd (upd (upd (upd (fun _ => .top) 3 (.c (.sl (cBs out)))) 7 (.c (.sl (cBs l)))) 8 (.c (.int .i64 l.length))) 9 (.c (.int .i64 k))) 5 (.c (.str ⟨x.toArray⟩))) 6 (.c (.int .i64 a)), Mem.nil⟩)
          (fun a => a ≤ out.length ∧ ∀ j y, j < a → out[j]? = some y → y < x) (fun a => out.length - a) 0 ?start2 ⟨Nat.zero_le _, fun j y h => by omega⟩ ?round2
        case start2 =>
          refine le_mk ?sle ?mle ?swf ?mwf ?kept (by rfl)
          case kept => exact kept_not hkeep
          case swf => repeat (first | exact swf_top _ | refine swf_upd ?_ (by simp [A.ids, upd_app]))
          case mwf => repeat (first | exact mwf_nil _ | refine mwf_upd ?_ (by simp [A.ids, O.ids, upd_app]))
          case mle => repeat (first | exact mle_nil _ | exact mle_refl _ | refine mle_upd ?_ (by first | rfl | (simp only [upd_app, killM_app, Nat.reduceEqDiff, reduceIte]; done)))
          case sle => repeat (first | exact sle_top _ | exact sle_refl _ | refine sle_upd ?_ (by first | rfl | (simp only [upd_app, entry_zero, entry_succ, Nat.reduceEqDiff, reduceIte]; done)))
        case round2 =>
          rintro a ⟨ha, hpre⟩
          by_cases hal : a < out.length
          · obtain ⟨y, hy⟩ : ∃ y, out[a]? = some y := ⟨_, List.getElem?_eq_getElem hal⟩
            have hd : decide ((a : Int) < (out.length : Int)) = true := by simp; omega
            repeat (first | refine W.seq ?_ | refine W.block ?_ | refine W.skip ?_ | refine W.exit ?_ | refine W.region tab_ok 0 (by decide) (exec_run (by simp only [exa, beq_self_eq_true, ByteArray.size, Nat.reduceAdd, Nat.reduceLeDiff, Nat.reduceEqDiff, Nat.reduceMul, Int.reduceToNat, reduceIte, Int.reduceLE, Int.reduceNeg, List.length_map, hd, hal, at_map hy, cB, lss_nm, bs_mk]; rfl)) ?_)
            refine W.cond rfl ?_ ?_
            · intro hyx
              simp only [decide_eq_true_eq] at hyx
              repeat (first | refine W.seq ?_ | refine W.block ?_ | refine W.skip ?_ | refine W.exit ?_ | refine W.region tab_ok 0 (by decide) (exec_run (by simp only [exa, beq_self_eq_true, ByteArray.size, Nat.reduceAdd, Nat.reduceLeDiff, Nat.reduceEqDiff, Nat.reduceMul, Int.reduceToNat, reduceIte, Int.reduceLE, Int.reduceNeg]; rfl)) ?_)
              refine ⟨a + 1, ⟨hal, fun j z hj hz => ?_⟩, by omega, ?_⟩
              · rcases Nat.lt_succ_iff_lt_or_eq.1 hj with h | rfl
                · exact hpre j z h hz
                · rw [hy] at hz; cases hz; exact hyx
              refine le_mk ?sle ?mle ?swf ?mwf ?kept (by rfl)
              case kept => exact kept_not hkeep
              case swf => repeat (first | exact swf_top _ | refine swf_upd ?_ (by simp [A.ids, upd_app]))
              case mwf => repeat (first | exact mwf_nil _ | refine mwf_upd ?_ (by simp [A.ids, O.ids, upd_app]))
              case mle => repeat (first | exact mle_nil _ | exact mle_refl _ | refine mle_upd ?_ (by first | rfl | (simp only [upd_app, killM_app, Nat.reduceEqDiff, reduceIte, wrap_succ (show a + 1 < 9223372036854775808 by omega)]; done)))
              case sle => repeat (first | exact sle_top _ | exact sle_refl _ | refine sle_upd ?_ (by first | rfl | (simp only [upd_app, entry_zero, entry_succ, Nat.reduceEqDiff, reduceIte, wrap_succ (show a + 1 < 9223372036854775808 by omega)]; done)))
            · intro hyx
              simp only [decide_eq_false_iff_not] at hyx
              have hins : insN x out = out.take a ++ [x] ++ out.drop a := insN_at a hc ha hpre (fun z hz => by rw [hy] at hz; cases hz; exact hyx)
              have hcs : (cBs out).take a ++ [[C.str ⟨x.toArray⟩]] ++ (cBs out).drop a = cBs (insN x out) := by rw [hins]; simp only [List.map_append, List.map_take, List.map_drop, List.map_cons, List.map_nil, cB]
              have hrow : ((cBs out).take a ++ [[C.str ⟨x.toArray⟩]]) ++ ((cBs out).take out.length).drop a = cBs (insN x out) := by
                rw [show (cBs out).take out.length = cBs out from List.take_of_length_le (by simp)]; exact hcs
              have ha1 : (∀ z, z ∈ cBs out → z.length = 1) = True := eq_true fun z hz => by obtain ⟨y, -, rfl⟩ := List.mem_map.1 hz; rfl
              repeat (first | refine W.seq ?_ | refine W.block ?_ | refine W.skip ?_ | refine W.exit ?_ | refine W.region tab_ok 0 (by decide) (exec_run (by simp only [exa, beq_self_eq_true, ByteArray.size, Nat.reduceAdd, Nat.reduceLeDiff, Nat.reduceEqDiff, Nat.reduceMul, Int.reduceToNat, reduceIte, Int.reduceLE, Int.reduceNeg]; rfl)) ?_)
              refine W.mono (K := fun e st' => e = .normal ∧ Le R.keep st' ⟨upd (upd (upd (upd (fun _ => .top) 3 (.own 60)) 7 (.c (.sl (cBs l)))) 8 (.c (.int .i64 l.length))) 9 (.c (.int .i64 k)), upd Mem.nil 60 (some (.arr 9 1 (cBs (insN x out))))⟩) ?reg ?aft
              case reg =>
                (repeat (first | refine W.seq ?_ | refine W.block ?_))
                refine W.regionX tab_ok follows_mixed ⟨upd (upd (upd (upd (fun _ => .top) 3 (.own 60)) 7 (.c (.sl (cBs l)))) 8 (.c (.int .i64 l.length))) 9 (.c (.int .i64 k)), upd Mem.nil 60 (some (.arr 9 1 (cBs (insN x out))))⟩ ?_ (fun st' h => ⟨rfl, h⟩)
                refine rx_move (base := 0) tab_ok (by decide) (by decide +kernel) 0 rfl rfl rfl (by decide +kernel) (by decide +kernel) ⟨_, by simp only [exec1, exa, beq_self_eq_true, ByteArray.size, Nat.reduceAdd, Nat.reduceLeDiff, Nat.reduceEqDiff, Nat.reduceMul, Int.reduceToNat, reduceIte, Int.reduceLE, Int.reduceNeg]; rfl, ?_⟩
                refine rx_move (base := 0) tab_ok (by decide) (by decide +kernel) 1 rfl rfl rfl (by decide +kernel) (by decide +kernel) ⟨_, by simp only [exec1, exa, beq_self_eq_true, ByteArray.size, Nat.reduceAdd, Nat.reduceLeDiff, Nat.reduceEqDiff, Nat.reduceMul, Int.reduceToNat, reduceIte, Int.reduceLE, Int.reduceNeg]; rfl, ?_⟩
                refine rx_move (base := 0) tab_ok (by decide) (by decide +kernel) 4 rfl rfl rfl (by decide +kernel) (by decide +kernel) ⟨_, by simp only [exec1, exa, beq_self_eq_true, ByteArray.size, Nat.reduceAdd, Nat.reduceLeDiff, Nat.reduceEqDiff, Nat.reduceMul, Int.reduceToNat, reduceIte, Int.reduceLE, Int.reduceNeg]; rfl, ?_⟩
                refine rx_move (base := 0) tab_ok (by decide) (by decide +kernel) 7 rfl rfl rfl (by decide +kernel) (by decide +kernel) ⟨_, by simp only [exec1, exa, beq_self_eq_true, ByteArray.size, Nat.reduceAdd, Nat.reduceLeDiff, Nat.reduceEqDiff, Nat.reduceMul, Int.reduceToNat, reduceIte, Int.reduceLE, Int.reduceNeg]; rfl, ?_⟩
                refine rx_move (base := 0) tab_ok (by decide) (by decide +kernel) 8 rfl rfl rfl (by decide +kernel) (by decide +kernel) ⟨_, by simp only [exec1, exa, beq_self_eq_true, ByteArray.size, Nat.reduceAdd, Nat.reduceLeDiff, Nat.reduceEqDiff, Nat.reduceMul, Int.reduceToNat, reduceIte, Int.reduceLE, Int.reduceNeg]; rfl, ?_⟩
                refine rx_runs (base := 0) tab_ok (by decide) ?_
                refine first_exec 2 (by decide +kernel) ⟨_, by simp only [exec1, exa, beq_self_eq_true, ByteArray.size, Nat.reduceAdd, Nat.reduceLeDiff, Nat.reduceEqDiff, Nat.reduceMul, Int.reduceToNat, reduceIte, Int.reduceLE, Int.reduceNeg, List.length_map, ha, ha1, true_or, and_self, reduceIte]; rfl, ?_⟩
                refine runs_node [3, 5, 9] (by decide +kernel) (by decide) ?_
                refine step_appendNil tab_ok rfl 60 true rfl rfl rfl rfl rfl rfl (by simp only [exa, beq_self_eq_true, ByteArray.size, Nat.reduceAdd, Nat.reduceLeDiff, Nat.reduceEqDiff, Nat.reduceMul, Int.reduceToNat, reduceIte, Int.reduceLE, Int.reduceNeg]; done) (by simp only [exa, beq_self_eq_true, ByteArray.size, Nat.reduceAdd, Nat.reduceLeDiff, Nat.reduceEqDiff, Nat.reduceMul, Int.reduceToNat, reduceIte, Int.reduceLE, Int.reduceNeg]; done) (by simp only [exa, beq_self_eq_true, ByteArray.size, Nat.reduceAdd, Nat.reduceLeDiff, Nat.reduceEqDiff, Nat.reduceMul, Int.reduceToNat, reduceIte, Int.reduceLE, Int.reduceNeg]; rfl) rfl rfl rfl rfl (by intro z hz; obtain ⟨y, -, rfl⟩ := List.mem_map.1 (List.mem_of_mem_take hz); rfl) (by simp only [List.length_take, List.length_drop, List.length_map]; omega) (by decide) ?_ ?_
                refine first_exec 5 (by decide +kernel) ⟨_, by simp only [exec1, exa, beq_self_eq_true, ByteArray.size, Nat.reduceAdd, Nat.reduceLeDiff, Nat.reduceEqDiff, Nat.reduceMul, Int.reduceToNat, reduceIte, Int.reduceLE, Int.reduceNeg]; rfl, ?_⟩
                refine runs_node [6, 9] (by decide +kernel) (by decide) ?_
                refine step_append tab_ok rfl 60 true rfl rfl rfl rfl rfl rfl (by simp only [exa, beq_self_eq_true, ByteArray.size, Nat.reduceAdd, Nat.reduceLeDiff, Nat.reduceEqDiff, Nat.reduceMul, Int.reduceToNat, reduceIte, Int.reduceLE, Int.reduceNeg]; done) (by simp only [exa, beq_self_eq_true, ByteArray.size, Nat.reduceAdd, Nat.reduceLeDiff, Nat.reduceEqDiff, Nat.reduceMul, Int.reduceToNat, reduceIte, Int.reduceLE, Int.reduceNeg]; rfl) (by simp only [exa, beq_self_eq_true, ByteArray.size, Nat.reduceAdd, Nat.reduceLeDiff, Nat.reduceEqDiff, Nat.reduceMul, Int.reduceToNat, reduceIte, Int.reduceLE, Int.reduceNeg]; rfl) rfl rfl rfl rfl (nokeep hkeep) (by simp) (by simp only [List.length_take, List.length_drop, List.length_map, List.length_cons, List.length_nil]; omega) (by decide) ?_ ?_
                refine first_exec 9 (by decide +kernel) ⟨_, by simp only [exec1, exa, beq_self_eq_true, ByteArray.size, Nat.reduceAdd, Nat.reduceLeDiff, Nat.reduceEqDiff, Nat.reduceMul, Int.reduceToNat, reduceIte, Int.reduceLE, Int.reduceNeg, List.length_map, ha, ha1, or_true, Nat.le_refl, and_self, reduceIte]; rfl, ?_⟩
                refine runs_node [10] (by decide +kernel) (by decide) ?_
                refine step_append tab_ok rfl 60 true rfl rfl rfl rfl rfl rfl (by simp only [exa, beq_self_eq_true, ByteArray.size, Nat.reduceAdd, Nat.reduceLeDiff, Nat.reduceEqDiff, Nat.reduceMul, Int.reduceToNat, reduceIte, Int.reduceLE, Int.reduceNeg]; done) (by simp only [exa, beq_self_eq_true, ByteArray.size, Nat.reduceAdd, Nat.reduceLeDiff, Nat.reduceEqDiff, Nat.reduceMul, Int.reduceToNat, reduceIte, Int.reduceLE, Int.reduceNeg]; rfl) (by simp only [exa, beq_self_eq_true, ByteArray.size, Nat.reduceAdd, Nat.reduceLeDiff, Nat.reduceEqDiff, Nat.reduceMul, Int.reduceToNat, reduceIte, Int.reduceLE, Int.reduceNeg]; rfl) rfl rfl rfl rfl (nokeep hkeep) (by intro z hz; obtain ⟨y, -, rfl⟩ := List.mem_map.1 (List.mem_of_mem_take (List.mem_of_mem_drop hz)); rfl) (by simp only [List.length_take, List.length_drop, List.length_append, List.length_map, List.length_cons, List.length_nil]; omega) (by decide) ?_ ?_
                refine first_exec 11 (by decide +kernel) ⟨_, by simp only [exec1, exa, beq_self_eq_true, ByteArray.size, Nat.reduceAdd, Nat.reduceLeDiff, Nat.reduceEqDiff, Nat.reduceMul, Int.reduceToNat, reduceIte, Int.reduceLE, Int.reduceNeg]; rfl, ?_⟩
                refine runsw_end (by decide +kernel) ?_
                simp only [List.drop_zero, List.length_map, take_len, rowO, hrow]
                (refine le_mk ?sle ?mle ?swf ?mwf ?kept (by rfl)
                 case kept => exact kept_not hkeep
                 case swf => repeat (first | exact swf_top _ | refine swf_upd ?_ (by simp [A.ids, upd_app]))
                 case mwf => repeat (first | exact mwf_nil _ | refine mwf_upd ?_ (by simp [A.ids, O.ids, upd_app]))
                 case sle => repeat (first | exact sle_top _ | exact sle_refl _ | refine sle_upd ?_ (by first | rfl | (simp only [upd_app, killS_app, A.kill, entry_zero, entry_succ, Nat.reduceEqDiff, reduceIte] <;> rfl)))
                 case mle => repeat (first | exact mle_nil _ | exact mle_refl _ | refine mle_upd ?_ (by first | rfl | (simp only [upd_app, killM_app, O.kill, A.kill, Option.map_some, Option.map_none, List.map_cons, List.map_nil, Nat.reduceEqDiff, reduceIte] <;> rfl))))
                exact trivial
                refine step_exec ⟨_, by simp only [exec1, exa, beq_self_eq_true, ByteArray.size, Nat.reduceAdd, Nat.reduceLeDiff, Nat.reduceEqDiff, Nat.reduceMul, Int.reduceToNat, reduceIte, Int.reduceLE, Int.reduceNeg, List.length_map, ha, ha1, or_true, Nat.le_refl, and_self, reduceIte]; rfl, ?_⟩ ?_
                refine runs_node [6] (by decide +kernel) (by decide) ?_
                refine step_append tab_ok rfl 60 true rfl rfl rfl rfl rfl rfl (by simp only [exa, beq_self_eq_true, ByteArray.size, Nat.reduceAdd, Nat.reduceLeDiff, Nat.reduceEqDiff, Nat.reduceMul, Int.reduceToNat, reduceIte, Int.reduceLE, Int.reduceNeg]; done) (by simp only [exa, beq_self_eq_true, ByteArray.size, Nat.reduceAdd, Nat.reduceLeDiff, Nat.reduceEqDiff, Nat.reduceMul, Int.reduceToNat, reduceIte, Int.reduceLE, Int.reduceNeg]; rfl) (by simp only [exa, beq_self_eq_true, ByteArray.size, Nat.reduceAdd, Nat.reduceLeDiff, Nat.reduceEqDiff, Nat.reduceMul, Int.reduceToNat, reduceIte, Int.reduceLE, Int.reduceNeg]; rfl) rfl rfl rfl rfl (nokeep hkeep) (by simp) (by simp only [List.length_take, List.length_drop, List.length_map, List.length_cons, List.length_nil]; omega) (by decide) ?_ ?_
                refine runs_node [10] (by decide +kernel) (by decide) ?_
                refine step_append tab_ok rfl 60 true rfl rfl rfl rfl rfl rfl (by simp only [exa, beq_self_eq_true, ByteArray.size, Nat.reduceAdd, Nat.reduceLeDiff, Nat.reduceEqDiff, Nat.reduceMul, Int.reduceToNat, reduceIte, Int.reduceLE, Int.reduceNeg]; done) (by simp only [exa, beq_self_eq_true, ByteArray.size, Nat.reduceAdd, Nat.reduceLeDiff, Nat.reduceEqDiff, Nat.reduceMul, Int.reduceToNat, reduceIte, Int.reduceLE, Int.reduceNeg]; rfl) (by simp only [exa, beq_self_eq_true, ByteArray.size, Nat.reduceAdd, Nat.reduceLeDiff, Nat.reduceEqDiff, Nat.reduceMul, Int.reduceToNat, reduceIte, Int.reduceLE, Int.reduceNeg]; rfl) rfl rfl rfl rfl (nokeep hkeep) (by intro z hz; obtain ⟨y, -, rfl⟩ := List.mem_map.1 (List.mem_of_mem_take (List.mem_of_mem_drop hz)); rfl) (by simp only [List.length_take, List.length_drop, List.length_append, List.length_map, List.length_cons, List.length_nil]; omega) (by decide) ?_ ?_
                refine first_exec 11 (by decide +kernel) ⟨_, by simp only [exec1, exa, beq_self_eq_true, ByteArray.size, Nat.reduceAdd, Nat.reduceLeDiff, Nat.reduceEqDiff, Nat.reduceMul, Int.reduceToNat, reduceIte, Int.reduceLE, Int.reduceNeg]; rfl, ?_⟩
                refine runsw_end (by decide +kernel) ?_
                simp only [List.drop_zero, List.length_map, take_len, rowO, hrow]
                (refine le_mk ?sle ?mle ?swf ?mwf ?kept (by rfl)
                 case kept => exact kept_not hkeep
                 case swf => repeat (first | exact swf_top _ | refine swf_upd ?_ (by simp [A.ids, upd_app]))
                 case mwf => repeat (first | exact mwf_nil _ | refine mwf_upd ?_ (by simp [A.ids, O.ids, upd_app]))
                 case sle => repeat (first | exact sle_top _ | exact sle_refl _ | refine sle_upd ?_ (by first | rfl | (simp only [upd_app, killS_app, A.kill, entry_zero, entry_succ, Nat.reduceEqDiff, reduceIte] <;> rfl)))
                 case mle => repeat (first | exact mle_nil _ | exact mle_refl _ | refine mle_upd ?_ (by first | rfl | (simp only [upd_app, killM_app, O.kill, A.kill, Option.map_some, Option.map_none, List.map_cons, List.map_nil, Nat.reduceEqDiff, reduceIte] <;> rfl))))
                exact trivial
                exact trivial
                exact trivial
                refine step_exec ⟨_, by simp only [exec1, exa, beq_self_eq_true, ByteArray.size, Nat.reduceAdd, Nat.reduceLeDiff, Nat.reduceEqDiff, Nat.reduceMul, Int.reduceToNat, reduceIte, Int.reduceLE, Int.reduceNeg]; rfl, ?_⟩ ?_
                refine runs_node [3, 9] (by decide +kernel) (by decide) ?_
                refine step_appendNil tab_ok rfl 60 true rfl rfl rfl rfl rfl rfl (by simp only [exa, beq_self_eq_true, ByteArray.size, Nat.reduceAdd, Nat.reduceLeDiff, Nat.reduceEqDiff, Nat.reduceMul, Int.reduceToNat, reduceIte, Int.reduceLE, Int.reduceNeg]; done) (by simp only [exa, beq_self_eq_true, ByteArray.size, Nat.reduceAdd, Nat.reduceLeDiff, Nat.reduceEqDiff, Nat.reduceMul, Int.reduceToNat, reduceIte, Int.reduceLE, Int.reduceNeg]; done) (by simp only [exa, beq_self_eq_true, ByteArray.size, Nat.reduceAdd, Nat.reduceLeDiff, Nat.reduceEqDiff, Nat.reduceMul, Int.reduceToNat, reduceIte, Int.reduceLE, Int.reduceNeg]; rfl) rfl rfl rfl rfl (by intro z hz; obtain ⟨y, -, rfl⟩ := List.mem_map.1 (List.mem_of_mem_take hz); rfl) (by simp only [List.length_take, List.length_drop, List.length_map]; omega) (by decide) ?_ ?_
                refine runs_node [6, 9] (by decide +kernel) (by decide) ?_
                refine step_append tab_ok rfl 60 true rfl rfl rfl rfl rfl rfl (by simp only [exa, beq_self_eq_true, ByteArray.size, Nat.reduceAdd, Nat.reduceLeDiff, Nat.reduceEqDiff, Nat.reduceMul, Int.reduceToNat, reduceIte, Int.reduceLE, Int.reduceNeg]; done) (by simp only [exa, beq_self_eq_true, ByteArray.size, Nat.reduceAdd, Nat.reduceLeDiff, Nat.reduceEqDiff, Nat.reduceMul, Int.reduceToNat, reduceIte, Int.reduceLE, Int.reduceNeg]; rfl) (by simp only [exa, beq_self_eq_true, ByteArray.size, Nat.reduceAdd, Nat.reduceLeDiff, Nat.reduceEqDiff, Nat.reduceMul, Int.reduceToNat, reduceIte, Int.reduceLE, Int.reduceNeg]; rfl) rfl rfl rfl rfl (nokeep hkeep) (by simp) (by simp only [List.length_take, List.length_drop, List.length_map, List.length_cons, List.length_nil]; omega) (by decide) ?_ ?_
                refine first_exec 9 (by decide +kernel) ⟨_, by simp only [exec1, exa, beq_self_eq_true, ByteArray.size, Nat.reduceAdd, Nat.reduceLeDiff, Nat.reduceEqDiff, Nat.reduceMul, Int.reduceToNat, reduceIte, Int.reduceLE, Int.reduceNeg, List.length_map, ha, ha1, or_true, Nat.le_refl, and_self, reduceIte]; rfl, ?_⟩
                refine runs_node [10] (by decide +kernel) (by decide) ?_
                refine step_append tab_ok rfl 60 true rfl rfl rfl rfl rfl rfl (by simp only [exa, beq_self_eq_true, ByteArray.size, Nat.reduceAdd, Nat.reduceLeDiff, Nat.reduceEqDiff, Nat.reduceMul, Int.reduceToNat, reduceIte, Int.reduceLE, Int.reduceNeg]; done) (by simp only [exa, beq_self_eq_true, ByteArray.size, Nat.reduceAdd, Nat.reduceLeDiff, Nat.reduceEqDiff, Nat.reduceMul, Int.reduceToNat, reduceIte, Int.reduceLE, Int.reduceNeg]; rfl) (by simp only [exa, beq_self_eq_true, ByteArray.size, Nat.reduceAdd, Nat.reduceLeDiff, Nat.reduceEqDiff, Nat.reduceMul, Int.reduceToNat, reduceIte, Int.reduceLE, Int.reduceNeg]; rfl) rfl rfl rfl rfl (nokeep hkeep) (by intro z hz; obtain ⟨y, -, rfl⟩ := List.mem_map.1 (List.mem_of_mem_take (List.mem_of_mem_drop hz)); rfl) (by simp only [List.length_take, List.length_drop, List.length_append, List.length_map, List.length_cons, List.length_nil]; omega) (by decide) ?_ ?_
                refine first_exec 11 (by decide +kernel) ⟨_, by simp only [exec1, exa, beq_self_eq_true, ByteArray.size, Nat.reduceAdd, Nat.reduceLeDiff, Nat.reduceEqDiff, Nat.reduceMul, Int.reduceToNat, reduceIte, Int.reduceLE, Int.reduceNeg]; rfl, ?_⟩
                refine runsw_end (by decide +kernel) ?_
                simp only [List.drop_zero, List.length_map, take_len, rowO, hrow]
                (refine le_mk ?sle ?mle ?swf ?mwf ?kept (by rfl)
                 case kept => exact kept_not hkeep
                 case swf => repeat (first | exact swf_top _ | refine swf_upd ?_ (by simp [A.ids, upd_app]))
                 case mwf => repeat (first | exact mwf_nil _ | refine mwf_upd ?_ (by simp [A.ids, O.ids, upd_app]))
                 case sle => repeat (first | exact sle_top _ | exact sle_refl _ | refine sle_upd ?_ (by first | rfl | (simp only [upd_app, killS_app, A.kill, entry_zero, entry_succ, Nat.reduceEqDiff, reduceIte] <;> rfl)))
                 case mle => repeat (first | exact mle_nil _ | exact mle_refl _ | refine mle_upd ?_ (by first | rfl | (simp only [upd_app, killM_app, O.kill, A.kill, Option.map_some, Option.map_none, List.map_cons, List.map_nil, Nat.reduceEqDiff, reduceIte] <;> rfl))))
                exact trivial
                refine step_exec ⟨_, by simp only [exec1, exa, beq_self_eq_true, ByteArray.size, Nat.reduceAdd, Nat.reduceLeDiff, Nat.reduceEqDiff, Nat.reduceMul, Int.reduceToNat, reduceIte, Int.reduceLE, Int.reduceNeg, List.length_map, ha, ha1, or_true, Nat.le_refl, and_self, reduceIte]; rfl, ?_⟩ ?_
                refine runs_node [6] (by decide +kernel) (by decide) ?_
                refine step_append tab_ok rfl 60 true rfl rfl rfl rfl rfl rfl (by simp only [exa, beq_self_eq_true, ByteArray.size, Nat.reduceAdd, Nat.reduceLeDiff, Nat.reduceEqDiff, Nat.reduceMul, Int.reduceToNat, reduceIte, Int.reduceLE, Int.reduceNeg]; done) (by simp only [exa, beq_self_eq_true, ByteArray.size, Nat.reduceAdd, Nat.reduceLeDiff, Nat.reduceEqDiff, Nat.reduceMul, Int.reduceToNat, reduceIte, Int.reduceLE, Int.reduceNeg]; rfl) (by simp only [exa, beq_self_eq_true, ByteArray.size, Nat.reduceAdd, Nat.reduceLeDiff, Nat.reduceEqDiff, Nat.reduceMul, Int.reduceToNat, reduceIte, Int.reduceLE, Int.reduceNeg]; rfl) rfl rfl rfl rfl (nokeep hkeep) (by simp) (by simp only [List.length_take, List.length_drop, List.length_map, List.length_cons, List.length_nil]; omega) (by decide) ?_ ?_
                refine runs_node [10] (by decide +kernel) (by decide) ?_
                refine step_append tab_ok rfl 60 true rfl rfl rfl rfl rfl rfl (by simp only [exa, beq_self_eq_true, ByteArray.size, Nat.reduceAdd, Nat.reduceLeDiff, Nat.reduceEqDiff, Nat.reduceMul, Int.reduceToNat, reduceIte, Int.reduceLE, Int.reduceNeg]; done) (by simp only [exa, beq_self_eq_true, ByteArray.size, Nat.reduceAdd, Nat.reduceLeDiff, Nat.reduceEqDiff, Nat.reduceMul, Int.reduceToNat, reduceIte, Int.reduceLE, Int.reduceNeg]; rfl) (by simp only [exa, beq_self_eq_true, ByteArray.size, Nat.reduceAdd, Nat.reduceLeDiff, Nat.reduceEqDiff, Nat.reduceMul, Int.reduceToNat, reduceIte, Int.reduceLE, Int.reduceNeg]; rfl) rfl rfl rfl rfl (nokeep hkeep) (by intro z hz; obtain ⟨y, -, rfl⟩ := List.mem_map.1 (List.mem_of_mem_take (List.mem_of_mem_drop hz)); rfl) (by simp only [List.length_take, List.length_drop, List.length_append, List.length_map, List.length_cons, List.length_nil]; omega) (by decide) ?_ ?_
                refine first_exec 11 (by decide +kernel) ⟨_, by simp only [exec1, exa, beq_self_eq_true, ByteArray.size, Nat.reduceAdd, Nat.reduceLeDiff, Nat.reduceEqDiff, Nat.reduceMul, Int.reduceToNat, reduceIte, Int.reduceLE, Int.reduceNeg]; rfl, ?_⟩
                refine runsw_end (by decide +kernel) ?_
                simp only [List.drop_zero, List.length_map, take_len, rowO, hrow]
                (refine le_mk ?sle ?mle ?swf ?mwf ?kept (by rfl)
                 case kept => exact kept_not hkeep
                 case swf => repeat (first | exact swf_top _ | refine swf_upd ?_ (by simp [A.ids, upd_app]))
                 case mwf => repeat (first | exact mwf_nil _ | refine mwf_upd ?_ (by simp [A.ids, O.ids, upd_app]))
                 case sle => repeat (first | exact sle_top _ | exact sle_refl _ | refine sle_upd ?_ (by first | rfl | (simp only [upd_app, killS_app, A.kill, entry_zero, entry_succ, Nat.reduceEqDiff, reduceIte] <;> rfl)))
                 case mle => repeat (first | exact mle_nil _ | exact mle_refl _ | refine mle_upd ?_ (by first | rfl | (simp only [upd_app, killM_app, O.kill, A.kill, Option.map_some, Option.map_none, List.map_cons, List.map_nil, Nat.reduceEqDiff, reduceIte] <;> rfl))))
                exact trivial
                exact trivial
                exact trivial
                refine step_exec ⟨_, by simp only [exec1, exa, beq_self_eq_true, ByteArray.size, Nat.reduceAdd, Nat.reduceLeDiff, Nat.reduceEqDiff, Nat.reduceMul, Int.reduceToNat, reduceIte, Int.reduceLE, Int.reduceNeg, List.length_map, ha, ha1, or_true, Nat.le_refl, and_self, reduceIte]; rfl, ?_⟩ ?_
                refine runs_node [3] (by decide +kernel) (by decide) ?_
                refine step_appendNil tab_ok rfl 60 true rfl rfl rfl rfl rfl rfl (by simp only [exa, beq_self_eq_true, ByteArray.size, Nat.reduceAdd, Nat.reduceLeDiff, Nat.reduceEqDiff, Nat.reduceMul, Int.reduceToNat, reduceIte, Int.reduceLE, Int.reduceNeg]; done) (by simp only [exa, beq_self_eq_true, ByteArray.size, Nat.reduceAdd, Nat.reduceLeDiff, Nat.reduceEqDiff, Nat.reduceMul, Int.reduceToNat, reduceIte, Int.reduceLE, Int.reduceNeg]; done) (by simp only [exa, beq_self_eq_true, ByteArray.size, Nat.reduceAdd, Nat.reduceLeDiff, Nat.reduceEqDiff, Nat.reduceMul, Int.reduceToNat, reduceIte, Int.reduceLE, Int.reduceNeg]; rfl) rfl rfl rfl rfl (by intro z hz; obtain ⟨y, -, rfl⟩ := List.mem_map.1 (List.mem_of_mem_take hz); rfl) (by simp only [List.length_take, List.length_drop, List.length_map]; omega) (by decide) ?_ ?_
                refine runs_node [6] (by decide +kernel) (by decide) ?_
                refine step_append tab_ok rfl 60 true rfl rfl rfl rfl rfl rfl (by simp only [exa, beq_self_eq_true, ByteArray.size, Nat.reduceAdd, Nat.reduceLeDiff, Nat.reduceEqDiff, Nat.reduceMul, Int.reduceToNat, reduceIte, Int.reduceLE, Int.reduceNeg]; done) (by simp only [exa, beq_self_eq_true, ByteArray.size, Nat.reduceAdd, Nat.reduceLeDiff, Nat.reduceEqDiff, Nat.reduceMul, Int.reduceToNat, reduceIte, Int.reduceLE, Int.reduceNeg]; rfl) (by simp only [exa, beq_self_eq_true, ByteArray.size, Nat.reduceAdd, Nat.reduceLeDiff, Nat.reduceEqDiff, Nat.reduceMul, Int.reduceToNat, reduceIte, Int.reduceLE, Int.reduceNeg]; rfl) rfl rfl rfl rfl (nokeep hkeep) (by simp) (by simp only [List.length_take, List.length_drop, List.length_map, List.length_cons, List.length_nil]; omega) (by decide) ?_ ?_
                refine runs_node [10] (by decide +kernel) (by decide) ?_
                refine step_append tab_ok rfl 60 true rfl rfl rfl rfl rfl rfl (by simp only [exa, beq_self_eq_true, ByteArray.size, Nat.reduceAdd, Nat.reduceLeDiff, Nat.reduceEqDiff, Nat.reduceMul, Int.reduceToNat, reduceIte, Int.reduceLE, Int.reduceNeg]; done) (by simp only [exa, beq_self_eq_true, ByteArray.size, Nat.reduceAdd, Nat.reduceLeDiff, Nat.reduceEqDiff, Nat.reduceMul, Int.reduceToNat, reduceIte, Int.reduceLE, Int.reduceNeg]; rfl) (by simp only [exa, beq_self_eq_true, ByteArray.size, Nat.reduceAdd, Nat.reduceLeDiff, Nat.reduceEqDiff, Nat.reduceMul, Int.reduceToNat, reduceIte, Int.reduceLE, Int.reduceNeg]; rfl) rfl rfl rfl rfl (nokeep hkeep) (by intro z hz; obtain ⟨y, -, rfl⟩ := List.mem_map.1 (List.mem_of_mem_take (List.mem_of_mem_drop hz)); rfl) (by simp only [List.length_take, List.length_drop, List.length_append, List.length_map, List.length_cons, List.length_nil]; omega) (by decide) ?_ ?_
                refine first_exec 11 (by decide +kernel) ⟨_, by simp only [exec1, exa, beq_self_eq_true, ByteArray.size, Nat.reduceAdd, Nat.reduceLeDiff, Nat.reduceEqDiff, Nat.reduceMul, Int.reduceToNat, reduceIte, Int.reduceLE, Int.reduceNeg]; rfl, ?_⟩
                refine runsw_end (by decide +kernel) ?_
                simp only [List.drop_zero, List.length_map, take_len, rowO, hrow]
                (refine le_mk ?sle ?mle ?swf ?mwf ?kept (by rfl)
                 case kept => exact kept_not hkeep
                 case swf => repeat (first | exact swf_top _ | refine swf_upd ?_ (by simp [A.ids, upd_app]))
                 case mwf => repeat (first | exact mwf_nil _ | refine mwf_upd ?_ (by simp [A.ids, O.ids, upd_app]))
                 case sle => repeat (first | exact sle_top _ | exact sle_refl _ | refine sle_upd ?_ (by first | rfl | (simp only [upd_app, killS_app, A.kill, entry_zero, entry_succ, Nat.reduceEqDiff, reduceIte] <;> rfl)))
                 case mle => repeat (first | exact mle_nil _ | exact mle_refl _ | refine mle_upd ?_ (by first | rfl | (simp only [upd_app, killM_app, O.kill, A.kill, Option.map_some, Option.map_none, List.map_cons, List.map_nil, Nat.reduceEqDiff, reduceIte] <;> rfl))))
                exact trivial
                exact trivial
                exact trivial
                exact trivial
                refine step_exec ⟨_, by simp only [exec1, exa, beq_self_eq_true, ByteArray.size, Nat.reduceAdd, Nat.reduceLeDiff, Nat.reduceEqDiff, Nat.reduceMul, Int.reduceToNat, reduceIte, Int.reduceLE, Int.reduceNeg, List.length_map, ha, ha1, or_true, Nat.le_refl, and_self, reduceIte]; rfl, ?_⟩ ?_
                refine runs_node [3, 5] (by decide +kernel) (by decide) ?_
                refine step_appendNil tab_ok rfl 60 true rfl rfl rfl rfl rfl rfl (by simp only [exa, beq_self_eq_true, ByteArray.size, Nat.reduceAdd, Nat.reduceLeDiff, Nat.reduceEqDiff, Nat.reduceMul, Int.reduceToNat, reduceIte, Int.reduceLE, Int.reduceNeg]; done) (by simp only [exa, beq_self_eq_true, ByteArray.size, Nat.reduceAdd, Nat.reduceLeDiff, Nat.reduceEqDiff, Nat.reduceMul, Int.reduceToNat, reduceIte, Int.reduceLE, Int.reduceNeg]; done) (by simp only [exa, beq_self_eq_true, ByteArray.size, Nat.reduceAdd, Nat.reduceLeDiff, Nat.reduceEqDiff, Nat.reduceMul, Int.reduceToNat, reduceIte, Int.reduceLE, Int.reduceNeg]; rfl) rfl rfl rfl rfl (by intro z hz; obtain ⟨y, -, rfl⟩ := List.mem_map.1 (List.mem_of_mem_take hz); rfl) (by simp only [List.length_take, List.length_drop, List.length_map]; omega) (by decide) ?_ ?_
                refine first_exec 5 (by decide +kernel) ⟨_, by simp only [exec1, exa, beq_self_eq_true, ByteArray.size, Nat.reduceAdd, Nat.reduceLeDiff, Nat.reduceEqDiff, Nat.reduceMul, Int.reduceToNat, reduceIte, Int.reduceLE, Int.reduceNeg]; rfl, ?_⟩
                refine runs_node [6] (by decide +kernel) (by decide) ?_
                refine step_append tab_ok rfl 60 true rfl rfl rfl rfl rfl rfl (by simp only [exa, beq_self_eq_true, ByteArray.size, Nat.reduceAdd, Nat.reduceLeDiff, Nat.reduceEqDiff, Nat.reduceMul, Int.reduceToNat, reduceIte, Int.reduceLE, Int.reduceNeg]; done) (by simp only [exa, beq_self_eq_true, ByteArray.size, Nat.reduceAdd, Nat.reduceLeDiff, Nat.reduceEqDiff, Nat.reduceMul, Int.reduceToNat, reduceIte, Int.reduceLE, Int.reduceNeg]; rfl) (by simp only [exa, beq_self_eq_true, ByteArray.size, Nat.reduceAdd, Nat.reduceLeDiff, Nat.reduceEqDiff, Nat.reduceMul, Int.reduceToNat, reduceIte, Int.reduceLE, Int.reduceNeg]; rfl) rfl rfl rfl rfl (nokeep hkeep) (by simp) (by simp only [List.length_take, List.length_drop, List.length_map, List.length_cons, List.length_nil]; omega) (by decide) ?_ ?_
                refine runs_node [10] (by decide +kernel) (by decide) ?_
                refine step_append tab_ok rfl 60 true rfl rfl rfl rfl rfl rfl (by simp only [exa, beq_self_eq_true, ByteArray.size, Nat.reduceAdd, Nat.reduceLeDiff, Nat.reduceEqDiff, Nat.reduceMul, Int.reduceToNat, reduceIte, Int.reduceLE, Int.reduceNeg]; done) (by simp only [exa, beq_self_eq_true, ByteArray.size, Nat.reduceAdd, Nat.reduceLeDiff, Nat.reduceEqDiff, Nat.reduceMul, Int.reduceToNat, reduceIte, Int.reduceLE, Int.reduceNeg]; rfl) (by simp only [exa, beq_self_eq_true, ByteArray.size, Nat.reduceAdd, Nat.reduceLeDiff, Nat.reduceEqDiff, Nat.reduceMul, Int.reduceToNat, reduceIte, Int.reduceLE, Int.reduceNeg]; rfl) rfl rfl rfl rfl (nokeep hkeep) (by intro z hz; obtain ⟨y, -, rfl⟩ := List.mem_map.1 (List.mem_of_mem_take (List.mem_of_mem_drop hz)); rfl) (by simp only [List.length_take, List.length_drop, List.length_append, List.length_map, List.length_cons, List.length_nil]; omega) (by decide) ?_ ?_
                refine first_exec 11 (by decide +kernel) ⟨_, by simp only [exec1, exa, beq_self_eq_true, ByteArray.size, Nat.reduceAdd, Nat.reduceLeDiff, Nat.reduceEqDiff, Nat.reduceMul, Int.reduceToNat, reduceIte, Int.reduceLE, Int.reduceNeg]; rfl, ?_⟩
                refine runsw_end (by decide +kernel) ?_
                simp only [List.drop_zero, List.length_map, take_len, rowO, hrow]
                (refine le_mk ?sle ?mle ?swf ?mwf ?kept (by rfl)
                 case kept => exact kept_not hkeep
                 case swf => repeat (first | exact swf_top _ | refine swf_upd ?_ (by simp [A.ids, upd_app]))
                 case mwf => repeat (first | exact mwf_nil _ | refine mwf_upd ?_ (by simp [A.ids, O.ids, upd_app]))
                 case sle => repeat (first | exact sle_top _ | exact sle_refl _ | refine sle_upd ?_ (by first | rfl | (simp only [upd_app, killS_app, A.kill, entry_zero, entry_succ, Nat.reduceEqDiff, reduceIte] <;> rfl)))
                 case mle => repeat (first | exact mle_nil _ | exact mle_refl _ | refine mle_upd ?_ (by first | rfl | (simp only [upd_app, killM_app, O.kill, A.kill, Option.map_some, Option.map_none, List.map_cons, List.map_nil, Nat.reduceEqDiff, reduceIte] <;> rfl))))
                exact trivial
                exact trivial
                refine step_exec ⟨_, by simp only [exec1, exa, beq_self_eq_true, ByteArray.size, Nat.reduceAdd, Nat.reduceLeDiff, Nat.reduceEqDiff, Nat.reduceMul, Int.reduceToNat, reduceIte, Int.reduceLE, Int.reduceNeg]; rfl, ?_⟩ ?_
                refine runs_node [3] (by decide +kernel) (by decide) ?_
                refine step_appendNil tab_ok rfl 60 true rfl rfl rfl rfl rfl rfl (by simp only [exa, beq_self_eq_true, ByteArray.size, Nat.reduceAdd, Nat.reduceLeDiff, Nat.reduceEqDiff, Nat.reduceMul, Int.reduceToNat, reduceIte, Int.reduceLE, Int.reduceNeg]; done) (by simp only [exa, beq_self_eq_true, ByteArray.size, Nat.reduceAdd, Nat.reduceLeDiff, Nat.reduceEqDiff, Nat.reduceMul, Int.reduceToNat, reduceIte, Int.reduceLE, Int.reduceNeg]; done) (by simp only [exa, beq_self_eq_true, ByteArray.size, Nat.reduceAdd, Nat.reduceLeDiff, Nat.reduceEqDiff, Nat.reduceMul, Int.reduceToNat, reduceIte, Int.reduceLE, Int.reduceNeg]; rfl) rfl rfl rfl rfl (by intro z hz; obtain ⟨y, -, rfl⟩ := List.mem_map.1 (List.mem_of_mem_take hz); rfl) (by simp only [List.length_take, List.length_drop, List.length_map]; omega) (by decide) ?_ ?_
                refine runs_node [6] (by decide +kernel) (by decide) ?_
                refine step_append tab_ok rfl 60 true rfl rfl rfl rfl rfl rfl (by simp only [exa, beq_self_eq_true, ByteArray.size, Nat.reduceAdd, Nat.reduceLeDiff, Nat.reduceEqDiff, Nat.reduceMul, Int.reduceToNat, reduceIte, Int.reduceLE, Int.reduceNeg]; done) (by simp only [exa, beq_self_eq_true, ByteArray.size, Nat.reduceAdd, Nat.reduceLeDiff, Nat.reduceEqDiff, Nat.reduceMul, Int.reduceToNat, reduceIte, Int.reduceLE, Int.reduceNeg]; rfl) (by simp only [exa, beq_self_eq_true, ByteArray.size, Nat.reduceAdd, Nat.reduceLeDiff, Nat.reduceEqDiff, Nat.reduceMul, Int.reduceToNat, reduceIte, Int.reduceLE, Int.reduceNeg]; rfl) rfl rfl rfl rfl (nokeep hkeep) (by simp) (by simp only [List.length_take, List.length_drop, List.length_map, List.length_cons, List.length_nil]; omega) (by decide) ?_ ?_
                refine runs_node [10] (by decide +kernel) (by decide) ?_
                refine step_append tab_ok rfl 60 true rfl rfl rfl rfl rfl rfl (by simp only [exa, beq_self_eq_true, ByteArray.size, Nat.reduceAdd, Nat.reduceLeDiff, Nat.reduceEqDiff, Nat.reduceMul, Int.reduceToNat, reduceIte, Int.reduceLE, Int.reduceNeg]; done) (by simp only [exa, beq_self_eq_true, ByteArray.size, Nat.reduceAdd, Nat.reduceLeDiff, Nat.reduceEqDiff, Nat.reduceMul, Int.reduceToNat, reduceIte, Int.reduceLE, Int.reduceNeg]; rfl) (by simp only [exa, beq_self_eq_true, ByteArray.size, Nat.reduceAdd, Nat.reduceLeDiff, Nat.reduceEqDiff, Nat.reduceMul, Int.reduceToNat, reduceIte, Int.reduceLE, Int.reduceNeg]; rfl) rfl rfl rfl rfl (nokeep hkeep) (by intro z hz; obtain ⟨y, -, rfl⟩ := List.mem_map.1 (List.mem_of_mem_take (List.mem_of_mem_drop hz)); rfl) (by simp only [List.length_take, List.length_drop, List.length_append, List.length_map, List.length_cons, List.length_nil]; omega) (by decide) ?_ ?_
                refine first_exec 11 (by decide +kernel) ⟨_, by simp only [exec1, exa, beq_self_eq_true, ByteArray.size, Nat.reduceAdd, Nat.reduceLeDiff, Nat.reduceEqDiff, Nat.reduceMul, Int.reduceToNat, reduceIte, Int.reduceLE, Int.reduceNeg]; rfl, ?_⟩
                refine runsw_end (by decide +kernel) ?_
                simp only [List.drop_zero, List.length_map, take_len, rowO, hrow]
                (refine le_mk ?sle ?mle ?swf ?mwf ?kept (by rfl)
                 case kept => exact kept_not hkeep
                 case swf => repeat (first | exact swf_top _ | refine swf_upd ?_ (by simp [A.ids, upd_app]))
                 case mwf => repeat (first | exact mwf_nil _ | refine mwf_upd ?_ (by simp [A.ids, O.ids, upd_app]))
                 case sle => repeat (first | exact sle_top _ | exact sle_refl _ | refine sle_upd ?_ (by first | rfl | (simp only [upd_app, killS_app, A.kill, entry_zero, entry_succ, Nat.reduceEqDiff, reduceIte] <;> rfl)))
                 case mle => repeat (first | exact mle_nil _ | exact mle_refl _ | refine mle_upd ?_ (by first | rfl | (simp only [upd_app, killM_app, O.kill, A.kill, Option.map_some, Option.map_none, List.map_cons, List.map_nil, Nat.reduceEqDiff, reduceIte] <;> rfl))))
                exact trivial
                exact trivial
                exact trivial
                exact trivial
                exact trivial
              case aft =>
                rintro e st' ⟨rfl, hle⟩
                refine W.weaken hle ?_
                clear hle st'
                refine W.asData 3 (x := .sl (cBs (insN x out))) rfl ?_ (by decide)
                repeat (first | refine W.seq ?_ | refine W.block ?_ | refine W.skip ?_ | refine W.exit ?_ | refine W.region tab_ok 0 (by decide) (exec_run (by simp only [exa, beq_self_eq_true, ByteArray.size, Nat.reduceAdd, Nat.reduceLeDiff, Nat.reduceEqDiff, Nat.reduceMul, Int.reduceToNat, reduceIte, Int.reduceLE, Int.reduceNeg]; rfl)) ?_)
                refine ⟨k + 1, hlt, by omega, ?_⟩
                rw [htk]
                refine le_mk ?sle ?mle ?swf ?mwf ?kept (by rfl)
                case kept => exact kept_not hkeep
                case swf => repeat (first | exact swf_top _ | refine swf_upd ?_ (by simp [A.ids, upd_app]))
                case mwf => repeat (first | exact mwf_nil _ | refine mwf_upd ?_ (by simp [A.ids, O.ids, upd_app]))
                case mle => repeat (first | exact mle_nil _ | exact mle_refl _ | refine mle_upd ?_ (by first | rfl | (simp only [upd_app, killM_app, Nat.reduceEqDiff, reduceIte, wrap_succ (show k + 1 < 9223372036854775808 by omega)]; done)))
                case sle => repeat (first | exact sle_top _ | exact sle_refl _ | refine sle_upd ?_ (by first | rfl | (simp only [upd_app, entry_zero, entry_succ, Nat.reduceEqDiff, reduceIte, wrap_succ (show k + 1 < 9223372036854775808 by omega)]; done)))
          · have hins : insN x out = out.take a ++ [x] ++ out.drop a := insN_at a hc ha hpre (fun z hz => by rw [List.getElem?_eq_none (by omega)] at hz; cases hz)
            have hd : decide ((a : Int) < (out.length : Int)) = false := by simp; omega
            repeat (first | refine W.seq ?_ | refine W.block ?_ | refine W.skip ?_ | refine W.exit ?_ | refine W.region tab_ok 0 (by decide) (exec_run (by simp only [exa, beq_self_eq_true, ByteArray.size, Nat.reduceAdd, Nat.reduceLeDiff, Nat.reduceEqDiff, Nat.reduceMul, Int.reduceToNat, reduceIte, Int.reduceLE, Int.reduceNeg, List.length_map, hd]; rfl)) ?_)
            refine W.cond rfl (fun h => absurd h (by simp)) (fun _ => ?_)
            have hcs : (cBs out).take a ++ [[C.str ⟨x.toArray⟩]] ++ (cBs out).drop a = cBs (insN x out) := by rw [hins]; simp only [List.map_append, List.map_take, List.map_drop, List.map_cons, List.map_nil, cB]
            have hrow : ((cBs out).take a ++ [[C.str ⟨x.toArray⟩]]) ++ ((cBs out).take out.length).drop a = cBs (insN x out) := by
              rw [show (cBs out).take out.length = cBs out from List.take_of_length_le (by simp)]; exact hcs
            have ha1 : (∀ z, z ∈ cBs out → z.length = 1) = True := eq_true fun z hz => by obtain ⟨y, -, rfl⟩ := List.mem_map.1 hz; rfl
            repeat (first | refine W.seq ?_ | refine W.block ?_ | refine W.skip ?_ | refine W.exit ?_ | refine W.region tab_ok 0 (by decide) (exec_run (by simp only [exa, beq_self_eq_true, ByteArray.size, Nat.reduceAdd, Nat.reduceLeDiff, Nat.reduceEqDiff, Nat.reduceMul, Int.reduceToNat, reduceIte, Int.reduceLE, Int.reduceNeg]; rfl)) ?_)
            refine W.mono (K := fun e st' => e = .normal ∧ Le R.keep st' ⟨upd (upd (upd (upd (fun _ => .top) 3 (.own 60)) 7 (.c (.sl (cBs l)))) 8 (.c (.int .i64 l.length))) 9 (.c (.int .i64 k)), upd Mem.nil 60 (some (.arr 9 1 (cBs (insN x out))))⟩) ?reg ?aft
            case reg =>
              (repeat (first | refine W.seq ?_ | refine W.block ?_))
              refine W.regionX tab_ok follows_mixed ⟨upd (upd (upd (upd (fun _ => .top) 3 (.own 60)) 7 (.c (.sl (cBs l)))) 8 (.c (.int .i64 l.length))) 9 (.c (.int .i64 k)), upd Mem.nil 60 (some (.arr 9 1 (cBs (insN x out))))⟩ ?_ (fun st' h => ⟨rfl, h⟩)
              refine rx_move (base := 0) tab_ok (by decide) (by decide +kernel) 0 rfl rfl rfl (by decide +kernel) (by decide +kernel) ⟨_, by simp only [exec1, exa, beq_self_eq_true, ByteArray.size, Nat.reduceAdd, Nat.reduceLeDiff, Nat.reduceEqDiff, Nat.reduceMul, Int.reduceToNat, reduceIte, Int.reduceLE, Int.reduceNeg]; rfl, ?_⟩
              refine rx_move (base := 0) tab_ok (by decide) (by decide +kernel) 1 rfl rfl rfl (by decide +kernel) (by decide +kernel) ⟨_, by simp only [exec1, exa, beq_self_eq_true, ByteArray.size, Nat.reduceAdd, Nat.reduceLeDiff, Nat.reduceEqDiff, Nat.reduceMul, Int.reduceToNat, reduceIte, Int.reduceLE, Int.reduceNeg]; rfl, ?_⟩
              refine rx_move (base := 0) tab_ok (by decide) (by decide +kernel) 4 rfl rfl rfl (by decide +kernel) (by decide +kernel) ⟨_, by simp only [exec1, exa, beq_self_eq_true, ByteArray.size, Nat.reduceAdd, Nat.reduceLeDiff, Nat.reduceEqDiff, Nat.reduceMul, Int.reduceToNat, reduceIte, Int.reduceLE, Int.reduceNeg]; rfl, ?_⟩
              refine rx_move (base := 0) tab_ok (by decide) (by decide +kernel) 7 rfl rfl rfl (by decide +kernel) (by decide +kernel) ⟨_, by simp only [exec1, exa, beq_self_eq_true, ByteArray.size, Nat.reduceAdd, Nat.reduceLeDiff, Nat.reduceEqDiff, Nat.reduceMul, Int.reduceToNat, reduceIte, Int.reduceLE, Int.reduceNeg]; rfl, ?_⟩
              refine rx_move (base := 0) tab_ok (by decide) (by decide +kernel) 8 rfl rfl rfl (by decide +kernel) (by decide +kernel) ⟨_, by simp only [exec1, exa, beq_self_eq_true, ByteArray.size, Nat.reduceAdd, Nat.reduceLeDiff, Nat.reduceEqDiff, Nat.reduceMul, Int.reduceToNat, reduceIte, Int.reduceLE, Int.reduceNeg]; rfl, ?_⟩
              refine rx_runs (base := 0) tab_ok (by decide) ?_
              refine first_exec 2 (by decide +kernel) ⟨_, by simp only [exec1, exa, beq_self_eq_true, ByteArray.size, Nat.reduceAdd, Nat.reduceLeDiff, Nat.reduceEqDiff, Nat.reduceMul, Int.reduceToNat, reduceIte, Int.reduceLE, Int.reduceNeg, List.length_map, ha, ha1, true_or, and_self, reduceIte]; rfl, ?_⟩
              refine runs_node [3, 5, 9] (by decide +kernel) (by decide) ?_
              refine step_appendNil tab_ok rfl 60 true rfl rfl rfl rfl rfl rfl (by simp only [exa, beq_self_eq_true, ByteArray.size, Nat.reduceAdd, Nat.reduceLeDiff, Nat.reduceEqDiff, Nat.reduceMul, Int.reduceToNat, reduceIte, Int.reduceLE, Int.reduceNeg]; done) (by simp only [exa, beq_self_eq_true, ByteArray.size, Nat.reduceAdd, Nat.reduceLeDiff, Nat.reduceEqDiff, Nat.reduceMul, Int.reduceToNat, reduceIte, Int.reduceLE, Int.reduceNeg]; done) (by simp only [exa, beq_self_eq_true, ByteArray.size, Nat.reduceAdd, Nat.reduceLeDiff, Nat.reduceEqDiff, Nat.reduceMul, Int.reduceToNat, reduceIte, Int.reduceLE, Int.reduceNeg]; rfl) rfl rfl rfl rfl (by intro z hz; obtain ⟨y, -, rfl⟩ := List.mem_map.1 (List.mem_of_mem_take hz); rfl) (by simp only [List.length_take, List.length_drop, List.length_map]; omega) (by decide) ?_ ?_
              refine first_exec 5 (by decide +kernel) ⟨_, by simp only [exec1, exa, beq_self_eq_true, ByteArray.size, Nat.reduceAdd, Nat.reduceLeDiff, Nat.reduceEqDiff, Nat.reduceMul, Int.reduceToNat, reduceIte, Int.reduceLE, Int.reduceNeg]; rfl, ?_⟩
              refine runs_node [6, 9] (by decide +kernel) (by decide) ?_
              refine step_append tab_ok rfl 60 true rfl rfl rfl rfl rfl rfl (by simp only [exa, beq_self_eq_true, ByteArray.size, Nat.reduceAdd, Nat.reduceLeDiff, Nat.reduceEqDiff, Nat.reduceMul, Int.reduceToNat, reduceIte, Int.reduceLE, Int.reduceNeg]; done) (by simp only [exa, beq_self_eq_true, ByteArray.size, Nat.reduceAdd, Nat.reduceLeDiff, Nat.reduceEqDiff, Nat.reduceMul, Int.reduceToNat, reduceIte, Int.reduceLE, Int.reduceNeg]; rfl) (by simp only [exa, beq_self_eq_true, ByteArray.size, Nat.reduceAdd, Nat.reduceLeDiff, Nat.reduceEqDiff, Nat.reduceMul, Int.reduceToNat, reduceIte, Int.reduceLE, Int.reduceNeg]; rfl) rfl rfl rfl rfl (nokeep hkeep) (by simp) (by simp only [List.length_take, List.length_drop, List.length_map, List.length_cons, List.length_nil]; omega) (by decide) ?_ ?_
              refine first_exec 9 (by decide +kernel) ⟨_, by simp only [exec1, exa, beq_self_eq_true, ByteArray.size, Nat.reduceAdd, Nat.reduceLeDiff, Nat.reduceEqDiff, Nat.reduceMul, Int.reduceToNat, reduceIte, Int.reduceLE, Int.reduceNeg, List.length_map, ha, ha1, or_true, Nat.le_refl, and_self, reduceIte]; rfl, ?_⟩
              refine runs_node [10] (by decide +kernel) (by decide) ?_
              refine step_append tab_ok rfl 60 true rfl rfl rfl rfl rfl rfl (by simp only [exa, beq_self_eq_true, ByteArray.size, Nat.reduceAdd, Nat.reduceLeDiff, Nat.reduceEqDiff, Nat.reduceMul, Int.reduceToNat, reduceIte, Int.reduceLE, Int.reduceNeg]; done) (by simp only [exa, beq_self_eq_true, ByteArray.size, Nat.reduceAdd, Nat.reduceLeDiff, Nat.reduceEqDiff, Nat.reduceMul, Int.reduceToNat, reduceIte, Int.reduceLE, Int.reduceNeg]; rfl) (by simp only [exa, beq_self_eq_true, ByteArray.size, Nat.reduceAdd, Nat.reduceLeDiff, Nat.reduceEqDiff, Nat.reduceMul, Int.reduceToNat, reduceIte, Int.reduceLE, Int.reduceNeg]; rfl) rfl rfl rfl rfl (nokeep hkeep) (by intro z hz; obtain ⟨y, -, rfl⟩ := List.mem_map.1 (List.mem_of_mem_take (List.mem_of_mem_drop hz)); rfl) (by simp only [List.length_take, List.length_drop, List.length_append, List.length_map, List.length_cons, List.length_nil]; omega) (by decide) ?_ ?_
              refine first_exec 11 (by decide +kernel) ⟨_, by simp only [exec1, exa, beq_self_eq_true, ByteArray.size, Nat.reduceAdd, Nat.reduceLeDiff, Nat.reduceEqDiff, Nat.reduceMul, Int.reduceToNat, reduceIte, Int.reduceLE, Int.reduceNeg]; rfl, ?_⟩
              refine runsw_end (by decide +kernel) ?_
              simp only [List.drop_zero, List.length_map, take_len, rowO, hrow]
              (refine le_mk ?sle ?mle ?swf ?mwf ?kept (by rfl)
               case kept => exact kept_not hkeep
               case swf => repeat (first | exact swf_top _ | refine swf_upd ?_ (by simp [A.ids, upd_app]))
               case mwf => repeat (first | exact mwf_nil _ | refine mwf_upd ?_ (by simp [A.ids, O.ids, upd_app]))
               case sle => repeat (first | exact sle_top _ | exact sle_refl _ | refine sle_upd ?_ (by first | rfl | (simp only [upd_app, killS_app, A.kill, entry_zero, entry_succ, Nat.reduceEqDiff, reduceIte] <;> rfl)))
               case mle => repeat (first | exact mle_nil _ | exact mle_refl _ | refine mle_upd ?_ (by first | rfl | (simp only [upd_app, killM_app, O.kill, A.kill, Option.map_some, Option.map_none, List.map_cons, List.map_nil, Nat.reduceEqDiff, reduceIte] <;> rfl))))
              exact trivial
              refine step_exec ⟨_, by simp only [exec1, exa, beq_self_eq_true, ByteArray.size, Nat.reduceAdd, Nat.reduceLeDiff, Nat.reduceEqDiff, Nat.reduceMul, Int.reduceToNat, reduceIte, Int.reduceLE, Int.reduceNeg, List.length_map, ha, ha1, or_true, Nat.le_refl, and_self, reduceIte]; rfl, ?_⟩ ?_
              refine runs_node [6] (by decide +kernel) (by decide) ?_
              refine step_append tab_ok rfl 60 true rfl rfl rfl rfl rfl rfl (by simp only [exa, beq_self_eq_true, ByteArray.size, Nat.reduceAdd, Nat.reduceLeDiff, Nat.reduceEqDiff, Nat.reduceMul, Int.reduceToNat, reduceIte, Int.reduceLE, Int.reduceNeg]; done) (by simp only [exa, beq_self_eq_true, ByteArray.size, Nat.reduceAdd, Nat.reduceLeDiff, Nat.reduceEqDiff, Nat.reduceMul, Int.reduceToNat, reduceIte, Int.reduceLE, Int.reduceNeg]; rfl) (by simp only [exa, beq_self_eq_true, ByteArray.size, Nat.reduceAdd, Nat.reduceLeDiff, Nat.reduceEqDiff, Nat.reduceMul, Int.reduceToNat, reduceIte, Int.reduceLE, Int.reduceNeg]; rfl) rfl rfl rfl rfl (nokeep hkeep) (by simp) (by simp only [List.length_take, List.length_drop, List.length_map, List.length_cons, List.length_nil]; omega) (by decide) ?_ ?_
              refine runs_node [10] (by decide +kernel) (by decide) ?_
              refine step_append tab_ok rfl 60 true rfl rfl rfl rfl rfl rfl (by simp only [exa, beq_self_eq_true, ByteArray.size, Nat.reduceAdd, Nat.reduceLeDiff, Nat.reduceEqDiff, Nat.reduceMul, Int.reduceToNat, reduceIte, Int.reduceLE, Int.reduceNeg]; done) (by simp only [exa, beq_self_eq_true, ByteArray.size, Nat.reduceAdd, Nat.reduceLeDiff, Nat.reduceEqDiff, Nat.reduceMul, Int.reduceToNat, reduceIte, Int.reduceLE, Int.reduceNeg]; rfl) (by simp only [exa, beq_self_eq_true, ByteArray.size, Nat.reduceAdd, Nat.reduceLeDiff, Nat.reduceEqDiff, Nat.reduceMul, Int.reduceToNat, reduceIte, Int.reduceLE, Int.reduceNeg]; rfl) rfl rfl rfl rfl (nokeep hkeep) (by intro z hz; obtain ⟨y, -, rfl⟩ := List.mem_map.1 (List.mem_of_mem_take (List.mem_of_mem_drop hz)); rfl) (by simp only [List.length_take, List.length_drop, List.length_append, List.length_map, List.length_cons, List.length_nil]; omega) (by decide) ?_ ?_
              refine first_exec 11 (by decide +kernel) ⟨_, by simp only [exec1, exa, beq_self_eq_true, ByteArray.size, Nat.reduceAdd, Nat.reduceLeDiff, Nat.reduceEqDiff, Nat.reduceMul, Int.reduceToNat, reduceIte, Int.reduceLE, Int.reduceNeg]; rfl, ?_⟩
              refine runsw_end (by decide +kernel) ?_
              simp only [List.drop_zero, List.length_map, take_len, rowO, hrow]
              (refine le_mk ?sle ?mle ?swf ?mwf ?kept (by rfl)
               case kept => exact kept_not hkeep
               case swf => repeat (first | exact swf_top _ | refine swf_upd ?_ (by simp [A.ids, upd_app]))
               case mwf => repeat (first | exact mwf_nil _ | refine mwf_upd ?_ (by simp [A.ids, O.ids, upd_app]))
               case sle => repeat (first | exact sle_top _ | exact sle_refl _ | refine sle_upd ?_ (by first | rfl | (simp only [upd_app, killS_app, A.kill, entry_zero, entry_succ, Nat.reduceEqDiff, reduceIte] <;> rfl)))
               case mle => repeat (first | exact mle_nil _ | exact mle_refl _ | refine mle_upd ?_ (by first | rfl | (simp only [upd_app, killM_app, O.kill, A.kill, Option.map_some, Option.map_none, List.map_cons, List.map_nil, Nat.reduceEqDiff, reduceIte] <;> rfl))))
              exact trivial
              exact trivial
              exact trivial
              refine step_exec ⟨_, by simp only [exec1, exa, beq_self_eq_true, ByteArray.size, Nat.reduceAdd, Nat.reduceLeDiff, Nat.reduceEqDiff, Nat.reduceMul, Int.reduceToNat, reduceIte, Int.reduceLE, Int.reduceNeg]; rfl, ?_⟩ ?_
              refine runs_node [3, 9] (by decide +kernel) (by decide) ?_
              refine step_appendNil tab_ok rfl 60 true rfl rfl rfl rfl rfl rfl (by simp only [exa, beq_self_eq_true, ByteArray.size, Nat.reduceAdd, Nat.reduceLeDiff, Nat.reduceEqDiff, Nat.reduceMul, Int.reduceToNat, reduceIte, Int.reduceLE, Int.reduceNeg]; done) (by simp only [exa, beq_self_eq_true, ByteArray.size, Nat.reduceAdd, Nat.reduceLeDiff, Nat.reduceEqDiff, Nat.reduceMul, Int.reduceToNat, reduceIte, Int.reduceLE, Int.reduceNeg]; done) (by simp only [exa, beq_self_eq_true, ByteArray.size, Nat.reduceAdd, Nat.reduceLeDiff, Nat.reduceEqDiff, Nat.reduceMul, Int.reduceToNat, reduceIte, Int.reduceLE, Int.reduceNeg]; rfl) rfl rfl rfl rfl (by intro z hz; obtain ⟨y, -, rfl⟩ := List.mem_map.1 (List.mem_of_mem_take hz); rfl) (by simp only [List.length_take, List.length_drop, List.length_map]; omega) (by decide) ?_ ?_
              refine runs_node [6, 9] (by decide +kernel) (by decide) ?_
              refine step_append tab_ok rfl 60 true rfl rfl rfl rfl rfl rfl (by simp only [exa, beq_self_eq_true, ByteArray.size, Nat.reduceAdd, Nat.reduceLeDiff, Nat.reduceEqDiff, Nat.reduceMul, Int.reduceToNat, reduceIte, Int.reduceLE, Int.reduceNeg]; done) (by simp only [exa, beq_self_eq_true, ByteArray.size, Nat.reduceAdd, Nat.reduceLeDiff, Nat.reduceEqDiff, Nat.reduceMul, Int.reduceToNat, reduceIte, Int.reduceLE, Int.reduceNeg]; rfl) (by simp only [exa, beq_self_eq_true, ByteArray.size, Nat.reduceAdd, Nat.reduceLeDiff, Nat.reduceEqDiff, Nat.reduceMul, Int.reduceToNat, reduceIte, Int.reduceLE, Int.reduceNeg]; rfl) rfl rfl rfl rfl (nokeep hkeep) (by simp) (by simp only [List.length_take, List.length_drop, List.length_map, List.length_cons, List.length_nil]; omega) (by decide) ?_ ?_
              refine first_exec 9 (by decide +kernel) ⟨_, by simp only [exec1, exa, beq_self_eq_true, ByteArray.size, Nat.reduceAdd, Nat.reduceLeDiff, Nat.reduceEqDiff, Nat.reduceMul, Int.reduceToNat, reduceIte, Int.reduceLE, Int.reduceNeg, List.length_map, ha, ha1, or_true, Nat.le_refl, and_self, reduceIte]; rfl, ?_⟩
              refine runs_node [10] (by decide +kernel) (by decide) ?_
              refine step_append tab_ok rfl 60 true rfl rfl rfl rfl rfl rfl (by simp only [exa, beq_self_eq_true, ByteArray.size, Nat.reduceAdd, Nat.reduceLeDiff, Nat.reduceEqDiff, Nat.reduceMul, Int.reduceToNat, reduceIte, Int.reduceLE, Int.reduceNeg]; done) (by simp only [exa, beq_self_eq_true, ByteArray.size, Nat.reduceAdd, Nat.reduceLeDiff, Nat.reduceEqDiff, Nat.reduceMul, Int.reduceToNat, reduceIte, Int.reduceLE, Int.reduceNeg]; rfl) (by simp only [exa, beq_self_eq_true, ByteArray.size, Nat.reduceAdd, Nat.reduceLeDiff, Nat.reduceEqDiff, Nat.reduceMul, Int.reduceToNat, reduceIte, Int.reduceLE, Int.reduceNeg]; rfl) rfl rfl rfl rfl (nokeep hkeep) (by intro z hz; obtain ⟨y, -, rfl⟩ := List.mem_map.1 (List.mem_of_mem_take (List.mem_of_mem_drop hz)); rfl) (by simp only [List.length_take, List.length_drop, List.length_append, List.length_map, List.length_cons, List.length_nil]; omega) (by decide) ?_ ?_
              refine first_exec 11 (by decide +kernel) ⟨_, by simp only [exec1, exa, beq_self_eq_true, ByteArray.size, Nat.reduceAdd, Nat.reduceLeDiff, Nat.reduceEqDiff, Nat.reduceMul, Int.reduceToNat, reduceIte, Int.reduceLE, Int.reduceNeg]; rfl, ?_⟩
              refine runsw_end (by decide +kernel) ?_
              simp only [List.drop_zero, List.length_map, take_len, rowO, hrow]
              (refine le_mk ?sle ?mle ?swf ?mwf ?kept (by rfl)
               case kept => exact kept_not hkeep
               case swf => repeat (first | exact swf_top _ | refine swf_upd ?_ (by simp [A.ids, upd_app]))
               case mwf => repeat (first | exact mwf_nil _ | refine mwf_upd ?_ (by simp [A.ids, O.ids, upd_app]))
               case sle => repeat (first | exact sle_top _ | exact sle_refl _ | refine sle_upd ?_ (by first | rfl | (simp only [upd_app, killS_app, A.kill, entry_zero, entry_succ, Nat.reduceEqDiff, reduceIte] <;> rfl)))
               case mle => repeat (first | exact mle_nil _ | exact mle_refl _ | refine mle_upd ?_ (by first | rfl | (simp only [upd_app, killM_app, O.kill, A.kill, Option.map_some, Option.map_none, List.map_cons, List.map_nil, Nat.reduceEqDiff, reduceIte] <;> rfl))))
              exact trivial
              refine step_exec ⟨_, by simp only [exec1, exa, beq_self_eq_true, ByteArray.size, Nat.reduceAdd, Nat.reduceLeDiff, Nat.reduceEqDiff, Nat.reduceMul, Int.reduceToNat, reduceIte, Int.reduceLE, Int.reduceNeg, List.length_map, ha, ha1, or_true, Nat.le_refl, and_self, reduceIte]; rfl, ?_⟩ ?_
              refine runs_node [6] (by decide +kernel) (by decide) ?_
              refine step_append tab_ok rfl 60 true rfl rfl rfl rfl rfl rfl (by simp only [exa, beq_self_eq_true, ByteArray.size, Nat.reduceAdd, Nat.reduceLeDiff, Nat.reduceEqDiff, Nat.reduceMul, Int.reduceToNat, reduceIte, Int.reduceLE, Int.reduceNeg]; done) (by simp only [exa, beq_self_eq_true, ByteArray.size, Nat.reduceAdd, Nat.reduceLeDiff, Nat.reduceEqDiff, Nat.reduceMul, Int.reduceToNat, reduceIte, Int.reduceLE, Int.reduceNeg]; rfl) (by simp only [exa, beq_self_eq_true, ByteArray.size, Nat.reduceAdd, Nat.reduceLeDiff, Nat.reduceEqDiff, Nat.reduceMul, Int.reduceToNat, reduceIte, Int.reduceLE, Int.reduceNeg]; rfl) rfl rfl rfl rfl (nokeep hkeep) (by simp) (by simp only [List.length_take, List.length_drop, List.length_map, List.length_cons, List.length_nil]; omega) (by decide) ?_ ?_
              refine runs_node [10] (by decide +kernel) (by decide) ?_
              refine step_append tab_ok rfl 60 true rfl rfl rfl rfl rfl rfl (by simp only [exa, beq_self_eq_true, ByteArray.size, Nat.reduceAdd, Nat.reduceLeDiff, Nat.reduceEqDiff, Nat.reduceMul, Int.reduceToNat, reduceIte, Int.reduceLE, Int.reduceNeg]; done) (by simp only [exa, beq_self_eq_true, ByteArray.size, Nat.reduceAdd, Nat.reduceLeDiff, Nat.reduceEqDiff, Nat.reduceMul, Int.reduceToNat, reduceIte, Int.reduceLE, Int.reduceNeg]; rfl) (by simp only [exa, beq_self_eq_true, ByteArray.size, Nat.reduceAdd, Nat.reduceLeDiff, Nat.reduceEqDiff, Nat.reduceMul, Int.reduceToNat, reduceIte, Int.reduceLE, Int.reduceNeg]; rfl) rfl rfl rfl rfl (nokeep hkeep) (by intro z hz; obtain ⟨y, -, rfl⟩ := List.mem_map.1 (List.mem_of_mem_take (List.mem_of_mem_drop hz)); rfl) (by simp only [List.length_take, List.length_drop, List.length_append, List.length_map, List.length_cons, List.length_nil]; omega) (by decide) ?_ ?_
              refine first_exec 11 (by decide +kernel) ⟨_, by simp only [exec1, exa, beq_self_eq_true, ByteArray.size, Nat.reduceAdd, Nat.reduceLeDiff, Nat.reduceEqDiff, Nat.reduceMul, Int.reduceToNat, reduceIte, Int.reduceLE, Int.reduceNeg]; rfl, ?_⟩
              refine runsw_end (by decide +kernel) ?_
              simp only [List.drop_zero, List.length_map, take_len, rowO, hrow]
              (refine le_mk ?sle ?mle ?swf ?mwf ?kept (by rfl)
               case kept => exact kept_not hkeep
               case swf => repeat (first | exact swf_top _ | refine swf_upd ?_ (by simp [A.ids, upd_app]))
               case mwf => repeat (first | exact mwf_nil _ | refine mwf_upd ?_ (by simp [A.ids, O.ids, upd_app]))
               case sle => repeat (first | exact sle_top _ | exact sle_refl _ | refine sle_upd ?_ (by first | rfl | (simp only [upd_app, killS_app, A.kill, entry_zero, entry_succ, Nat.reduceEqDiff, reduceIte] <;> rfl)))
               case mle => repeat (first | exact mle_nil _ | exact mle_refl _ | refine mle_upd ?_ (by first | rfl | (simp only [upd_app, killM_app, O.kill, A.kill, Option.map_some, Option.map_none, List.map_cons, List.map_nil, Nat.reduceEqDiff, reduceIte] <;> rfl))))
              exact trivial
              exact trivial
              exact trivial
              refine step_exec ⟨_, by simp only [exec1, exa, beq_self_eq_true, ByteArray.size, Nat.reduceAdd, Nat.reduceLeDiff, Nat.reduceEqDiff, Nat.reduceMul, Int.reduceToNat, reduceIte, Int.reduceLE, Int.reduceNeg, List.length_map, ha, ha1, or_true, Nat.le_refl, and_self, reduceIte]; rfl, ?_⟩ ?_
              refine runs_node [3] (by decide +kernel) (by decide) ?_
              refine step_appendNil tab_ok rfl 60 true rfl rfl rfl rfl rfl rfl (by simp only [exa, beq_self_eq_true, ByteArray.size, Nat.reduceAdd, Nat.reduceLeDiff, Nat.reduceEqDiff, Nat.reduceMul, Int.reduceToNat, reduceIte, Int.reduceLE, Int.reduceNeg]; done) (by simp only [exa, beq_self_eq_true, ByteArray.size, Nat.reduceAdd, Nat.reduceLeDiff, Nat.reduceEqDiff, Nat.reduceMul, Int.reduceToNat, reduceIte, Int.reduceLE, Int.reduceNeg]; done) (by simp only [exa, beq_self_eq_true, ByteArray.size, Nat.reduceAdd, Nat.reduceLeDiff, Nat.reduceEqDiff, Nat.reduceMul, Int.reduceToNat, reduceIte, Int.reduceLE, Int.reduceNeg]; rfl) rfl rfl rfl rfl (by intro z hz; obtain ⟨y, -, rfl⟩ := List.mem_map.1 (List.mem_of_mem_take hz); rfl) (by simp only [List.length_take, List.length_drop, List.length_map]; omega) (by decide) ?_ ?_
              refine runs_node [6] (by decide +kernel) (by decide) ?_
              refine step_append tab_ok rfl 60 true rfl rfl rfl rfl rfl rfl (by simp only [exa, beq_self_eq_true, ByteArray.size, Nat.reduceAdd, Nat.reduceLeDiff, Nat.reduceEqDiff, Nat.reduceMul, Int.reduceToNat, reduceIte, Int.reduceLE, Int.reduceNeg]; done) (by simp only [exa, beq_self_eq_true, ByteArray.size, Nat.reduceAdd, Nat.reduceLeDiff, Nat.reduceEqDiff, Nat.reduceMul, Int.reduceToNat, reduceIte, Int.reduceLE, Int.reduceNeg]; rfl) (by simp only [exa, beq_self_eq_true, ByteArray.size, Nat.reduceAdd, Nat.reduceLeDiff, Nat.reduceEqDiff, Nat.reduceMul, Int.reduceToNat, reduceIte, Int.reduceLE, Int.reduceNeg]; rfl) rfl rfl rfl rfl (nokeep hkeep) (by simp) (by simp only [List.length_take, List.length_drop, List.length_map, List.length_cons, List.length_nil]; omega) (by decide) ?_ ?_
              refine runs_node [10] (by decide +kernel) (by decide) ?_
              refine step_append tab_ok rfl 60 true rfl rfl rfl rfl rfl rfl (by simp only [exa, beq_self_eq_true, ByteArray.size, Nat.reduceAdd, Nat.reduceLeDiff, Nat.reduceEqDiff, Nat.reduceMul, Int.reduceToNat, reduceIte, Int.reduceLE, Int.reduceNeg]; done) (by simp only [exa, beq_self_eq_true, ByteArray.size, Nat.reduceAdd, Nat.reduceLeDiff, Nat.reduceEqDiff, Nat.reduceMul, Int.reduceToNat, reduceIte, Int.reduceLE, Int.reduceNeg]; rfl) (by simp only [exa, beq_self_eq_true, ByteArray.size, Nat.reduceAdd, Nat.reduceLeDiff, Nat.reduceEqDiff, Nat.reduceMul, Int.reduceToNat, reduceIte, Int.reduceLE, Int.reduceNeg]; rfl) rfl rfl rfl rfl (nokeep hkeep) (by intro z hz; obtain ⟨y, -, rfl⟩ := List.mem_map.1 (List.mem_of_mem_take (List.mem_of_mem_drop hz)); rfl) (by simp only [List.length_take, List.length_drop, List.length_append, List.length_map, List.length_cons, List.length_nil]; omega) (by decide) ?_ ?_
              refine first_exec 11 (by decide +kernel) ⟨_, by simp only [exec1, exa, beq_self_eq_true, ByteArray.size, Nat.reduceAdd, Nat.reduceLeDiff, Nat.reduceEqDiff, Nat.reduceMul, Int.reduceToNat, reduceIte, Int.reduceLE, Int.reduceNeg]; rfl, ?_⟩
              refine runsw_end (by decide +kernel) ?_
              simp only [List.drop_zero, List.length_map, take_len, rowO, hrow]
              (refine le_mk ?sle ?mle ?swf ?mwf ?kept (by rfl)
               case kept => exact kept_not hkeep
               case swf => repeat (first | exact swf_top _ | refine swf_upd ?_ (by simp [A.ids, upd_app]))
               case mwf => repeat (first | exact mwf_nil _ | refine mwf_upd ?_ (by simp [A.ids, O.ids, upd_app]))
               case sle => repeat (first | exact sle_top _ | exact sle_refl _ | refine sle_upd ?_ (by first | rfl | (simp only [upd_app, killS_app, A.kill, entry_zero, entry_succ, Nat.reduceEqDiff, reduceIte] <;> rfl)))
               case mle => repeat (first | exact mle_nil _ | exact mle_refl _ | refine mle_upd ?_ (by first | rfl | (simp only [upd_app, killM_app, O.kill, A.kill, Option.map_some, Option.map_none, List.map_cons, List.map_nil, Nat.reduceEqDiff, reduceIte] <;> rfl))))
              exact trivial
              exact trivial
              exact trivial
              exact trivial
              refine step_exec ⟨_, by simp only [exec1, exa, beq_self_eq_true, ByteArray.size, Nat.reduceAdd, Nat.reduceLeDiff, Nat.reduceEqDiff, Nat.reduceMul, Int.reduceToNat, reduceIte, Int.reduceLE, Int.reduceNeg, List.length_map, ha, ha1, or_true, Nat.le_refl, and_self, reduceIte]; rfl, ?_⟩ ?_
              refine runs_node [3, 5] (by decide +kernel) (by decide) ?_
              refine step_appendNil tab_ok rfl 60 true rfl rfl rfl rfl rfl rfl (by simp only [exa, beq_self_eq_true, ByteArray.size, Nat.reduceAdd, Nat.reduceLeDiff, Nat.reduceEqDiff, Nat.reduceMul, Int.reduceToNat, reduceIte, Int.reduceLE, Int.reduceNeg]; done) (by simp only [exa, beq_self_eq_true, ByteArray.size, Nat.reduceAdd, Nat.reduceLeDiff, Nat.reduceEqDiff, Nat.reduceMul, Int.reduceToNat, reduceIte, Int.reduceLE, Int.reduceNeg]; done) (by simp only [exa, beq_self_eq_true, ByteArray.size, Nat.reduceAdd, Nat.reduceLeDiff, Nat.reduceEqDiff, Nat.reduceMul, Int.reduceToNat, reduceIte, Int.reduceLE, Int.reduceNeg]; rfl) rfl rfl rfl rfl (by intro z hz; obtain ⟨y, -, rfl⟩ := List.mem_map.1 (List.mem_of_mem_take hz); rfl) (by simp only [List.length_take, List.length_drop, List.length_map]; omega) (by decide) ?_ ?_
              refine first_exec 5 (by decide +kernel) ⟨_, by simp only [exec1, exa, beq_self_eq_true, ByteArray.size, Nat.reduceAdd, Nat.reduceLeDiff, Nat.reduceEqDiff, Nat.reduceMul, Int.reduceToNat, reduceIte, Int.reduceLE, Int.reduceNeg]; rfl, ?_⟩
              refine runs_node [6] (by decide +kernel) (by decide) ?_
              refine step_append tab_ok rfl 60 true rfl rfl rfl rfl rfl rfl (by simp only [exa, beq_self_eq_true, ByteArray.size, Nat.reduceAdd, Nat.reduceLeDiff, Nat.reduceEqDiff, Nat.reduceMul, Int.reduceToNat, reduceIte, Int.reduceLE, Int.reduceNeg]; done) (by simp only [exa, beq_self_eq_true, ByteArray.size, Nat.reduceAdd, Nat.reduceLeDiff, Nat.reduceEqDiff, Nat.reduceMul, Int.reduceToNat, reduceIte, Int.reduceLE, Int.reduceNeg]; rfl) (by simp only [exa, beq_self_eq_true, ByteArray.size, Nat.reduceAdd, Nat.reduceLeDiff, Nat.reduceEqDiff, Nat.reduceMul, Int.reduceToNat, reduceIte, Int.reduceLE, Int.reduceNeg]; rfl) rfl rfl rfl rfl (nokeep hkeep) (by simp) (by simp only [List.length_take, List.length_drop, List.length_map, List.length_cons, List.length_nil]; omega) (by decide) ?_ ?_
              refine runs_node [10] (by decide +kernel) (by decide) ?_
              refine step_append tab_ok rfl 60 true rfl rfl rfl rfl rfl rfl (by simp only [exa, beq_self_eq_true, ByteArray.size, Nat.reduceAdd, Nat.reduceLeDiff, Nat.reduceEqDiff, Nat.reduceMul, Int.reduceToNat, reduceIte, Int.reduceLE, Int.reduceNeg]; done) (by simp only [exa, beq_self_eq_true, ByteArray.size, Nat.reduceAdd, Nat.reduceLeDiff, Nat.reduceEqDiff, Nat.reduceMul, Int.reduceToNat, reduceIte, Int.reduceLE, Int.reduceNeg]; rfl) (by simp only [exa, beq_self_eq_true, ByteArray.size, Nat.reduceAdd, Nat.reduceLeDiff, Nat.reduceEqDiff, Nat.reduceMul, Int.reduceToNat, reduceIte, Int.reduceLE, Int.reduceNeg]; rfl) rfl rfl rfl rfl (nokeep hkeep) (by intro z hz; obtain ⟨y, -, rfl⟩ := List.mem_map.1 (List.mem_of_mem_take (List.mem_of_mem_drop hz)); rfl) (by simp only [List.length_take, List.length_drop, List.length_append, List.length_map, List.length_cons, List.length_nil]; omega) (by decide) ?_ ?_
              refine first_exec 11 (by decide +kernel) ⟨_, by simp only [exec1, exa, beq_self_eq_true, ByteArray.size, Nat.reduceAdd, Nat.reduceLeDiff, Nat.reduceEqDiff, Nat.reduceMul, Int.reduceToNat, reduceIte, Int.reduceLE, Int.reduceNeg]; rfl, ?_⟩
              refine runsw_end (by decide +kernel) ?_
              simp only [List.drop_zero, List.length_map, take_len, rowO, hrow]
              (refine le_mk ?sle ?mle ?swf ?mwf ?kept (by rfl)
               case kept => exact kept_not hkeep
               case swf => repeat (first | exact swf_top _ | refine swf_upd ?_ (by simp [A.ids, upd_app]))
               case mwf => repeat (first | exact mwf_nil _ | refine mwf_upd ?_ (by simp [A.ids, O.ids, upd_app]))
               case sle => repeat (first | exact sle_top _ | exact sle_refl _ | refine sle_upd ?_ (by first | rfl | (simp only [upd_app, killS_app, A.kill, entry_zero, entry_succ, Nat.reduceEqDiff, reduceIte] <;> rfl)))
               case mle => repeat (first | exact mle_nil _ | exact mle_refl _ | refine mle_upd ?_ (by first | rfl | (simp only [upd_app, killM_app, O.kill, A.kill, Option.map_some, Option.map_none, List.map_cons, List.map_nil, Nat.reduceEqDiff, reduceIte] <;> rfl))))
              exact trivial
              exact trivial
              refine step_exec ⟨_, by simp only [exec1, exa, beq_self_eq_true, ByteArray.size, Nat.reduceAdd, Nat.reduceLeDiff, Nat.reduceEqDiff, Nat.reduceMul, Int.reduceToNat, reduceIte, Int.reduceLE, Int.reduceNeg]; rfl, ?_⟩ ?_
              refine runs_node [3] (by decide +kernel) (by decide) ?_
              refine step_appendNil tab_ok rfl 60 true rfl rfl rfl rfl rfl rfl (by simp only [exa, beq_self_eq_true, ByteArray.size, Nat.reduceAdd, Nat.reduceLeDiff, Nat.reduceEqDiff, Nat.reduceMul, Int.reduceToNat, reduceIte, Int.reduceLE, Int.reduceNeg]; done) (by simp only [exa, beq_self_eq_true, ByteArray.size, Nat.reduceAdd, Nat.reduceLeDiff, Nat.reduceEqDiff, Nat.reduceMul, Int.reduceToNat, reduceIte, Int.reduceLE, Int.reduceNeg]; done) (by simp only [exa, beq_self_eq_true, ByteArray.size, Nat.reduceAdd, Nat.reduceLeDiff, Nat.reduceEqDiff, Nat.reduceMul, Int.reduceToNat, reduceIte, Int.reduceLE, Int.reduceNeg]; rfl) rfl rfl rfl rfl (by intro z hz; obtain ⟨y, -, rfl⟩ := List.mem_map.1 (List.mem_of_mem_take hz); rfl) (by simp only [List.length_take, List.length_drop, List.length_map]; omega) (by decide) ?_ ?_
              refine runs_node [6] (by decide +kernel) (by decide) ?_
              refine step_append tab_ok rfl 60 true rfl rfl rfl rfl rfl rfl (by simp only [exa, beq_self_eq_true, ByteArray.size, Nat.reduceAdd, Nat.reduceLeDiff, Nat.reduceEqDiff, Nat.reduceMul, Int.reduceToNat, reduceIte, Int.reduceLE, Int.reduceNeg]; done) (by simp only [exa, beq_self_eq_true, ByteArray.size, Nat.reduceAdd, Nat.reduceLeDiff, Nat.reduceEqDiff, Nat.reduceMul, Int.reduceToNat, reduceIte, Int.reduceLE, Int.reduceNeg]; rfl) (by simp only [exa, beq_self_eq_true, ByteArray.size, Nat.reduceAdd, Nat.reduceLeDiff, Nat.reduceEqDiff, Nat.reduceMul, Int.reduceToNat, reduceIte, Int.reduceLE, Int.reduceNeg]; rfl) rfl rfl rfl rfl (nokeep hkeep) (by simp) (by simp only [List.length_take, List.length_drop, List.length_map, List.length_cons, List.length_nil]; omega) (by decide) ?_ ?_
              refine runs_node [10] (by decide +kernel) (by decide) ?_
              refine step_append tab_ok rfl 60 true rfl rfl rfl rfl rfl rfl (by simp only [exa, beq_self_eq_true, ByteArray.size, Nat.reduceAdd, Nat.reduceLeDiff, Nat.reduceEqDiff, Nat.reduceMul, Int.reduceToNat, reduceIte, Int.reduceLE, Int.reduceNeg]; done) (by simp only [exa, beq_self_eq_true, ByteArray.size, Nat.reduceAdd, Nat.reduceLeDiff, Nat.reduceEqDiff, Nat.reduceMul, Int.reduceToNat, reduceIte, Int.reduceLE, Int.reduceNeg]; rfl) (by simp only [exa, beq_self_eq_true, ByteArray.size, Nat.reduceAdd, Nat.reduceLeDiff, Nat.reduceEqDiff, Nat.reduceMul, Int.reduceToNat, reduceIte, Int.reduceLE, Int.reduceNeg]; rfl) rfl rfl rfl rfl (nokeep hkeep) (by intro z hz; obtain ⟨y, -, rfl⟩ := List.mem_map.1 (List.mem_of_mem_take (List.mem_of_mem_drop hz)); rfl) (by simp only [List.length_take, List.length_drop, List.length_append, List.length_map, List.length_cons, List.length_nil]; omega) (by decide) ?_ ?_
              refine first_exec 11 (by decide +kernel) ⟨_, by simp only [exec1, exa, beq_self_eq_true, ByteArray.size, Nat.reduceAdd, Nat.reduceLeDiff, Nat.reduceEqDiff, Nat.reduceMul, Int.reduceToNat, reduceIte, Int.reduceLE, Int.reduceNeg]; rfl, ?_⟩
              refine runsw_end (by decide +kernel) ?_
              simp only [List.drop_zero, List.length_map, take_len, rowO, hrow]
              (refine le_mk ?sle ?mle ?swf ?mwf ?kept (by rfl)
               case kept => exact kept_not hkeep
               case swf => repeat (first | exact swf_top _ | refine swf_upd ?_ (by simp [A.ids, upd_app]))
               case mwf => repeat (first | exact mwf_nil _ | refine mwf_upd ?_ (by simp [A.ids, O.ids, upd_app]))
               case sle => repeat (first | exact sle_top _ | exact sle_refl _ | refine sle_upd ?_ (by first | rfl | (simp only [upd_app, killS_app, A.kill, entry_zero, entry_succ, Nat.reduceEqDiff, reduceIte] <;> rfl)))
               case mle => repeat (first | exact mle_nil _ | exact mle_refl _ | refine mle_upd ?_ (by first | rfl | (simp only [upd_app, killM_app, O.kill, A.kill, Option.map_some, Option.map_none, List.map_cons, List.map_nil, Nat.reduceEqDiff, reduceIte] <;> rfl))))
              exact trivial
              exact trivial
              exact trivial
              exact trivial
              exact trivial
            case aft =>
              rintro e st' ⟨rfl, hle⟩
              refine W.weaken hle ?_
              clear hle st'
              refine W.asData 3 (x := .sl (cBs (insN x out))) rfl ?_ (by decide)
              repeat (first | refine W.seq ?_ | refine W.block ?_ | refine W.skip ?_ | refine W.exit ?_ | refine W.region tab_ok 0 (by decide) (exec_run (by simp only [exa, beq_self_eq_true, ByteArray.size, Nat.reduceAdd, Nat.reduceLeDiff, Nat.reduceEqDiff, Nat.reduceMul, Int.reduceToNat, reduceIte, Int.reduceLE, Int.reduceNeg]; rfl)) ?_)
              refine ⟨k + 1, hlt, by omega, ?_⟩
              rw [htk]
              refine le_mk ?sle ?mle ?swf ?mwf ?kept (by rfl)
              case kept => exact kept_not hkeep
              case swf => repeat (first | exact swf_top _ | refine swf_upd ?_ (by simp [A.ids, upd_app]))
              case mwf => repeat (first | exact mwf_nil _ | refine mwf_upd ?_ (by simp [A.ids, O.ids, upd_app]))
              case mle => repeat (first | exact mle_nil _ | exact mle_refl _ | refine mle_upd ?_ (by first | rfl | (simp only [upd_app, killM_app, Nat.reduceEqDiff, reduceIte, wrap_succ (show k + 1 < 9223372036854775808 by omega)]; done)))
              case sle => repeat (first | exact sle_top _ | exact sle_refl _ | refine sle_upd ?_ (by first | rfl | (simp only [upd_app, entry_zero, entry_succ, Nat.reduceEqDiff, reduceIte, wrap_succ (show k + 1 < 9223372036854775808 by omega)]; done)))
    · intro hge
      simp only [decide_eq_false_iff_not, Int.ofNat_lt] at hge
      obtain rfl : k = l.length := by omega
      rw [List.take_length]
      repeat (first | refine W.seq ?_ | refine W.block ?_ | refine W.skip ?_ | refine W.exit ?_ | refine W.region tab_ok 0 (by decide) (exec_run (by simp only [exa, beq_self_eq_true, ByteArray.size, Nat.reduceAdd, Nat.reduceLeDiff, Nat.reduceEqDiff, Nat.reduceMul, Int.reduceToNat, reduceIte, Int.reduceLE, Int.reduceNeg]; rfl)) ?_)
      refine W.ret ⟨.inr rfl, by rfl, ?_⟩
      simp only [Try.f11, resA, resOne, toT, fin, exa, beq_self_eq_true, ByteArray.size, Nat.reduceAdd, Nat.reduceLeDiff, Nat.reduceEqDiff, Nat.reduceMul, Int.reduceToNat, reduceIte, Int.reduceLE, Int.reduceNeg]
end V
end Go.Proofs.Ytgaipdillmleeaa
end
section
/- The program's run and step, whole. -/
set_option linter.unusedVariables false
set_option linter.unusedSimpArgs false
namespace Go.Proofs.Ytgaipdillmleeaa
namespace V
open Go.RowKit AS
theorem insN_len (s : Nm) : ∀ L : List Nm, (insN s L).length ≤ L.length + 1
  | [] => by simp [insN]
  | t :: l => by
    unfold insN
    split
    · simp
    · split
      · simp
      · have := insN_len s l
        simp only [List.length_cons]; omega
theorem delN_len (s : Nm) (L : List Nm) : (delN s L).length ≤ L.length := List.length_filter_le _ _
mutual
theorem stepB_len : ∀ (x : Stmt) (L L' : List Nm), (stepB L x).1 = some L' → L'.length ≤ L.length + cntS x
  | ⟨k, n, ty, nm, es, th, el⟩, L, L', h => by
    have h1 := runB_len th L
    have h2 := runB_len el L
    simp only [stepB] at h
    simp only [cntS]
    split at h
    · cases h
    split at h
    · cases h
      split
      · have := delN_len (bs nm) L; omega
      · have := delN_len (bs nm) L; have := insN_len (bs nm) (delN (bs nm) L); omega
    split at h
    · cases h
      split
      · have := insN_len (headN es) L; omega
      · omega
    split at h
    · cases ha : (runB L th).1 with
      | none =>
        rw [ha] at h
        have h : (runB L el).1 = some L' := h
        have := h2 L' h
        omega
      | some LA =>
        have := h1 LA ha
        cases hb : (runB L el).1 with
        | none =>
          rw [ha, hb] at h
          cases h; omega
        | some LB =>
          rw [ha, hb] at h
          cases h
          have := List.length_filter_le (fun s => LB.contains s) LA
          omega
    split at h
    · cases h; omega
    split at h
    · cases h
    · cases h; omega
theorem runB_len : ∀ (l : List Stmt) (L L' : List Nm), (runB L l).1 = some L' → L'.length ≤ L.length + cntSs l
  | [], L, L', h => by
    simp only [runB] at h
    cases h
    simp only [cntSs]; omega
  | x :: l, L, L', h => by
    obtain ⟨o, ok, hs⟩ : ∃ o ok, stepB L x = (o, ok) := ⟨_, _, rfl⟩
    have h1 := stepB_len x L
    rw [runB_cons L x l hs] at h
    rw [hs] at h1
    simp only [cntSs]
    cases ok with
    | false => cases h
    | true =>
      rw [if_pos rfl] at h
      cases o with
      | none => cases l <;> cases h
      | some L1 =>
        have := h1 L1 rfl
        have := runB_len l L1 L' h
        omega
end
theorem sizeOf_mem_lt {x : Stmt} {l : List Stmt} (h : x ∈ l) : SizeOf.sizeOf x < SizeOf.sizeOf l := List.sizeOf_lt_of_mem h
theorem step_run : ∀ (n : Nat) (x : Stmt), SizeOf.sizeOf x ≤ n → SmS x → StepOk x := by
  intro n
  induction n using Nat.strongRecOn with
  | ind n ih =>
  rintro ⟨k, nn, ty, nm, es, th, el⟩ hn hS
  have hsz := Stmt.mk.sizeOf_spec k nn ty nm es th el
  have hS' := hS
  simp only [SmS] at hS'
  obtain ⟨s1, s2, s3, s4, s5, s6⟩ := hS'
  intro L j M b hM hj hL
  refine ⟨fun L' h => stepB_len _ L L' h, ?_⟩
  simp only [cntS] at hL
  exact step_of k nn ty nm es th el hS
    (fun L j M b hM hj hL => run_of th s3 (fun x hx => ih (SizeOf.sizeOf x) (by have := sizeOf_mem_lt hx; omega) x (Nat.le_refl _) (s4.mem hx)) L j M b hM hj hL)
    (fun L j M b hM hj hL => run_of el s5 (fun x hx => ih (SizeOf.sizeOf x) (by have := sizeOf_mem_lt hx; omega) x (Nat.le_refl _) (s6.mem hx)) L j M b hM hj hL)
    L (fun LT h => runB_len th L LT h) j M b hM hj (by omega)
theorem run_ok (l : List Stmt) (hl : l.length ≤ 1048576) (hS : SmSs l) (L : List Nm) (j : Nat) (M : Mem) (b : Nat) (hM : ∀ d, M (b + d) = none) (hj : M j = some (.names (some L))) (hL : L.length + cntSs l ≤ 1000000000000) :
    CallE Try.prog 12 [.map j, .c (.sl (l.map cStmt))] M [j] (resN (runB L l).1 (runB L l).2 j) (jnM M j (runB L l).1) :=
  run_of l hl (fun x hx => step_run _ x (Nat.le_refl _) (hS.mem hx)) L j M b hM hj hL
end V
end Go.Proofs.Ytgaipdillmleeaa
end
section
/- What the program's run comes to is what the document's sure comes to. -/
set_option linter.unusedVariables false
set_option linter.unusedSimpArgs false
namespace Go.Proofs.Ytgaipdillmleeaa
namespace AS
open V
def SameM (L H : List Nm) : Prop := ∀ s, s ∈ L ↔ s ∈ H
theorem SameM.has {L H : List Nm} (h : SameM L H) (s : Nm) : L.contains s = H.contains s := by
  rw [Bool.eq_iff_iff]; simpa using h s
mutual
theorem askB_same {L H : List Nm} (h : SameM L H) : ∀ x : Expr, askB L x = askB H x
  | ⟨k, n, nm, kids⟩ => by
    simp only [askB]
    rw [askBs_same h kids]; unfold hasB; rw [h.has]
theorem askBs_same {L H : List Nm} (h : SameM L H) : ∀ l : List Expr, askBs L l = askBs H l
  | [] => rfl
  | x :: l => by simp only [askBs]; rw [askB_same h x, askBs_same h l]
end
theorem SameM.ins {L H : List Nm} (h : SameM L H) (s : Nm) : SameM (insN s L) (delN s H ++ [s]) := fun t => by
  rw [mem_insN, List.mem_append, mem_delN, List.mem_singleton, h t]
  constructor
  · rintro (e | e)
    · exact .inr e
    · rcases Classical.em (t = s) with q | q
      · exact .inr q
      · exact .inl ⟨e, q⟩
  · rintro (⟨e, -⟩ | e)
    · exact .inr e
    · exact .inl e
theorem SameM.del {L H : List Nm} (h : SameM L H) (s : Nm) : SameM (delN s L) (delN s H) := fun t => by rw [mem_delN, mem_delN, h t]
theorem SameM.redecl {L H : List Nm} (h : SameM L H) (s : Nm) : SameM (insN s (delN s L)) (delN s H ++ [s]) := fun t => by
  rw [mem_insN, List.mem_append, mem_delN, mem_delN, List.mem_singleton, h t]
  exact Or.comm
theorem SameM.meet {L H A B : List Nm} (h : SameM L A) (k : SameM H B) : SameM (L.filter fun s => H.contains s) (A.filter fun s => B.contains s) := fun t => by
  rw [List.mem_filter, List.mem_filter, h t, k.has]
/-- How the two answers stand to one another. -/
structure Fit (a : Option (List Nm) × Bool) (b : Tr) : Prop where
  ok : a.2 = b.2.2
  ret : b.2.2 = true → (b.2.1 = true ↔ a.1 = none)
  same : b.2.2 = true → ∀ L, a.1 = some L → SameM L b.1
  nil : b.2.1 = true → b.1 = []
theorem Fit.bad {o : Option (List Nm)} : Fit (o, false) ([], false, false) := ⟨rfl, fun h => (Bool.noConfusion h), fun h => (Bool.noConfusion h), fun _ => rfl⟩
theorem Fit.some {L H : List Nm} (h : SameM L H) : Fit (.some L, true) (H, false, true) := ⟨rfl, fun _ => ⟨fun q => Bool.noConfusion q, fun q => by cases q⟩, fun _ L' e => by cases e; exact h, fun q => Bool.noConfusion q⟩
mutual
theorem step_fit : ∀ (x : Stmt) {L H : List Nm}, SameM L H → Fit (stepB L x) (oneR H x)
  | ⟨k, n, ty, nm, es, th, el⟩, L, H, h => by
    have h1 := run_fit th h
    have h2 := run_fit el h
    simp only [stepB, oneR]
    rw [askBs_same h]
    split
    · exact .bad
    split
    · split
      · exact .some (h.del _)
      · exact .some (h.redecl _)
    split
    · split
      · exact .some (h.ins _)
      · exact .some h
    split
    · obtain ⟨oa, ka, ha⟩ : ∃ o k, runB L th = (o, k) := ⟨_, _, rfl⟩
      obtain ⟨ob, kb, hb⟩ : ∃ o k, runB L el = (o, k) := ⟨_, _, rfl⟩
      obtain ⟨la, ra, ka', ha'⟩ : ∃ l r k, sureR H th = (l, r, k) := ⟨_, _, _, rfl⟩
      obtain ⟨lb, rb, kb', hb'⟩ : ∃ l r k, sureR H el = (l, r, k) := ⟨_, _, _, rfl⟩
      rw [ha, ha'] at h1
      rw [hb, hb'] at h2
      rw [ha, hb, ha', hb']
      obtain rfl : ka = ka' := h1.ok
      obtain rfl : kb = kb' := h2.ok
      cases ka
      · exact .bad
      cases kb
      · exact .bad
      have ea := h1.ret rfl
      have eb := h2.ret rfl
      cases oa with
      | none =>
        obtain rfl : ra = true := ea.2 rfl
        cases ob with
        | none =>
          obtain rfl : rb = true := eb.2 rfl
          exact ⟨rfl, fun _ => ⟨fun _ => rfl, fun _ => rfl⟩, fun _ L' q => (by cases q), fun _ => rfl⟩
        | some Lb =>
          cases rb with
          | true => cases eb.1 rfl
          | false => exact .some (h2.same rfl Lb rfl)
      | some La =>
        cases ra with
        | true => cases ea.1 rfl
        | false =>
          cases ob with
          | none =>
            obtain rfl : rb = true := eb.2 rfl
            exact .some (h1.same rfl La rfl)
          | some Lb =>
            cases rb with
            | true => cases eb.1 rfl
            | false => exact .some ((h1.same rfl La rfl).meet (h2.same rfl Lb rfl))
    split
    · have e := h1.ok
      refine ⟨e, fun _ => ⟨fun q => Bool.noConfusion q, fun q => by cases q⟩, fun _ L' q => by cases q; exact h, fun q => Bool.noConfusion q⟩
    split
    · exact ⟨rfl, fun _ => ⟨fun _ => rfl, fun _ => rfl⟩, fun _ L' q => (by cases q), fun _ => rfl⟩
    · exact .some h
theorem run_fit : ∀ (l : List Stmt) {L H : List Nm}, SameM L H → Fit (runB L l) (sureR H l)
  | [], L, H, h => by simp only [runB, sureR]; exact .some h
  | x :: l, L, H, h => by
    have h1 := step_fit x h
    obtain ⟨o, k, hs⟩ : ∃ o k, stepB L x = (o, k) := ⟨_, _, rfl⟩
    obtain ⟨H', r, k', hs'⟩ : ∃ H' r k, oneR H x = (H', r, k) := ⟨_, _, _, rfl⟩
    rw [hs, hs'] at h1
    rw [runB_cons L x l hs, sureR_cons H x l hs']
    obtain rfl : k = k' := h1.ok
    cases k with
    | false => exact .bad
    | true =>
      have e := h1.ret rfl
      rw [if_pos rfl, if_neg (by decide)]
      cases o with
      | none =>
        obtain rfl : r = true := e.2 rfl
        cases l with
        | nil => exact ⟨rfl, fun _ => ⟨fun _ => rfl, fun _ => rfl⟩, fun _ L' q => (by cases q), fun _ => rfl⟩
        | cons y l => exact .bad
      | some L' =>
        cases r with
        | true => cases e.1 rfl
        | false => exact run_fit l (h1.same rfl L' rfl)
end
abbrev Srt (L : List Nm) : Prop := L.Pairwise (· < ·)
mutual
theorem stepB_srt : ∀ (x : Stmt) {L : List Nm}, Srt L → ∀ L', (stepB L x).1 = some L' → Srt L'
  | ⟨k, n, ty, nm, es, th, el⟩, L, h, L', e => by
    have h1 := @runB_srt th L h
    have h2 := @runB_srt el L h
    simp only [stepB] at e
    split at e
    · cases e
    split at e
    · cases e
      split
      · exact h.filter _
      · exact insN_srt (h.filter _)
    split at e
    · cases e
      split
      · exact insN_srt h
      · exact h
    split at e
    · cases ha : (runB L th).1 with
      | none => rw [ha] at e; exact h2 L' e
      | some LA =>
        have := h1 LA ha
        cases hb : (runB L el).1 with
        | none => rw [ha, hb] at e; cases e; exact this
        | some LB => rw [ha, hb] at e; cases e; exact this.filter _
    split at e
    · cases e; exact h
    split at e
    · cases e
    · cases e; exact h
theorem runB_srt : ∀ (l : List Stmt) {L : List Nm}, Srt L → ∀ L', (runB L l).1 = some L' → Srt L'
  | [], L, h, L', e => by simp only [runB] at e; cases e; exact h
  | x :: l, L, h, L', e => by
    obtain ⟨o, k, hs⟩ : ∃ o k, stepB L x = (o, k) := ⟨_, _, rfl⟩
    have h1 := @stepB_srt x L h
    rw [hs] at h1
    rw [runB_cons L x l hs] at e
    cases k with
    | false => cases e
    | true =>
      rw [if_pos rfl] at e
      cases o with
      | none => cases l <;> cases e
      | some L1 => exact runB_srt l (h1 L1 rfl) L' e
end
theorem srt_nodup {L : List Nm} (h : Srt L) : L.Nodup := h.imp fun {a b} q e => by subst e; exact List.lt_irrefl _ q
theorem srt_eq {L H : List Nm} (h : Srt L) (k : Srt H) (e : SameM L H) : L = H := by
  have hp : L.Perm H := (List.perm_ext_iff_of_nodup (srt_nodup h) (srt_nodup k)).2 e
  refine List.Perm.eq_of_pairwise (le := (· < ·)) (fun a b _ _ h1 h2 => absurd (List.lt_trans h1 h2) (List.lt_irrefl _)) h k hp
abbrev L0 (hv : List Nm) : List Nm := putAll [] hv
theorem L0_srt (hv : List Nm) : Srt (L0 hv) := putAll_srt hv List.Pairwise.nil
theorem mem_L0 {hv : List Nm} {s : Nm} : s ∈ L0 hv ↔ s ∈ hv := by unfold L0; rw [mem_putAll]; simp
/-- What Sure hands back. -/
def outB (hv : List Nm) (body : List Stmt) : List Nm × Bool × Int := match runB (L0 hv) body with
  | (o, true) => (o.getD [], o.isNone, 0)
  | (_, false) => ([], false, 80)
def outR (hv : List Nm) (body : List Stmt) : List Nm × Bool × Int := match sureR (L0 hv) body with
  | (l, r, true) => (putAll [] l, r, 0)
  | (_, _, false) => ([], false, 80)
theorem out_same (hv : List Nm) (body : List Stmt) : outB hv body = outR hv body := by
  have h := run_fit body (L := L0 hv) (H := L0 hv) (fun _ => Iff.rfl)
  have hs := @runB_srt body (L0 hv) (L0_srt hv)
  obtain ⟨o, k, ho⟩ : ∃ o k, runB (L0 hv) body = (o, k) := ⟨_, _, rfl⟩
  obtain ⟨l, r, k', hr⟩ : ∃ l r k, sureR (L0 hv) body = (l, r, k) := ⟨_, _, _, rfl⟩
  rw [ho] at h hs
  rw [hr] at h
  unfold outB outR
  rw [ho, hr]
  obtain rfl : k = k' := h.ok
  cases k with
  | false => rfl
  | true =>
    have e := h.ret rfl
    cases o with
    | none =>
      obtain rfl : r = true := e.2 rfl
      obtain rfl : l = [] := h.nil rfl
      rfl
    | some L =>
      cases r with
      | true => cases e.1 rfl
      | false =>
        have : L = putAll [] l := srt_eq (hs L rfl) (putAll_srt l List.Pairwise.nil) (fun s => by rw [mem_putAll]; simpa using h.same rfl L rfl s)
        show (L, false, (0 : Int)) = (putAll [] l, false, 0)
        rw [this]
end AS
end Go.Proofs.Ytgaipdillmleeaa
end
section
/- Sure walked: the program's and the document's. -/
set_option linter.unusedVariables false
set_option linter.unusedSimpArgs false
namespace Go.Proofs.Ytgaipdillmleeaa
namespace V
open Go.RowKit AS
theorem keys_j (j : Nat) {o : O} (M : Mem) (b : Nat) (hM : ∀ d, M (b + d) = none) (hj : M j = some o) : CallE Try.prog 14 [.map j] M [] (.fn 21 [b + 1]) (upd M (b + 1) (some (.box 39 [.map j]))) := by
  refine (ok_eff tab_ok [] Try.func14 (by kernel_rfl) rfl rfl (by rfl) (by rfl) ?ids ?res ?sub ?wfm (fun hWF Rr hkeep => ?_))
  case ids => intro a ha i hi; simp at ha; subst ha; simp [A.ids] at hi; subst hi; simp [hj]
  case res => intro i hi; simp [A.ids] at hi; subst hi; rw [upd_same]; rfl
  case sub => exact fun j hj => live_upd j hj
  case wfm => exact fun hw => mwf_some hw (fun i hi => by simp [O.ids, A.ids] at hi; subst hi; exact live_upd _ (by rw [hj]; rfl))
  repeat (first | refine W.seq ?_ | refine W.block ?_ | refine W.skip ?_ | refine W.exit ?_ | refine W.region tab_ok b (by decide) (exec_run (by simp only [exa, beq_self_eq_true, ByteArray.size, Nat.reduceAdd, Nat.reduceLeDiff, Nat.reduceEqDiff, Nat.reduceMul, Int.reduceToNat, reduceIte, Int.reduceLE, Int.reduceNeg, hM]; rfl)) ?_)
  refine W.ret ⟨.inr rfl, by rfl, ?_, ?mle⟩
  simp only [Try.f14, resE, resOne, fin, toT, exa, beq_self_eq_true, ByteArray.size, Nat.reduceAdd, Nat.reduceLeDiff, Nat.reduceEqDiff, Nat.reduceMul, Int.reduceToNat, reduceIte, Int.reduceLE, Int.reduceNeg]
  case mle => exact mle_refl' rfl
theorem keys_n (M : Mem) (b : Nat) (hM : ∀ d, M (b + d) = none) : CallE Try.prog 14 [nilN] M [] (.fn 21 [b + 1]) (upd M (b + 1) (some (.box 39 [nilN]))) := by
  refine (ok_eff tab_ok [] Try.func14 (by kernel_rfl) rfl rfl (by rfl) (by rfl) ?ids ?res ?sub ?wfm (fun hWF Rr hkeep => ?_))
  case ids => intro a ha i hi; simp at ha; subst ha; simp [A.ids] at hi
  case res => intro i hi; simp [A.ids] at hi; subst hi; rw [upd_same]; rfl
  case sub => exact fun j hj => live_upd j hj
  case wfm => exact fun hw => mwf_some hw (fun i hi => by simp [O.ids, A.ids] at hi)
  repeat (first | refine W.seq ?_ | refine W.block ?_ | refine W.skip ?_ | refine W.exit ?_ | refine W.region tab_ok b (by decide) (exec_run (by simp only [exa, beq_self_eq_true, ByteArray.size, Nat.reduceAdd, Nat.reduceLeDiff, Nat.reduceEqDiff, Nat.reduceMul, Int.reduceToNat, reduceIte, Int.reduceLE, Int.reduceNeg, hM]; rfl)) ?_)
  refine W.ret ⟨.inr rfl, by rfl, ?_, ?mle⟩
  simp only [Try.f14, resE, resOne, fin, toT, exa, beq_self_eq_true, ByteArray.size, Nat.reduceAdd, Nat.reduceLeDiff, Nat.reduceEqDiff, Nat.reduceMul, Int.reduceToNat, reduceIte, Int.reduceLE, Int.reduceNeg]
  case mle => exact mle_refl' rfl
def resS (x : List Nm × Bool × Int) : A := .tup [(false, [.sl (cBs x.1)]), (false, [.bool x.2.1]), (false, [.int .i64 x.2.2])]
/-- What Sure asks of its arguments' sizes. -/
def Sized (hv : List Nm) (body : List Stmt) : Prop := hv.length + cntSs body ≤ 100000000 ∧ body.length ≤ 1048576 ∧ SmSs body
set_option maxHeartbeats 4000000 in
theorem sure_ok (hv : List Nm) (body : List Stmt) (hz : Sized hv body) (m : Mem) : COk Try.prog 7 [.c (.sl (cBs hv)), .c (.sl (body.map cStmt))] m (resS (outB hv body)) := by
  obtain ⟨z1, z2, z3⟩ := hz
  refine (ok_pure tab_ok Try.func7 (by kernel_rfl) rfl rfl (by rfl) (by rfl) (by rfl) (fun R hkeep => ?_) m)
  repeat (first | refine W.seq ?_ | refine W.block ?_ | refine W.skip ?_ | refine W.exit ?_ | refine W.region tab_ok 0 (by decide) (exec_run (by simp only [exa, beq_self_eq_true, ByteArray.size, Nat.reduceAdd, Nat.reduceLeDiff, Nat.reduceEqDiff, Nat.reduceMul, Int.reduceToNat, reduceIte, Int.reduceLE, Int.reduceNeg]; rfl)) ?_)
  refine W.mapNames 11 rfl ?_
  refine W.loop (ι := Nat) (fun k => ⟨upd (upd (upd (upd (upd (fun _ => .top) 1 (.c (.sl (body.map cStmt)))) 7 (.map 11)) 12 (.c (.sl (cBs hv)))) 13 (.c (.int .i64 hv.length))) 14 (.c (.int .i64 k)), upd Mem.nil 11 (some (.names (some (L0 (hv.take k)))))⟩)
    (fun k => k ≤ hv.length) (fun k => hv.length - k) 0 ?start (Nat.zero_le _) ?round
  case start =>
    refine le_mk ?sle ?mle ?swf ?mwf ?kept (by rfl)
    case kept => exact kept_not hkeep
    case swf => repeat (first | exact swf_top _ | refine swf_upd ?_ (by simp [A.ids, upd_app]))
    case mwf => repeat (first | exact mwf_nil _ | refine mwf_upd ?_ (by simp [A.ids, O.ids, upd_app]))
    case mle => repeat (first | exact mle_nil _ | exact mle_refl _ | refine mle_upd ?_ (by first | rfl | (simp only [upd_app, killM_app, Nat.reduceEqDiff, reduceIte, List.length_map, List.take_zero, putAll, L0]; done)))
    case sle => repeat (first | exact sle_top _ | exact sle_refl _ | refine sle_upd ?_ (by first | rfl | (simp only [upd_app, entry_zero, entry_succ, Nat.reduceEqDiff, reduceIte, List.length_map, List.take_zero, putAll, L0]; done)))
  case round =>
    intro k hk
    repeat (first | refine W.seq ?_ | refine W.block ?_ | refine W.skip ?_ | refine W.exit ?_ | refine W.region tab_ok 0 (by decide) (exec_run (by simp only [exa, beq_self_eq_true, ByteArray.size, Nat.reduceAdd, Nat.reduceLeDiff, Nat.reduceEqDiff, Nat.reduceMul, Int.reduceToNat, reduceIte, Int.reduceLE, Int.reduceNeg]; rfl)) ?_)
    refine W.cond rfl ?_ ?_
    · intro hlt
      simp only [decide_eq_true_eq, Int.ofNat_lt] at hlt
      obtain ⟨x, hx⟩ : ∃ x, hv[k]? = some x := ⟨_, List.getElem?_eq_getElem hlt⟩
      have htk : L0 (hv.take (k + 1)) = insN x (L0 (hv.take k)) := by unfold L0; rw [List.take_add_one, hx]; exact putAll_append _ _ _
      repeat (first | refine W.seq ?_ | refine W.block ?_ | refine W.skip ?_ | refine W.exit ?_ | refine W.region tab_ok 0 (by decide) (exec_run (by simp only [exa, beq_self_eq_true, ByteArray.size, Nat.reduceAdd, Nat.reduceLeDiff, Nat.reduceEqDiff, Nat.reduceMul, Int.reduceToNat, reduceIte, Int.reduceLE, Int.reduceNeg, List.length_map, hlt, at_map hx, cB]; rfl)) ?_)
      refine W.regionK tab_ok 0 (by decide) ?_
      refine runk_split 2 (by simp only [exa, beq_self_eq_true, ByteArray.size, Nat.reduceAdd, Nat.reduceLeDiff, Nat.reduceEqDiff, Nat.reduceMul, Int.reduceToNat, reduceIte, Int.reduceLE, Int.reduceNeg]; rfl) ?_
      refine runk_putN (s := ⟨x.toArray⟩) tab_ok rfl rfl rfl rfl rfl rfl rfl rfl rfl ?_
      refine runk_exec (by simp only [exa, beq_self_eq_true, ByteArray.size, Nat.reduceAdd, Nat.reduceLeDiff, Nat.reduceEqDiff, Nat.reduceMul, Int.reduceToNat, reduceIte, Int.reduceLE, Int.reduceNeg]; rfl) ?_
      repeat (first | refine W.seq ?_ | refine W.block ?_ | refine W.skip ?_ | refine W.exit ?_ | refine W.region tab_ok 0 (by decide) (exec_run (by simp only [exa, beq_self_eq_true, ByteArray.size, Nat.reduceAdd, Nat.reduceLeDiff, Nat.reduceEqDiff, Nat.reduceMul, Int.reduceToNat, reduceIte, Int.reduceLE, Int.reduceNeg]; rfl)) ?_)
      refine ⟨k + 1, hlt, by omega, ?_⟩
      rw [htk]
      simp only [bs_mk, upd_upd]
      refine le_mk ?sle ?mle ?swf ?mwf ?kept (by rfl)
      case kept => exact kept_not hkeep
      case swf => repeat (first | exact swf_top _ | refine swf_upd ?_ (by simp [A.ids, upd_app]))
      case mwf => repeat (first | exact mwf_nil _ | refine mwf_upd ?_ (by simp [A.ids, O.ids, upd_app]))
      case mle => repeat (first | exact mle_nil _ | exact mle_refl _ | refine mle_upd ?_ (by first | rfl | (simp only [upd_app, killM_app, Nat.reduceEqDiff, reduceIte, wrap_succ (show k + 1 < 9223372036854775808 by omega)]; done)))
      case sle => repeat (first | exact sle_top _ | exact sle_refl _ | refine sle_upd ?_ (by first | rfl | (simp only [upd_app, entry_zero, entry_succ, Nat.reduceEqDiff, reduceIte, wrap_succ (show k + 1 < 9223372036854775808 by omega)]; done)))
    · intro hge
      simp only [decide_eq_false_iff_not, Int.ofNat_lt] at hge
      obtain rfl : k = hv.length := by omega
      rw [List.take_length]
      have hlen := putAll_len hv []
      rw [List.length_nil] at hlen
      have hlen : (L0 hv).length ≤ hv.length := by have : (L0 hv).length ≤ 0 + hv.length := hlen; omega
      obtain ⟨o, ok, ho⟩ : ∃ o ok, runB (L0 hv) body = (o, ok) := ⟨_, _, rfl⟩
      have hr := run_ok body z2 z3 (L0 hv) 11 (upd Mem.nil 11 (some (.names (some (L0 hv))))) 50 (fun d => by rw [upd_ne _ _ (by omega)]; rfl) rfl (by omega)
      have hs := runB_srt body (L0_srt hv)
      have hl := runB_len body (L0 hv)
      rw [ho] at hr hs hl
      have hjn : jnM (upd Mem.nil 11 (some (.names (some (L0 hv))))) 11 o = upd Mem.nil 11 (some (.names o)) := kill_own (M := Mem.nil) (fun i o h => by cases h) rfl
      simp only [hjn, resN] at hr
      have hout : outB hv body = match (o, ok) with | (o, true) => (o.getD [], o.isNone, 0) | (_, false) => ([], false, 80) := by unfold outB; rw [ho] <;> rfl
      rw [hout]
      clear hout ho hjn
      repeat (first | refine W.seq ?_ | refine W.block ?_ | refine W.skip ?_ | refine W.exit ?_ | refine W.region tab_ok 0 (by decide) (exec_run (by simp only [exa, beq_self_eq_true, ByteArray.size, Nat.reduceAdd, Nat.reduceLeDiff, Nat.reduceEqDiff, Nat.reduceMul, Int.reduceToNat, reduceIte, Int.reduceLE, Int.reduceNeg]; rfl)) ?_)
      refine W.regionK tab_ok 0 (by decide) ?_
      refine runk_split 2 (by simp only [exa, beq_self_eq_true, ByteArray.size, Nat.reduceAdd, Nat.reduceLeDiff, Nat.reduceEqDiff, Nat.reduceMul, Int.reduceToNat, reduceIte, Int.reduceLE, Int.reduceNeg]; rfl) ?_
      refine runk_callE (D := [11]) rfl rfl rfl rfl rfl (fun u hu => nokeep hkeep) (by simp) (cvs_cons cv_refl (cvs_cons cv_refl cvs_nil)) hr ?_
      simp only [killL, putS, upd_upd]
      cases ok with
      | false =>
        cases o with
        | none =>
          skip
          refine runk_exec (by simp only [exa, beq_self_eq_true, ByteArray.size, Nat.reduceAdd, Nat.reduceLeDiff, Nat.reduceEqDiff, Nat.reduceMul, Int.reduceToNat, reduceIte, Int.reduceLE, Int.reduceNeg]; rfl) ?_
          repeat (first | refine W.seq ?_ | refine W.block ?_ | refine W.skip ?_ | refine W.exit ?_ | refine W.region tab_ok 0 (by decide) (exec_run (by simp only [exa, beq_self_eq_true, ByteArray.size, Nat.reduceAdd, Nat.reduceLeDiff, Nat.reduceEqDiff, Nat.reduceMul, Int.reduceToNat, reduceIte, Int.reduceLE, Int.reduceNeg]; rfl)) ?_)
          refine W.cond rfl (fun _ => ?_) (fun h => absurd h (by simp))
          repeat (first | refine W.seq ?_ | refine W.block ?_ | refine W.skip ?_ | refine W.exit ?_ | refine W.region tab_ok 0 (by decide) (exec_run (by simp only [exa, beq_self_eq_true, ByteArray.size, Nat.reduceAdd, Nat.reduceLeDiff, Nat.reduceEqDiff, Nat.reduceMul, Int.reduceToNat, reduceIte, Int.reduceLE, Int.reduceNeg]; rfl)) ?_)
          refine W.ret ⟨.inr rfl, by rfl, ?_⟩
          simp only [Try.f7, resA, resOne, toT, fin, exa, beq_self_eq_true, ByteArray.size, Nat.reduceAdd, Nat.reduceLeDiff, Nat.reduceEqDiff, Nat.reduceMul, Int.reduceToNat, reduceIte, Int.reduceLE, Int.reduceNeg, resS, List.map_nil]
        | some L =>
          skip
          refine runk_exec (by simp only [exa, beq_self_eq_true, ByteArray.size, Nat.reduceAdd, Nat.reduceLeDiff, Nat.reduceEqDiff, Nat.reduceMul, Int.reduceToNat, reduceIte, Int.reduceLE, Int.reduceNeg]; rfl) ?_
          repeat (first | refine W.seq ?_ | refine W.block ?_ | refine W.skip ?_ | refine W.exit ?_ | refine W.region tab_ok 0 (by decide) (exec_run (by simp only [exa, beq_self_eq_true, ByteArray.size, Nat.reduceAdd, Nat.reduceLeDiff, Nat.reduceEqDiff, Nat.reduceMul, Int.reduceToNat, reduceIte, Int.reduceLE, Int.reduceNeg]; rfl)) ?_)
          refine W.cond rfl (fun _ => ?_) (fun h => absurd h (by simp))
          repeat (first | refine W.seq ?_ | refine W.block ?_ | refine W.skip ?_ | refine W.exit ?_ | refine W.region tab_ok 0 (by decide) (exec_run (by simp only [exa, beq_self_eq_true, ByteArray.size, Nat.reduceAdd, Nat.reduceLeDiff, Nat.reduceEqDiff, Nat.reduceMul, Int.reduceToNat, reduceIte, Int.reduceLE, Int.reduceNeg]; rfl)) ?_)
          refine W.ret ⟨.inr rfl, by rfl, ?_⟩
          simp only [Try.f7, resA, resOne, toT, fin, exa, beq_self_eq_true, ByteArray.size, Nat.reduceAdd, Nat.reduceLeDiff, Nat.reduceEqDiff, Nat.reduceMul, Int.reduceToNat, reduceIte, Int.reduceLE, Int.reduceNeg, resS, List.map_nil]
      | true =>
        cases o with
        | none =>
          skip
          refine runk_exec (by simp only [exa, beq_self_eq_true, ByteArray.size, Nat.reduceAdd, Nat.reduceLeDiff, Nat.reduceEqDiff, Nat.reduceMul, Int.reduceToNat, reduceIte, Int.reduceLE, Int.reduceNeg]; rfl) ?_
          repeat (first | refine W.seq ?_ | refine W.block ?_ | refine W.skip ?_ | refine W.exit ?_ | refine W.region tab_ok 0 (by decide) (exec_run (by simp only [exa, beq_self_eq_true, ByteArray.size, Nat.reduceAdd, Nat.reduceLeDiff, Nat.reduceEqDiff, Nat.reduceMul, Int.reduceToNat, reduceIte, Int.reduceLE, Int.reduceNeg]; rfl)) ?_)
          refine W.cond rfl (fun h => absurd h (by simp)) (fun _ => ?_)
          (repeat (first | refine W.seq ?_ | refine W.block ?_ | refine W.skip ?_))
          refine W.regionK tab_ok 0 (by decide) ?_
          refine runk_split 1 (by simp only [exa, beq_self_eq_true, ByteArray.size, Nat.reduceAdd, Nat.reduceLeDiff, Nat.reduceEqDiff, Nat.reduceMul, Int.reduceToNat, reduceIte, Int.reduceLE, Int.reduceNeg]; rfl) ?_
          refine runk_callE (D := []) rfl rfl rfl rfl rfl (fun j hj => by simp at hj) (by simp) (cvs_cons cv_refl cvs_nil) (keys_n _ 50 (fun d => (upd_ne _ _ (by omega)).trans rfl)) ?_
          simp only [killL, putS, upd_upd]
          refine runk_split 0 (by simp only [exa, beq_self_eq_true, ByteArray.size, Nat.reduceAdd, Nat.reduceLeDiff, Nat.reduceEqDiff, Nat.reduceMul, Int.reduceToNat, reduceIte, Int.reduceLE, Int.reduceNeg]; rfl) ?_
          refine runk_call rfl rfl rfl rfl rfl (by simp) (cvs_cons cv_refl cvs_nil) (sortedNil_ok (q := 51) rfl) ?_
          refine runk_exec (by simp only [exa, beq_self_eq_true, ByteArray.size, Nat.reduceAdd, Nat.reduceLeDiff, Nat.reduceEqDiff, Nat.reduceMul, Int.reduceToNat, reduceIte, Int.reduceLE, Int.reduceNeg]; rfl) ?_
          refine W.ret ⟨.inr rfl, by rfl, ?_⟩
          simp only [Try.f7, resA, resOne, toT, fin, exa, beq_self_eq_true, ByteArray.size, Nat.reduceAdd, Nat.reduceLeDiff, Nat.reduceEqDiff, Nat.reduceMul, Int.reduceToNat, reduceIte, Int.reduceLE, Int.reduceNeg, resS, List.map_nil, Option.getD, Option.isNone]
        | some L =>
          have hL : L.length ≤ 1000000000000 := by have := hl L rfl; omega
          refine runk_exec (by simp only [exa, beq_self_eq_true, ByteArray.size, Nat.reduceAdd, Nat.reduceLeDiff, Nat.reduceEqDiff, Nat.reduceMul, Int.reduceToNat, reduceIte, Int.reduceLE, Int.reduceNeg]; rfl) ?_
          repeat (first | refine W.seq ?_ | refine W.block ?_ | refine W.skip ?_ | refine W.exit ?_ | refine W.region tab_ok 0 (by decide) (exec_run (by simp only [exa, beq_self_eq_true, ByteArray.size, Nat.reduceAdd, Nat.reduceLeDiff, Nat.reduceEqDiff, Nat.reduceMul, Int.reduceToNat, reduceIte, Int.reduceLE, Int.reduceNeg]; rfl)) ?_)
          refine W.cond rfl (fun h => absurd h (by simp)) (fun _ => ?_)
          (repeat (first | refine W.seq ?_ | refine W.block ?_ | refine W.skip ?_))
          refine W.regionK tab_ok 0 (by decide) ?_
          refine runk_split 1 (by simp only [exa, beq_self_eq_true, ByteArray.size, Nat.reduceAdd, Nat.reduceLeDiff, Nat.reduceEqDiff, Nat.reduceMul, Int.reduceToNat, reduceIte, Int.reduceLE, Int.reduceNeg]; rfl) ?_
          refine runk_callE (D := []) rfl rfl rfl rfl rfl (fun j hj => by simp at hj) (by simp) (cvs_cons cv_refl cvs_nil) (keys_j 11 _ 50 (fun d => (upd_ne _ _ (by omega)).trans rfl) rfl) ?_
          simp only [killL, putS, upd_upd]
          refine runk_split 0 (by simp only [exa, beq_self_eq_true, ByteArray.size, Nat.reduceAdd, Nat.reduceLeDiff, Nat.reduceEqDiff, Nat.reduceMul, Int.reduceToNat, reduceIte, Int.reduceLE, Int.reduceNeg]; rfl) ?_
          refine runk_call rfl rfl rfl rfl rfl (by simp) (cvs_cons cv_refl cvs_nil) (sortedN_ok (q := 51) (j := 11) rfl rfl (hs L rfl) hL) ?_
          refine runk_exec (by simp only [exa, beq_self_eq_true, ByteArray.size, Nat.reduceAdd, Nat.reduceLeDiff, Nat.reduceEqDiff, Nat.reduceMul, Int.reduceToNat, reduceIte, Int.reduceLE, Int.reduceNeg]; rfl) ?_
          refine W.ret ⟨.inr rfl, by rfl, ?_⟩
          simp only [Try.f7, resA, resOne, toT, fin, exa, beq_self_eq_true, ByteArray.size, Nat.reduceAdd, Nat.reduceLeDiff, Nat.reduceEqDiff, Nat.reduceMul, Int.reduceToNat, reduceIte, Int.reduceLE, Int.reduceNeg, resS, Option.getD, Option.isNone]
theorem one_run : ∀ (n : Nat) (x : Stmt), SizeOf.sizeOf x ≤ n → SmS x → ROk x := by
  intro n
  induction n using Nat.strongRecOn with
  | ind n ih =>
  rintro ⟨k, nn, ty, nm, es, th, el⟩ hn hS
  have hsz := Stmt.mk.sizeOf_spec k nn ty nm es th el
  have hS' := hS
  simp only [SmS] at hS'
  obtain ⟨s1, s2, s3, s4, s5, s6⟩ := hS'
  exact one_of k nn ty nm es th el hS
    (fun H hH m => sure_of th s3 (fun x hx => ih (SizeOf.sizeOf x) (by have := sizeOf_mem_lt hx; omega) x (Nat.le_refl _) (s4.mem hx)) H hH m)
    (fun H hH m => sure_of el s5 (fun x hx => ih (SizeOf.sizeOf x) (by have := sizeOf_mem_lt hx; omega) x (Nat.le_refl _) (s6.mem hx)) H hH m)
set_option maxHeartbeats 4000000 in
theorem refSure_ok (hv : List Nm) (body : List Stmt) (hz : Sized hv body) (m : Mem) : COk Try.prog 8 [.c (.sl (cBs hv)), .c (.sl (body.map cStmt))] m (resS (outB hv body)) := by
  rw [out_same]
  obtain ⟨z1, z2, z3⟩ := hz
  have hlen := putAll_len hv []
  rw [List.length_nil] at hlen
  have hs := sure_of body z2 (fun x hx => one_run _ x (Nat.le_refl _) (z3.mem hx)) (L0 hv) (by have : (L0 hv).length ≤ 0 + hv.length := hlen; omega)
  have hsl := sureR_len body (L0 hv)
  obtain ⟨l, r, ok, hr⟩ : ∃ l r k, sureR (L0 hv) body = (l, r, k) := ⟨_, _, _, rfl⟩
  rw [hr] at hs hsl
  simp only [resR] at hs
  have hsl : l.length ≤ (L0 hv).length + cntSs body := hsl
  have hlen : (L0 hv).length ≤ 0 + hv.length := hlen
  have hout : outR hv body = match (l, r, ok) with | (l, r, true) => (putAll [] l, r, 0) | (_, _, false) => ([], false, 80) := by unfold outR; rw [hr] <;> rfl
  rw [hout]
  refine (ok_pure tab_ok Try.func8 (by kernel_rfl) rfl rfl (by rfl) (by rfl) (by rfl) (fun R hkeep => ?_) m)
  repeat (first | refine W.seq ?_ | refine W.block ?_ | refine W.skip ?_ | refine W.exit ?_ | refine W.region tab_ok 0 (by decide) (exec_run (by simp only [exa, beq_self_eq_true, ByteArray.size, Nat.reduceAdd, Nat.reduceLeDiff, Nat.reduceEqDiff, Nat.reduceMul, Int.reduceToNat, reduceIte, Int.reduceLE, Int.reduceNeg]; rfl)) ?_)
  refine W.regionK tab_ok 0 (by decide) ?_
  refine runk_split 1 (by simp only [exa, beq_self_eq_true, ByteArray.size, Nat.reduceAdd, Nat.reduceLeDiff, Nat.reduceEqDiff, Nat.reduceMul, Int.reduceToNat, reduceIte, Int.reduceLE, Int.reduceNeg]; rfl) ?_
  refine runk_call rfl rfl rfl rfl rfl (by simp) (cvs_cons cv_refl cvs_nil) (sorted_ok hv (by omega) _) ?_
  refine runk_split 1 (by simp only [exa, beq_self_eq_true, ByteArray.size, Nat.reduceAdd, Nat.reduceLeDiff, Nat.reduceEqDiff, Nat.reduceMul, Int.reduceToNat, reduceIte, Int.reduceLE, Int.reduceNeg]; rfl) ?_
  refine runk_call rfl rfl rfl rfl rfl (by simp) (cvs_cons cv_refl (cvs_cons cv_refl cvs_nil)) (hs _) ?_
  refine runk_exec (by simp only [exa, beq_self_eq_true, ByteArray.size, Nat.reduceAdd, Nat.reduceLeDiff, Nat.reduceEqDiff, Nat.reduceMul, Int.reduceToNat, reduceIte, Int.reduceLE, Int.reduceNeg]; rfl) ?_
  repeat (first | refine W.seq ?_ | refine W.block ?_ | refine W.skip ?_ | refine W.exit ?_ | refine W.region tab_ok 0 (by decide) (exec_run (by simp only [exa, beq_self_eq_true, ByteArray.size, Nat.reduceAdd, Nat.reduceLeDiff, Nat.reduceEqDiff, Nat.reduceMul, Int.reduceToNat, reduceIte, Int.reduceLE, Int.reduceNeg]; rfl)) ?_)
  cases ok with
  | false =>
    skip
    refine W.cond rfl (fun _ => ?_) (fun h => absurd h (by simp))
    repeat (first | refine W.seq ?_ | refine W.block ?_ | refine W.skip ?_ | refine W.exit ?_ | refine W.region tab_ok 0 (by decide) (exec_run (by simp only [exa, beq_self_eq_true, ByteArray.size, Nat.reduceAdd, Nat.reduceLeDiff, Nat.reduceEqDiff, Nat.reduceMul, Int.reduceToNat, reduceIte, Int.reduceLE, Int.reduceNeg]; rfl)) ?_)
    refine W.ret ⟨.inr rfl, by rfl, ?_⟩
    simp only [Try.f8, resA, resOne, toT, fin, exa, beq_self_eq_true, ByteArray.size, Nat.reduceAdd, Nat.reduceLeDiff, Nat.reduceEqDiff, Nat.reduceMul, Int.reduceToNat, reduceIte, Int.reduceLE, Int.reduceNeg, resS, List.map_nil]
  | true =>
    skip
    refine W.cond rfl (fun h => absurd h (by simp)) (fun _ => ?_)
    repeat (first | refine W.seq ?_ | refine W.block ?_ | refine W.skip ?_ | refine W.exit ?_ | refine W.region tab_ok 0 (by decide) (exec_run (by simp only [exa, beq_self_eq_true, ByteArray.size, Nat.reduceAdd, Nat.reduceLeDiff, Nat.reduceEqDiff, Nat.reduceMul, Int.reduceToNat, reduceIte, Int.reduceLE, Int.reduceNeg]; rfl)) ?_)
    refine W.regionK tab_ok 0 (by decide) ?_
    refine runk_split 1 (by simp only [exa, beq_self_eq_true, ByteArray.size, Nat.reduceAdd, Nat.reduceLeDiff, Nat.reduceEqDiff, Nat.reduceMul, Int.reduceToNat, reduceIte, Int.reduceLE, Int.reduceNeg]; rfl) ?_
    refine runk_call rfl rfl rfl rfl rfl (by simp) (cvs_cons cv_refl cvs_nil) (sorted_ok l (by omega) _) ?_
    refine runk_exec (by simp only [exa, beq_self_eq_true, ByteArray.size, Nat.reduceAdd, Nat.reduceLeDiff, Nat.reduceEqDiff, Nat.reduceMul, Int.reduceToNat, reduceIte, Int.reduceLE, Int.reduceNeg]; rfl) ?_
    refine W.ret ⟨.inr rfl, by rfl, ?_⟩
    simp only [Try.f8, resA, resOne, toT, fin, exa, beq_self_eq_true, ByteArray.size, Nat.reduceAdd, Nat.reduceLeDiff, Nat.reduceEqDiff, Nat.reduceMul, Int.reduceToNat, reduceIte, Int.reduceLE, Int.reduceNeg, resS]
end V
end Go.Proofs.Ytgaipdillmleeaa
end
section
/- What the bound of an Upto statement says of statements: every list is that short, and there are no more. -/
set_option linter.unusedVariables false
set_option linter.unusedSimpArgs false
namespace Go.Proofs.Ytgaipdillmleeaa
namespace V
open Go.RowKit AS
section
variable {H : Type} {enc : TypeId × Value → H} {w : World} {held : Bool}
theorem bulk_one (d : DataW H) : 1 ≤ Rows.uptoBulk d := by
  cases d with
  | lit l => cases l <;> simp [Rows.uptoBulk]
  | _ => simp [Rows.uptoBulk]
theorem bulk_mem {d : DataW H} {l : List (DataW H)} (h : d ∈ l) : Rows.uptoBulk d ≤ Rows.uptoBulkAll l := by
  induction l with
  | nil => cases h
  | cons x r ih =>
    simp only [Rows.uptoBulkAll]
    rcases List.mem_cons.1 h with rfl | e
    · omega
    · have := ih e; omega
theorem bulk_len (l : List (DataW H)) : l.length ≤ Rows.uptoBulkAll l := by
  induction l with
  | nil => simp [Rows.uptoBulkAll]
  | cons x r ih => have := bulk_one x; simp only [Rows.uptoBulkAll, List.length_cons]; omega
theorem cells_same {b off : Nat} {cs cs' : List Value} (h : cellsAt w b off cs) (k : ∀ i, i < cs'.length → w.cell? ⟨b, off + i, none⟩ = cs'[i]?) (hl : cs.length = cs'.length) : cs = cs' := by
  refine List.ext_getElem? fun i => ?_
  by_cases hi : i < cs.length
  · have h1 := cellsAt_get h i _ (List.getElem?_eq_getElem hi)
    have h2 := k i (by omega)
    rw [List.getElem?_eq_getElem hi, ← h2, ← h1]
  · rw [List.getElem?_eq_none (by omega), List.getElem?_eq_none (by omega)]
theorem slice_bulk {α : Type} {P : Go.Program} {t e : TypeId} {sz fuel : Nat} {v : Value} {x : DataW H × List MemPlace} {R : List Value → α → Prop} {J : Nat → Prop} {l : List α} (ht : P.underlying t = some (.slice e)) (hsz : P.cellsOf e = sz) (hpos : 0 < sz)
    (hlen : ∀ cs y, R cs y → cs.length = sz) (h : DataW.trod enc P w 0 (fun _ => true) held fuel t [v] = some x) (hR : RSl sz R w J v l) :
    l.length ≤ Rows.uptoBulk x.1 ∧ ∀ y ∈ l, ∃ n cs z, R cs y ∧ DataW.trod enc P w 0 (fun _ => true) held n e cs = some z ∧ Rows.uptoBulk z.1 ≤ Rows.uptoBulk x.1 := by
  obtain ⟨a, n, cap, rfl, hn, -, -, hel⟩ := hR
  rcases DataW.trod_slice ht h with ⟨e1, rfl⟩ | ⟨a', len, cap', elems, rest, m, -, e1, hxe, -, -, -, hlen', hall, -, -⟩
  · simp only [List.cons.injEq, Value.slice.injEq, and_true] at e1
    obtain ⟨-, rfl, -⟩ := e1
    obtain rfl : l = [] := List.length_eq_zero_iff.1 hn
    exact ⟨Nat.zero_le _, fun y hy => by cases hy⟩
  · simp only [List.cons.injEq, Value.slice.injEq, and_true] at e1
    obtain ⟨rfl, rfl, rfl⟩ := e1
    subst hxe
    have hb : Rows.uptoBulkAll (elems.map (·.1)) ≤ Rows.uptoBulk (DataW.slice (elems.map (·.1)) (rest.map (·.1))) := by simp only [Rows.uptoBulk]; omega
    refine ⟨?_, fun y hy => ?_⟩
    · refine Nat.le_trans ?_ hb
      have := bulk_len (elems.map (·.1))
      rw [List.length_map] at this
      omega
    · obtain ⟨i, hi⟩ := List.getElem?_of_mem hy
      have hil := (List.getElem?_eq_some_iff.1 hi).1
      obtain ⟨b, off, cs, ea, -, hc, hr⟩ := hel i y hi
      cases ea
      have h1 := hall i (by omega)
      rw [hsz] at h1
      have hz : ∃ z, elems[i]? = some z := ⟨elems[i]'(by omega), List.getElem?_eq_getElem (by omega)⟩
      obtain ⟨z, hz⟩ := hz
      rw [hz] at h1
      cases hcell : w.cells? 0 ((⟨b, off, none⟩ : Addr).add (i * sz)) sz with
      | none => rw [hcell] at h1; simp at h1
      | some cs' =>
        rw [hcell] at h1
        have h1' : DataW.trod enc P w 0 (fun _ => true) held m e cs' = some z := by simpa using h1
        obtain ⟨_, hlen2, hcs⟩ := World.cells?_some hcell
        have : cs = cs' := cells_same hc (fun j hj => by
          have := hcs j (by omega)
          rw [← this]
          congr 1
          have h3 : ∀ (o k : Nat), (⟨b, o, none⟩ : Addr).add k = ⟨b, o + k, none⟩ := fun o k => by
            unfold Addr.add
            by_cases hk : k = 0
            · subst hk; rfl
            · simp [hk]
          rw [h3, h3]) (by rw [hlen _ _ hr, hlen2])
        subst this
        exact ⟨m, cs, z, hr, h1', Nat.le_trans (bulk_mem (List.mem_map_of_mem (List.mem_of_getElem? hz))) hb⟩
theorem struct_bulk {P : Go.Program} {t : TypeId} {fl : List (TypeId × Nat)} {fuel : Nat} {cs : List Value} {x : DataW H × List MemPlace}
    (hf : (P.underlying t).map (fun d => match d with | .struct fs => fs.toList.map (fun f => (f.type, f.offset)) | _ => []) = some fl) (hne : fl ≠ [])
    (h : DataW.trod enc P w 0 (fun _ => true) held fuel t cs = some x) : ∀ k ∈ fl, ∃ n y, DataW.trod enc P w 0 (fun _ => true) held n k.1 ((cs.drop k.2).take (P.cellsOf k.1)) = some y ∧ Rows.uptoBulk y.1 ≤ Rows.uptoBulk x.1 := by
  cases hu : P.underlying t with
  | none => rw [hu] at hf; simp at hf
  | some d =>
    rw [hu] at hf
    simp only [Option.map_some, Option.some.injEq] at hf
    cases d with
    | struct fs =>
      simp only at hf
      obtain ⟨xs, n, hfu, hxe, hl, hlen, hall⟩ := DataW.trod_struct hu h
      intro k hk
      rw [← hf] at hk
      obtain ⟨f, hfm, rfl⟩ := List.mem_map.1 hk
      obtain ⟨i, hi⟩ := List.mem_iff_getElem?.1 hfm
      have hi' : fs[i]? = some f := by rw [← Array.getElem?_toList]; exact hi
      have := hall i f hi'
      have hlt : i < xs.length := by
        rw [hlen]
        exact (Array.getElem?_eq_some_iff.1 hi').1
      refine ⟨n, xs[i], by simpa [List.getElem?_eq_getElem hlt] using this, ?_⟩
      have h1 : xs[i].1 ∈ xs.map (·.1) := List.mem_map_of_mem (List.getElem_mem hlt)
      have h2 := bulk_mem h1
      subst hxe
      simp only [Rows.uptoBulk]
      omega
    | _ => simp only at hf; exact absurd hf.symm hne
theorem smEs_of : ∀ {l : List Expr}, (∀ x ∈ l, SmE x) → SmEs l
  | [], _ => by simp only [SmEs]
  | x :: l, h => by simp only [SmEs]; exact ⟨h x (by simp), smEs_of fun y hy => h y (List.mem_cons_of_mem _ hy)⟩
theorem smSs_of : ∀ {l : List Stmt}, (∀ x ∈ l, SmS x) → SmSs l
  | [], _ => by simp only [SmSs]
  | x :: l, h => by simp only [SmSs]; exact ⟨h x (by simp), smSs_of fun y hy => h y (List.mem_cons_of_mem _ hy)⟩
theorem expr_small : ∀ (d n : Nat) (cs : List Value) (x : Expr) (z : DataW H × List MemPlace), RExpr d w (· < w.heap.size) cs x → DataW.trod enc Try.prog w 0 (fun _ => true) held n 34 cs = some z → Rows.uptoBulk z.1 ≤ 1048576 → SmE x
  | 0, _, _, _, _, h, _, _ => h.elim
  | d + 1, n, cs, ⟨k, nn, nm, kids⟩, z, ⟨kv, e1, _, _, _, h5⟩, h, hN => by
    subst e1
    obtain ⟨n3, y3, k3, b3⟩ := struct_bulk fieldsExpr (by simp) h (32, 3) (by simp)
    rw [cellsOf_one _ c_exprs _ _ _ rfl] at k3
    obtain ⟨l3, hall⟩ := slice_bulk Try.underlying32 c_expr (by decide) (fun cs y hy => by cases d with | zero => exact hy.elim | succ d => obtain ⟨_, rfl, -⟩ := hy; rfl) k3 h5
    simp only [SmE]
    refine ⟨Nat.le_trans l3 (Nat.le_trans b3 hN), smEs_of fun y hy => ?_⟩
    obtain ⟨n4, cs4, z4, q1, q2, q3⟩ := hall y hy
    exact expr_small d n4 cs4 y z4 q1 q2 (by omega)
theorem exprs_small {d n : Nat} {v : Value} {l : List Expr} {z : DataW H × List MemPlace} (h : RSl 4 (RExpr d w (· < w.heap.size)) w (· < w.heap.size) v l) (k : DataW.trod enc Try.prog w 0 (fun _ => true) held n 32 [v] = some z) (hN : Rows.uptoBulk z.1 ≤ 1048576) : l.length ≤ 1048576 ∧ SmEs l := by
  obtain ⟨l3, hall⟩ := slice_bulk Try.underlying32 c_expr (by decide) (fun cs y hy => by cases d with | zero => exact hy.elim | succ d => obtain ⟨_, rfl, -⟩ := hy; rfl) k h
  refine ⟨by omega, smEs_of fun y hy => ?_⟩
  obtain ⟨n4, cs4, z4, q1, q2, q3⟩ := hall y hy
  exact expr_small d n4 cs4 y z4 q1 q2 (by omega)
theorem sum_le {α β : Type} (f : α → Nat) (g : β → Nat) : ∀ (l : List α) (e : List β), l.length ≤ e.length → (∀ (i : Nat) x y, l[i]? = some x → e[i]? = some y → f x ≤ g y) → (l.map f).sum ≤ (e.map g).sum
  | [], _, _, _ => by simp
  | x :: l, [], h, _ => by simp at h
  | x :: l, y :: e, h, hp => by
    have h1 := hp 0 x y rfl rfl
    have h2 := sum_le f g l e (by simpa using h) (fun i a b ha hb => hp (i + 1) a b (by simpa using ha) (by simpa using hb))
    simp only [List.map_cons, List.sum_cons]
    omega
theorem bulk_sum : ∀ l : List (DataW H), Rows.uptoBulkAll l = (l.map Rows.uptoBulk).sum
  | [] => by simp [Rows.uptoBulkAll]
  | x :: l => by simp [Rows.uptoBulkAll, bulk_sum l]
/-- .. what is counted element by element. -/
theorem slice_sum {α : Type} {P : Go.Program} {t e : TypeId} {sz fuel : Nat} {v : Value} {x : DataW H × List MemPlace} {R : List Value → α → Prop} {J : Nat → Prop} {l : List α} (cnt : α → Nat) (ht : P.underlying t = some (.slice e)) (hsz : P.cellsOf e = sz) (hpos : 0 < sz)
    (hlen : ∀ cs y, R cs y → cs.length = sz) (h : DataW.trod enc P w 0 (fun _ => true) held fuel t [v] = some x) (hR : RSl sz R w J v l) (hc : ∀ y ∈ l, ∀ n cs z, R cs y → DataW.trod enc P w 0 (fun _ => true) held n e cs = some z → cnt y ≤ Rows.uptoBulk z.1) :
    (l.map cnt).sum + 1 ≤ Rows.uptoBulk x.1 := by
  obtain ⟨a, n, cap, rfl, hn, -, -, hel⟩ := hR
  rcases DataW.trod_slice ht h with ⟨e1, rfl⟩ | ⟨a', len, cap', elems, rest, m, -, e1, hxe, -, -, -, hlen', hall, -, -⟩
  · simp only [List.cons.injEq, Value.slice.injEq, and_true] at e1
    obtain ⟨-, rfl, -⟩ := e1
    obtain rfl : l = [] := List.length_eq_zero_iff.1 hn
    have := bulk_one (H := H) DataW.nil
    simpa using this
  · simp only [List.cons.injEq, Value.slice.injEq, and_true] at e1
    obtain ⟨rfl, rfl, rfl⟩ := e1
    subst hxe
    have hb : Rows.uptoBulkAll (elems.map (·.1)) + 1 ≤ Rows.uptoBulk (DataW.slice (elems.map (·.1)) (rest.map (·.1))) := by simp only [Rows.uptoBulk]; omega
    refine Nat.le_trans (Nat.succ_le_succ ?_) hb
    rw [bulk_sum, List.map_map]
    refine sum_le cnt _ l elems (by omega) fun i y z hi hz => ?_
    have hil := (List.getElem?_eq_some_iff.1 hi).1
    obtain ⟨b, off, cs, ea, -, hcc, hr⟩ := hel i y hi
    cases ea
    have h1 := hall i (by omega)
    rw [hsz, hz] at h1
    cases hcell : w.cells? 0 ((⟨b, off, none⟩ : Addr).add (i * sz)) sz with
    | none => rw [hcell] at h1; simp at h1
    | some cs' =>
      rw [hcell] at h1
      have h1' : DataW.trod enc P w 0 (fun _ => true) held m e cs' = some z := by simpa using h1
      obtain ⟨_, hlen2, hcs⟩ := World.cells?_some hcell
      have : cs = cs' := cells_same hcc (fun j hj => by
        have := hcs j (by omega)
        rw [← this]
        congr 1
        have h3 : ∀ (o k : Nat), (⟨b, o, none⟩ : Addr).add k = ⟨b, o + k, none⟩ := fun o k => by
          unfold Addr.add
          by_cases hk : k = 0
          · subst hk; rfl
          · simp [hk]
        rw [h3, h3]) (by rw [hlen _ _ hr, hlen2])
      subst this
      exact hc y (List.mem_of_getElem? hi) m cs z hr h1'
theorem two_le {a b : Nat} (hab : a < b) : ∀ {l : List (DataW H)} {x y : DataW H}, l[a]? = some x → l[b]? = some y → Rows.uptoBulk x + Rows.uptoBulk y ≤ Rows.uptoBulkAll l
  | l, x, y, ha, hb => by
    induction l generalizing a b with
    | nil => simp at ha
    | cons z l ih =>
      simp only [Rows.uptoBulkAll]
      cases a with
      | zero =>
        cases ha
        cases b with
        | zero => omega
        | succ b =>
          have := bulk_mem (List.mem_of_getElem? (by simpa using hb : l[b]? = some y))
          omega
      | succ a =>
        cases b with
        | zero => omega
        | succ b =>
          have := ih (a := a) (b := b) (by omega) (by simpa using ha) (by simpa using hb)
          omega
theorem struct_two {P : Go.Program} {t : TypeId} {fl : List (TypeId × Nat)} {fuel : Nat} {cs : List Value} {x : DataW H × List MemPlace} {a b : Nat} (hab : a < b) {ka kb : TypeId × Nat}
    (hf : (P.underlying t).map (fun d => match d with | .struct fs => fs.toList.map (fun f => (f.type, f.offset)) | _ => []) = some fl) (ha : fl[a]? = some ka) (hb : fl[b]? = some kb)
    (h : DataW.trod enc P w 0 (fun _ => true) held fuel t cs = some x) : ∃ n y z, DataW.trod enc P w 0 (fun _ => true) held n ka.1 ((cs.drop ka.2).take (P.cellsOf ka.1)) = some y ∧ DataW.trod enc P w 0 (fun _ => true) held n kb.1 ((cs.drop kb.2).take (P.cellsOf kb.1)) = some z ∧ Rows.uptoBulk y.1 + Rows.uptoBulk z.1 + 1 ≤ Rows.uptoBulk x.1 := by
  cases hu : P.underlying t with
  | none => rw [hu] at hf; simp at hf
  | some d =>
    rw [hu] at hf
    simp only [Option.map_some, Option.some.injEq] at hf
    cases d with
    | struct fs =>
      simp only at hf
      obtain ⟨xs, n, hfu, hxe, hl, hlen, hall⟩ := DataW.trod_struct hu h
      have one : ∀ {i : Nat} {k : TypeId × Nat}, fl[i]? = some k → ∃ y, xs[i]? = some y ∧ DataW.trod enc P w 0 (fun _ => true) held n k.1 ((cs.drop k.2).take (P.cellsOf k.1)) = some y := fun {i k} hk => by
        rw [← hf, List.getElem?_map] at hk
        cases hfi : fs.toList[i]? with
        | none => rw [hfi] at hk; cases hk
        | some f =>
          rw [hfi] at hk
          cases hk
          have hi' : fs[i]? = some f := by rw [← Array.getElem?_toList]; exact hfi
          have := hall i f hi'
          have hlt : i < xs.length := by rw [hlen]; exact (Array.getElem?_eq_some_iff.1 hi').1
          exact ⟨xs[i], List.getElem?_eq_getElem hlt, by simpa [List.getElem?_eq_getElem hlt] using this⟩
      obtain ⟨y, hy, ty⟩ := one ha
      obtain ⟨z, hz, tz⟩ := one hb
      refine ⟨n, y, z, ty, tz, ?_⟩
      have := two_le hab (l := xs.map (·.1)) (x := y.1) (y := z.1) (by rw [List.getElem?_map, hy]; rfl) (by rw [List.getElem?_map, hz]; rfl)
      subst hxe
      simp only [Rows.uptoBulk]
      omega
    | _ => simp only at hf; subst hf; simp at ha
theorem cntSs_sum : ∀ l : List Stmt, cntSs l = (l.map cntS).sum
  | [] => by simp [cntSs]
  | x :: l => by simp only [cntSs, List.map_cons, List.sum_cons, cntSs_sum l]
theorem stmt_small : ∀ (d n : Nat) (cs : List Value) (x : Stmt) (z : DataW H × List MemPlace), RStmt d w (· < w.heap.size) cs x → DataW.trod enc Try.prog w 0 (fun _ => true) held n 36 cs = some z → (Rows.uptoBulk z.1 ≤ 1048576 → SmS x) ∧ cntS x ≤ Rows.uptoBulk z.1
  | 0, _, _, _, _, h, _ => h.elim
  | d + 1, n, cs, ⟨k, nn, ty, nm, es, th, el⟩, z, ⟨ev, tv, fv, e1, _, _, _, _, h6, h7, h8⟩, h => by
    subst e1
    have hlen : ∀ cs y, RStmt d w (· < w.heap.size) cs y → cs.length = 7 := fun cs y hy => by cases d with | zero => exact hy.elim | succ d => obtain ⟨_, _, _, rfl, -⟩ := hy; rfl
    obtain ⟨n4, y4, k4, b4⟩ := struct_bulk fieldsStmt (by simp) h (32, 4) (by simp)
    obtain ⟨n5, y5, y6, k5, k6, b56⟩ := struct_two (a := 5) (b := 6) (by decide) fieldsStmt rfl rfl h
    rw [cellsOf_one _ c_exprs _ _ _ rfl] at k4
    rw [cellsOf_one _ c_stmts _ _ _ rfl] at k5 k6
    obtain ⟨l5, a5⟩ := slice_bulk Try.underlying23 c_stmt (by decide) hlen k5 h7
    obtain ⟨l6, a6⟩ := slice_bulk Try.underlying23 c_stmt (by decide) hlen k6 h8
    have l5 : th.length ≤ Rows.uptoBulk y5.1 := l5
    have l6 : el.length ≤ Rows.uptoBulk y6.1 := l6
    constructor
    · intro hN
      obtain ⟨q1, q2⟩ := exprs_small h6 k4 (Nat.le_trans b4 hN)
      simp only [SmS]
      refine ⟨q1, q2, by omega, smSs_of fun y hy => ?_, by omega, smSs_of fun y hy => ?_⟩
      · obtain ⟨n7, cs7, z7, r1, r2, r3⟩ := a5 y hy
        exact (stmt_small d n7 cs7 y z7 r1 r2).1 (by omega)
      · obtain ⟨n7, cs7, z7, r1, r2, r3⟩ := a6 y hy
        exact (stmt_small d n7 cs7 y z7 r1 r2).1 (by omega)
    · have c5 : (th.map cntS).sum + 1 ≤ Rows.uptoBulk y5.1 := slice_sum cntS Try.underlying23 c_stmt (by decide) hlen k5 h7 (fun y _ n cs z hr ht => (stmt_small d n cs y z hr ht).2)
      have c6 : (el.map cntS).sum + 1 ≤ Rows.uptoBulk y6.1 := slice_sum cntS Try.underlying23 c_stmt (by decide) hlen k6 h8 (fun y _ n cs z hr ht => (stmt_small d n cs y z hr ht).2)
      simp only [cntS, cntSs_sum]
      omega
theorem stmts_small {d n : Nat} {v : Value} {l : List Stmt} {z : DataW H × List MemPlace} (h : RStmts d w (· < w.heap.size) v l) (k : DataW.trod enc Try.prog w 0 (fun _ => true) held n 23 [v] = some z) (hN : Rows.uptoBulk z.1 ≤ 1048576) : l.length ≤ 1048576 ∧ SmSs l ∧ cntSs l ≤ 1048576 := by
  have hlen : ∀ cs y, RStmt d w (· < w.heap.size) cs y → cs.length = 7 := fun cs y hy => by cases d with | zero => exact hy.elim | succ d => obtain ⟨_, _, _, rfl, -⟩ := hy; rfl
  obtain ⟨l5, a5⟩ := slice_bulk Try.underlying23 c_stmt (by decide) hlen k h
  have c5 := slice_sum cntS Try.underlying23 c_stmt (by decide) hlen k h (fun y _ n cs z hr ht => (stmt_small d n cs y z hr ht).2)
  rw [← cntSs_sum] at c5
  refine ⟨by omega, smSs_of fun y hy => ?_, by omega⟩
  obtain ⟨n7, cs7, z7, r1, r2, r3⟩ := a5 y hy
  exact (stmt_small d n7 cs7 y z7 r1 r2).1 (by omega)
theorem strs_small {n : Nat} {v : Value} {l : List ByteArray} {z : DataW H × List MemPlace} (h : RSl 1 RStr w (· < w.heap.size) v l) (k : DataW.trod enc Try.prog w 0 (fun _ => true) held n 22 [v] = some z) (hN : Rows.uptoBulk z.1 ≤ 1048576) : l.length ≤ 1048576 := by
  obtain ⟨l5, -⟩ := slice_bulk Try.underlying22 c_string (by decide) (fun cs y hy => by obtain ⟨rfl, -⟩ := hy; rfl) k h
  omega
end
theorem rv_stmts {B : Nat → Value} {w : World} {d : Nat} {v : Value} {l : List Stmt} (h : RStmts d w (· < w.heap.size) v l) : RV B w (fun b _ => b < w.heap.size) (.c (.sl (l.map cStmt))) v :=
  rsl_rc (fun _ _ h => h) (fun _ _ _ h => stmt_rcs (fun _ _ h => h) d h) h
def cStr8 (s : ByteArray) : List C := [.str s]
theorem rv_strs {B : Nat → Value} {w : World} {v : Value} {l : List ByteArray} (h : RSl 1 RStr w (· < w.heap.size) v l) : RV B w (fun b _ => b < w.heap.size) (.c (.sl (cBs (l.map bs)))) v := by
  have : cBs (l.map bs) = l.map cStr8 := by
    unfold cBs
    rw [List.map_map]
    refine List.map_congr_left fun s _ => ?_
    simp [cB, cStr8, bs]
  rw [this]
  exact rsl_rc (sz := 1) (fun _ _ h => h) (fun cs x _ hx => by obtain ⟨rfl, hw⟩ := hx; exact ⟨rfl, .str hw, trivial⟩) h
end V
end Go.Proofs.Ytgaipdillmleeaa
end
section
/- The laws of layer 08 in plain words. -/
set_option linter.unusedVariables false
set_option linter.unusedSimpArgs false
namespace Go.Proofs.Ytgaipdillmleeaa
namespace AS
open V
def SubM (L H : List Nm) : Prop := ∀ s, s ∈ L → s ∈ H
theorem SubM.has {L H : List Nm} (h : SubM L H) {s : Nm} (k : L.contains s = true) : H.contains s = true := by simpa using h s (by simpa using k)
mutual
theorem askB_more {L H : List Nm} (h : SubM L H) : ∀ x : Expr, askB L x = true → askB H x = true
  | ⟨k, n, nm, kids⟩, e => by
    simp only [askB, Bool.and_eq_true, Bool.or_eq_true] at e ⊢
    exact ⟨e.1.imp id (fun q => h.has q), askBs_more h kids e.2⟩
theorem askBs_more {L H : List Nm} (h : SubM L H) : ∀ l : List Expr, askBs L l = true → askBs H l = true
  | [], _ => rfl
  | x :: l, e => by
    simp only [askBs, Bool.and_eq_true] at e ⊢
    exact ⟨askB_more h x e.1, askBs_more h l e.2⟩
end
/-- With more that have a value: no error is new, no fewer have one. -/
structure More (a b : Option (List Nm) × Bool) : Prop where
  ok : a.2 = true → b.2 = true
  nil : a.2 = true → (a.1 = none ↔ b.1 = none)
  sub : a.2 = true → ∀ L H, a.1 = some L → b.1 = some H → SubM L H
theorem More.bad {o : Option (List Nm)} {b} : More (o, false) b := ⟨fun h => Bool.noConfusion h, fun h => Bool.noConfusion h, fun h => Bool.noConfusion h⟩
theorem More.some {L H : List Nm} (h : SubM L H) : More (.some L, true) (.some H, true) := ⟨fun _ => rfl, fun _ => ⟨fun q => (by cases q), fun q => (by cases q)⟩, fun _ L' H' e f => by cases e; cases f; exact h⟩
theorem More.none : More (.none, true) (.none, true) := ⟨fun _ => rfl, fun _ => ⟨fun _ => rfl, fun _ => rfl⟩, fun _ L' H' e => (by cases e)⟩
theorem SubM.ins {L H : List Nm} (h : SubM L H) (s : Nm) : SubM (insN s L) (insN s H) := fun t => by rw [mem_insN, mem_insN]; exact fun e => e.imp id (h t)
theorem SubM.del {L H : List Nm} (h : SubM L H) (s : Nm) : SubM (delN s L) (delN s H) := fun t => by rw [mem_delN, mem_delN]; exact fun e => ⟨h t e.1, e.2⟩
theorem SubM.meet {L H A B : List Nm} (h : SubM L A) (k : SubM H B) : SubM (L.filter fun s => H.contains s) (A.filter fun s => B.contains s) := fun t => by
  rw [List.mem_filter, List.mem_filter]; exact fun e => ⟨h t e.1, k.has e.2⟩
mutual
theorem step_more : ∀ (x : Stmt) {L H : List Nm}, SubM L H → More (stepB L x) (stepB H x)
  | ⟨k, n, ty, nm, es, th, el⟩, L, H, h => by
    have h1 := run_more th h
    have h2 := run_more el h
    simp only [stepB]
    cases ha : askBs L (asksB k es) with
    | false => exact .bad
    | true =>
      rw [askBs_more h _ ha, if_neg (by decide)]
      split
      · split
        · exact .some (h.del _)
        · exact .some ((h.del _).ins _)
      split
      · split
        · exact .some (h.ins _)
        · exact .some h
      split
      · obtain ⟨oa, ka, ha⟩ : ∃ o k, runB L th = (o, k) := ⟨_, _, rfl⟩
        obtain ⟨ob, kb, hb⟩ : ∃ o k, runB L el = (o, k) := ⟨_, _, rfl⟩
        obtain ⟨oa', ka', ha'⟩ : ∃ o k, runB H th = (o, k) := ⟨_, _, rfl⟩
        obtain ⟨ob', kb', hb'⟩ : ∃ o k, runB H el = (o, k) := ⟨_, _, rfl⟩
        rw [ha, ha'] at h1
        rw [hb, hb'] at h2
        rw [ha, hb, ha', hb']
        cases ka
        · exact .bad
        cases kb
        · exact .bad
        obtain rfl : ka' = true := h1.ok rfl
        obtain rfl : kb' = true := h2.ok rfl
        have e1 := h1.nil rfl
        have e2 := h2.nil rfl
        cases oa with
        | none =>
          obtain rfl : oa' = .none := e1.1 rfl
          cases ob with
          | none => obtain rfl : ob' = .none := e2.1 rfl; exact .none
          | some Lb =>
            cases ob' with
            | none => cases e2.2 rfl
            | some Hb => exact .some (h2.sub rfl Lb Hb rfl rfl)
        | some La =>
          cases oa' with
          | none => cases e1.2 rfl
          | some Ha =>
            cases ob with
            | none => obtain rfl : ob' = .none := e2.1 rfl; exact .some (h1.sub rfl La Ha rfl rfl)
            | some Lb =>
              cases ob' with
              | none => cases e2.2 rfl
              | some Hb => exact .some ((h1.sub rfl La Ha rfl rfl).meet (h2.sub rfl Lb Hb rfl rfl))
      split
      · cases hk : (runB L th).2 with
        | false => exact .bad
        | true => rw [h1.ok hk]; exact .some h
      split
      · exact .none
      · exact .some h
theorem run_more : ∀ (l : List Stmt) {L H : List Nm}, SubM L H → More (runB L l) (runB H l)
  | [], L, H, h => by simp only [runB]; exact .some h
  | x :: l, L, H, h => by
    have h1 := step_more x h
    obtain ⟨o, k, hs⟩ : ∃ o k, stepB L x = (o, k) := ⟨_, _, rfl⟩
    obtain ⟨o', k', hs'⟩ : ∃ o k, stepB H x = (o, k) := ⟨_, _, rfl⟩
    rw [hs, hs'] at h1
    rw [runB_cons L x l hs, runB_cons H x l hs']
    cases k with
    | false => exact .bad
    | true =>
      obtain rfl : k' = true := h1.ok rfl
      rw [if_pos rfl, if_pos rfl]
      have e := h1.nil rfl
      cases o with
      | none =>
        obtain rfl : o' = .none := e.1 rfl
        cases l with
        | nil => exact .none
        | cons y l => exact .bad
      | some L1 =>
        cases o' with
        | none => cases e.2 rfl
        | some H1 => exact run_more l (h1.sub rfl L1 H1 rfl rfl)
end
/-- AssignMore, plain. -/
theorem out_more (hv mr : List Nm) (body : List Stmt) (h : (outB hv body).2.2 = 0) : (outB (hv ++ mr) body).2.2 = 0 ∧ (outB hv body).2.1 = (outB (hv ++ mr) body).2.1 ∧ ∀ v ∈ (outB hv body).1, v ∈ (outB (hv ++ mr) body).1 := by
  have hm := run_more body (L := L0 hv) (H := L0 (hv ++ mr)) (fun s => by rw [mem_L0, mem_L0]; exact fun e => List.mem_append_left _ e)
  obtain ⟨o, k, hs⟩ : ∃ o k, runB (L0 hv) body = (o, k) := ⟨_, _, rfl⟩
  obtain ⟨o', k', hs'⟩ : ∃ o k, runB (L0 (hv ++ mr)) body = (o, k) := ⟨_, _, rfl⟩
  rw [hs, hs'] at hm
  unfold outB at h ⊢
  rw [hs] at h ⊢
  rw [hs']
  cases k with
  | false => cases h
  | true =>
    obtain rfl : k' = true := hm.ok rfl
    have e := hm.nil rfl
    refine ⟨rfl, ?_, ?_⟩
    · cases o with
      | none => obtain rfl : o' = .none := e.1 rfl; rfl
      | some L1 =>
        cases o' with
        | none => cases e.2 rfl
        | some H1 => rfl
    · cases o with
      | none => intro v hv; cases hv
      | some L1 =>
        cases o' with
        | none => cases e.2 rfl
        | some H1 => exact hm.sub rfl L1 H1 rfl rfl
theorem run_append : ∀ (l1 l2 : List Stmt) (L : List Nm), runB L (l1 ++ l2) = match runB L l1 with
    | (_, false) => (none, false)
    | (none, true) => (match l2 with | [] => (none, true) | _ :: _ => (none, false))
    | (some L', true) => runB L' l2
  | [], l2, L => by simp only [runB, List.nil_append]
  | x :: l1, l2, L => by
    obtain ⟨o, k, hs⟩ : ∃ o k, stepB L x = (o, k) := ⟨_, _, rfl⟩
    rw [List.cons_append, runB_cons L x _ hs, runB_cons L x l1 hs]
    cases k with
    | false => rfl
    | true =>
      rw [if_pos rfl, if_pos rfl]
      cases o with
      | none => cases l1 <;> cases l2 <;> rfl
      | some L1 => exact run_append l1 l2 L1
theorem L0_same {L : List Nm} (h : Srt L) : L0 L = L := srt_eq (L0_srt L) h (fun s => mem_L0)
/-- AssignParts, plain. -/
theorem out_parts (hv : List Nm) (l1 l2 : List Stmt) : outB hv (l1 ++ l2) =
    if (outB hv l1).2.2 ≠ 0 ∨ ((outB hv l1).2.1 = true ∧ l2 ≠ []) then ([], false, 80) else if (outB hv l1).2.1 = true then outB hv l1 else outB (outB hv l1).1 l2 := by
  have hs := runB_srt l1 (L0_srt hv)
  unfold outB
  rw [run_append]
  obtain ⟨o, k, hr⟩ : ∃ o k, runB (L0 hv) l1 = (o, k) := ⟨_, _, rfl⟩
  rw [hr] at hs ⊢
  cases k with
  | false => rfl
  | true =>
    cases o with
    | none =>
      cases l2 with
      | nil => rfl
      | cons y l2 => simp
    | some L' =>
      have e := L0_same (hs L' rfl)
      dsimp only [Option.getD, Option.isNone]
      rw [if_neg (by simp), if_neg (by simp), e]
/-- AssignLoop, plain. -/
theorem out_loop (hv : List Nm) (body : List Stmt) (nm ty nm' : ByteArray) (n : Int) : outB hv [⟨4, n, ty, nm, [⟨1, 1, nm', []⟩], body, []⟩] = if (outB hv body).2.2 = 0 then (L0 hv, false, 0) else ([], false, 80) := by
  unfold outB
  have : runB (L0 hv) [⟨4, n, ty, nm, [⟨1, 1, nm', []⟩], body, []⟩] = if (runB (L0 hv) body).2 = true then (some (L0 hv), true) else (none, false) := by
    have hs : stepB (L0 hv) ⟨4, n, ty, nm, [⟨1, 1, nm', []⟩], body, []⟩ = (some (L0 hv), (runB (L0 hv) body).2) := by
      simp [stepB, asksB, ownB, askBs, askB]
    rw [runB_cons _ _ _ hs]
    cases (runB (L0 hv) body).2
    · rfl
    · simp [runFrom, runB]
  rw [this]
  obtain ⟨o, k, hr⟩ : ∃ o k, runB (L0 hv) body = (o, k) := ⟨_, _, rfl⟩
  rw [hr]
  cases k
  · rfl
  · rfl
theorem out_len (hv : List Nm) (body : List Stmt) : (outB hv body).1.length ≤ hv.length + cntSs body := by
  have hl := runB_len body (L0 hv)
  have h0 := putAll_len hv []
  rw [List.length_nil] at h0
  have h0 : (L0 hv).length ≤ 0 + hv.length := h0
  unfold outB
  obtain ⟨o, k, hr⟩ : ∃ o k, runB (L0 hv) body = (o, k) := ⟨_, _, rfl⟩
  rw [hr] at hl ⊢
  cases k with
  | false => simp
  | true =>
    cases o with
    | none => simp
    | some L => have := hl L rfl; show L.length ≤ _; omega
theorem out_err (hv : List Nm) (body : List Stmt) : (outB hv body).2.2 = 0 ∨ (outB hv body).2.2 = 80 := by
  unfold outB
  obtain ⟨o, k, hr⟩ : ∃ o k, runB (L0 hv) body = (o, k) := ⟨_, _, rfl⟩
  rw [hr]
  cases k
  · exact .inr rfl
  · exact .inl rfl
end AS
end Go.Proofs.Ytgaipdillmleeaa
end
