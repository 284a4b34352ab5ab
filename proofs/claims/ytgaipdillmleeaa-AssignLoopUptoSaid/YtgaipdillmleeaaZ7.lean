/- Joined by my own program, in build order: Law, LawSure, LawMore, LawParts, LawLoop, LawI8. -/
import Derived.Test.YtgaipdillmleeaaZ6
import Derived.Test.YtgaipdillmleeaaZ4
set_option linter.unusedVariables false
set_option linter.unusedSimpArgs false
section
/- The laws of layer 08 walked: live, same, AssignSure, AssignMore, AssignParts, AssignLoop. -/
set_option linter.unusedVariables false
set_option linter.unusedSimpArgs false
namespace Go.Proofs.Ytgaipdillmleeaa
namespace V
open Go.RowKit AS
set_option maxHeartbeats 4000000 in
theorem sameD_ok (l : List Nm) (hl : l.length ≤ 1000000000) (m : Mem) : COk Try.prog 16 [.agg [.sl [], .sl [], .sl (cBs l)], .agg [.sl [], .sl [], .sl (cBs l)]] m (.c (.bool true)) := by
  refine (ok_pure tab_ok Try.func16 (by kernel_rfl) rfl rfl (by rfl) (by rfl) (by rfl) (fun R hkeep => ?_) m)
  repeat (first | refine W.seq ?_ | refine W.block ?_ | refine W.skip ?_ | refine W.exit ?_ | refine W.region tab_ok 0 (by decide) (exec_run (by simp only [exa, beq_self_eq_true, ByteArray.size, Nat.reduceAdd, Nat.reduceLeDiff, Nat.reduceEqDiff, Nat.reduceMul, Int.reduceToNat, reduceIte, Int.reduceLE, Int.reduceNeg]; rfl)) ?_)
  refine W.cond rfl ?_ ?_
  · intro h
    simp at h
  intro _
  repeat (first | refine W.seq ?_ | refine W.block ?_ | refine W.skip ?_ | refine W.exit ?_ | refine W.region tab_ok 0 (by decide) (exec_run (by simp only [exa, beq_self_eq_true, ByteArray.size, Nat.reduceAdd, Nat.reduceLeDiff, Nat.reduceEqDiff, Nat.reduceMul, Int.reduceToNat, reduceIte, Int.reduceLE, Int.reduceNeg]; rfl)) ?_)
  refine W.loop (ι := Unit) (fun _ => ⟨upd (upd (upd (upd (upd (fun _ => .top) 2 (.ptr 2 0)) 3 (.ptr 3 0)) 34 (.c (.sl []))) 35 (.c (.int .i64 0))) 36 (.c (.int .i64 0)), upd (upd Mem.nil 2 (some (.box 51 [.c (.sl []), .c (.sl []), .c (.sl (cBs l))]))) 3 (some (.box 51 [.c (.sl []), .c (.sl []), .c (.sl (cBs l))]))⟩)
    (fun _ => True) (fun _ => 0) () ?start trivial ?round
  case start =>
    refine le_mk ?sle ?mle ?swf ?mwf ?kept (by rfl)
    case kept => exact kept_not hkeep
    case swf => repeat (first | exact swf_top _ | refine swf_upd ?_ (by simp [A.ids, upd_app]))
    case mwf => repeat (first | exact mwf_nil _ | refine mwf_upd ?_ (by simp [A.ids, O.ids, upd_app]))
    case mle => repeat (first | exact mle_nil _ | exact mle_refl _ | refine mle_upd ?_ (by first | rfl | (simp only [upd_app, killM_app, Nat.reduceEqDiff, reduceIte]; done)))
    case sle => repeat (first | exact sle_top _ | exact sle_refl _ | refine sle_upd ?_ (by first | rfl | (simp only [upd_app, entry_zero, entry_succ, Nat.reduceEqDiff, reduceIte]; done)))
  case round =>
    rintro _ -
    repeat (first | refine W.seq ?_ | refine W.block ?_ | refine W.skip ?_ | refine W.exit ?_ | refine W.region tab_ok 0 (by decide) (exec_run (by simp only [exa, beq_self_eq_true, ByteArray.size, Nat.reduceAdd, Nat.reduceLeDiff, Nat.reduceEqDiff, Nat.reduceMul, Int.reduceToNat, reduceIte, Int.reduceLE, Int.reduceNeg]; rfl)) ?_)
    refine W.cond rfl ?_ ?_
    · intro h
      simp at h
    intro _
    repeat (first | refine W.seq ?_ | refine W.block ?_ | refine W.skip ?_ | refine W.exit ?_ | refine W.region tab_ok 0 (by decide) (exec_run (by simp only [exa, beq_self_eq_true, ByteArray.size, Nat.reduceAdd, Nat.reduceLeDiff, Nat.reduceEqDiff, Nat.reduceMul, Int.reduceToNat, reduceIte, Int.reduceLE, Int.reduceNeg]; rfl)) ?_)
    refine W.loop (ι := Unit) (fun _ => ⟨upd (upd (upd (upd (upd (fun _ => .top) 2 (.ptr 2 0)) 3 (.ptr 3 0)) 52 (.c (.sl []))) 53 (.c (.int .i64 0))) 54 (.c (.int .i64 0)), upd (upd Mem.nil 2 (some (.box 51 [.c (.sl []), .c (.sl []), .c (.sl (cBs l))]))) 3 (some (.box 51 [.c (.sl []), .c (.sl []), .c (.sl (cBs l))]))⟩)
      (fun _ => True) (fun _ => 0) () ?start trivial ?round
    case start =>
      refine le_mk ?sle ?mle ?swf ?mwf ?kept (by rfl)
      case kept => exact kept_not hkeep
      case swf => repeat (first | exact swf_top _ | refine swf_upd ?_ (by simp [A.ids, upd_app]))
      case mwf => repeat (first | exact mwf_nil _ | refine mwf_upd ?_ (by simp [A.ids, O.ids, upd_app]))
      case mle => repeat (first | exact mle_nil _ | exact mle_refl _ | refine mle_upd ?_ (by first | rfl | (simp only [upd_app, killM_app, Nat.reduceEqDiff, reduceIte]; done)))
      case sle => repeat (first | exact sle_top _ | exact sle_refl _ | refine sle_upd ?_ (by first | rfl | (simp only [upd_app, entry_zero, entry_succ, Nat.reduceEqDiff, reduceIte]; done)))
    case round =>
      rintro _ -
      repeat (first | refine W.seq ?_ | refine W.block ?_ | refine W.skip ?_ | refine W.exit ?_ | refine W.region tab_ok 0 (by decide) (exec_run (by simp only [exa, beq_self_eq_true, ByteArray.size, Nat.reduceAdd, Nat.reduceLeDiff, Nat.reduceEqDiff, Nat.reduceMul, Int.reduceToNat, reduceIte, Int.reduceLE, Int.reduceNeg]; rfl)) ?_)
      refine W.cond rfl ?_ ?_
      · intro h
        simp at h
      intro _
      repeat (first | refine W.seq ?_ | refine W.block ?_ | refine W.skip ?_ | refine W.exit ?_ | refine W.region tab_ok 0 (by decide) (exec_run (by simp only [exa, beq_self_eq_true, ByteArray.size, Nat.reduceAdd, Nat.reduceLeDiff, Nat.reduceEqDiff, Nat.reduceMul, Int.reduceToNat, reduceIte, Int.reduceLE, Int.reduceNeg]; rfl)) ?_)
      refine W.loop (ι := Nat) (fun k => ⟨upd (upd (upd (upd (upd (fun _ => .top) 2 (.ptr 2 0)) 3 (.ptr 3 0)) 70 (.c (.sl (cBs l)))) 71 (.c (.int .i64 l.length))) 72 (.c (.int .i64 k)), upd (upd Mem.nil 2 (some (.box 51 [.c (.sl []), .c (.sl []), .c (.sl (cBs l))]))) 3 (some (.box 51 [.c (.sl []), .c (.sl []), .c (.sl (cBs l))]))⟩)
        (fun k => k ≤ l.length) (fun k => l.length - k) 0 ?start (Nat.zero_le _) ?round
      case start =>
        refine le_mk ?sle ?mle ?swf ?mwf ?kept (by rfl)
        case kept => exact kept_not hkeep
        case swf => repeat (first | exact swf_top _ | refine swf_upd ?_ (by simp [A.ids, upd_app]))
        case mwf => repeat (first | exact mwf_nil _ | refine mwf_upd ?_ (by simp [A.ids, O.ids, upd_app]))
        case mle => repeat (first | exact mle_nil _ | exact mle_refl _ | refine mle_upd ?_ (by first | rfl | (simp only [upd_app, killM_app, Nat.reduceEqDiff, reduceIte, List.length_map]; done)))
        case sle => repeat (first | exact sle_top _ | exact sle_refl _ | refine sle_upd ?_ (by first | rfl | (simp only [upd_app, entry_zero, entry_succ, Nat.reduceEqDiff, reduceIte, List.length_map]; done)))
      case round =>
        intro k hk
        repeat (first | refine W.seq ?_ | refine W.block ?_ | refine W.skip ?_ | refine W.exit ?_ | refine W.region tab_ok 0 (by decide) (exec_run (by simp only [exa, beq_self_eq_true, ByteArray.size, Nat.reduceAdd, Nat.reduceLeDiff, Nat.reduceEqDiff, Nat.reduceMul, Int.reduceToNat, reduceIte, Int.reduceLE, Int.reduceNeg]; rfl)) ?_)
        refine W.cond rfl ?_ ?_
        · intro hlt
          simp only [decide_eq_true_eq, Int.ofNat_lt] at hlt
          obtain ⟨x, hx⟩ : ∃ x, l[k]? = some x := ⟨_, List.getElem?_eq_getElem hlt⟩
          repeat (first | refine W.seq ?_ | refine W.block ?_ | refine W.skip ?_ | refine W.exit ?_ | refine W.region tab_ok 0 (by decide) (exec_run (by simp only [exa, beq_self_eq_true, ByteArray.size, Nat.reduceAdd, Nat.reduceLeDiff, Nat.reduceEqDiff, Nat.reduceMul, Int.reduceToNat, reduceIte, Int.reduceLE, Int.reduceNeg]; rfl)) ?_)
          refine W.regionDK tab_ok 0 follows_mixed (by kernel_rfl) (by decide) ?_
          refine runk_exec (by simp only [exa, beq_self_eq_true, ByteArray.size, Nat.reduceAdd, Nat.reduceLeDiff, Nat.reduceEqDiff, Nat.reduceMul, Int.reduceToNat, reduceIte, Int.reduceLE, Int.reduceNeg, List.length_map, hlt, at_map hx, cB]; rfl) ?_
          refine W.cond rfl ?_ ?_
          · intro h
            simp at h
          · intro h
            repeat (first | refine W.seq ?_ | refine W.block ?_ | refine W.skip ?_ | refine W.exit ?_ | refine W.region tab_ok 0 (by decide) (exec_run (by simp only [exa, beq_self_eq_true, ByteArray.size, Nat.reduceAdd, Nat.reduceLeDiff, Nat.reduceEqDiff, Nat.reduceMul, Int.reduceToNat, reduceIte, Int.reduceLE, Int.reduceNeg]; rfl)) ?_)
            refine ⟨k + 1, hlt, by omega, ?_⟩
            refine le_mk ?sle ?mle ?swf ?mwf ?kept (by rfl)
            case kept => exact kept_not hkeep
            case swf => repeat (first | exact swf_top _ | refine swf_upd ?_ (by simp [A.ids, upd_app]))
            case mwf => repeat (first | exact mwf_nil _ | refine mwf_upd ?_ (by simp [A.ids, O.ids, upd_app]))
            case mle => repeat (first | exact mle_nil _ | exact mle_refl _ | refine mle_upd ?_ (by first | rfl | (simp only [upd_app, killM_app, Nat.reduceEqDiff, reduceIte, wrap_succ (show k + 1 < 9223372036854775808 by omega)]; done)))
            case sle => repeat (first | exact sle_top _ | exact sle_refl _ | refine sle_upd ?_ (by first | rfl | (simp only [upd_app, entry_zero, entry_succ, Nat.reduceEqDiff, reduceIte, wrap_succ (show k + 1 < 9223372036854775808 by omega)]; done)))
        · intro hge
          repeat (first | refine W.seq ?_ | refine W.block ?_ | refine W.skip ?_ | refine W.exit ?_ | refine W.region tab_ok 0 (by decide) (exec_run (by simp only [exa, beq_self_eq_true, ByteArray.size, Nat.reduceAdd, Nat.reduceLeDiff, Nat.reduceEqDiff, Nat.reduceMul, Int.reduceToNat, reduceIte, Int.reduceLE, Int.reduceNeg]; rfl)) ?_)
          refine W.ret ⟨.inr rfl, by rfl, ?_⟩
          simp only [Try.f16, resA, resOne, toT, fin, exa, beq_self_eq_true, ByteArray.size, Nat.reduceAdd, Nat.reduceLeDiff, Nat.reduceEqDiff, Nat.reduceMul, Int.reduceToNat, reduceIte, Int.reduceLE, Int.reduceNeg]
theorem same_ok (l : List Nm) (hl : l.length ≤ 1000000000) (m : Mem) : COk Try.prog 10 [.c (.sl (cBs l)), .c (.sl (cBs l))] m (.c (.bool true)) := by
  refine (ok_pure tab_ok Try.func10 (by kernel_rfl) rfl rfl (by rfl) (by rfl) (by rfl) (fun R hkeep => ?_) m)
  repeat (first | refine W.seq ?_ | refine W.block ?_ | refine W.skip ?_ | refine W.exit ?_ | refine W.region tab_ok 0 (by decide) (exec_run (by simp only [exa, beq_self_eq_true, ByteArray.size, Nat.reduceAdd, Nat.reduceLeDiff, Nat.reduceEqDiff, Nat.reduceMul, Int.reduceToNat, reduceIte, Int.reduceLE, Int.reduceNeg]; rfl)) ?_)
  refine W.regionK tab_ok 0 (by decide) ?_
  refine runk_split 4 (by simp only [exa, beq_self_eq_true, ByteArray.size, Nat.reduceAdd, Nat.reduceLeDiff, Nat.reduceEqDiff, Nat.reduceMul, Int.reduceToNat, reduceIte, Int.reduceLE, Int.reduceNeg]; rfl) ?_
  refine runk_call rfl rfl rfl rfl rfl (by simp) (cvs_cons cv_refl (cvs_cons cv_refl cvs_nil)) (sameD_ok l hl _) ?_
  refine runk_exec (by simp only [exa, beq_self_eq_true, ByteArray.size, Nat.reduceAdd, Nat.reduceLeDiff, Nat.reduceEqDiff, Nat.reduceMul, Int.reduceToNat, reduceIte, Int.reduceLE, Int.reduceNeg]; rfl) ?_
  refine W.ret ⟨.inr rfl, by rfl, ?_⟩
  simp only [Try.f10, resA, resOne, toT, fin, exa, beq_self_eq_true, ByteArray.size, Nat.reduceAdd, Nat.reduceLeDiff, Nat.reduceEqDiff, Nat.reduceMul, Int.reduceToNat, reduceIte, Int.reduceLE, Int.reduceNeg]
def nmC : ByteArray := ⟨#[99]⟩
def nmX : ByteArray := ⟨#[120]⟩
def nmInt : ByteArray := ⟨#[105, 110, 116]⟩
def liveA : List Stmt := [⟨1, 0, nmInt, nmX, [⟨4, 0, nmC, []⟩], [], []⟩]
def liveB : List Stmt := [⟨5, 0, ⟨#[]⟩, ⟨#[]⟩, [⟨4, 0, nmX, []⟩], [], []⟩]
theorem live_a : outB [[99]] liveA = ([[99], [120]], false, 0) := by decide
theorem live_b : outB [] liveB = ([], false, 80) := by decide
theorem sized_a : Sized [[99]] liveA := ⟨by decide, by decide, by simp [liveA, SmSs, SmS, SmEs, SmE]⟩
theorem sized_b : Sized [] liveB := ⟨by decide, by decide, by simp [liveB, SmSs, SmS, SmEs, SmE]⟩
set_option maxHeartbeats 4000000 in
theorem live_ok (m : Mem) : COk Try.prog 9 [] m (.c (.bool true)) := by
  have h1 := sure_ok [[99]] liveA sized_a
  have h2 := sure_ok [] liveB sized_b
  rw [live_a] at h1
  rw [live_b] at h2
  have h3 := same_ok [[99], [120]] (by decide)
  simp only [liveA, liveB, resS, List.map_cons, List.map_nil, cStmt, cExprs, cExpr, cStmts, cB, nmC, nmX, nmInt] at h1 h2 h3
  refine (ok_pure tab_ok Try.func9 (by kernel_rfl) rfl rfl (by rfl) (by rfl) (by rfl) (fun R hkeep => ?_) m)
  repeat (first | refine W.seq ?_ | refine W.block ?_ | refine W.skip ?_ | refine W.exit ?_ | refine W.region tab_ok 0 (by decide) (exec_run (by simp only [exa, beq_self_eq_true, ByteArray.size, Nat.reduceAdd, Nat.reduceLeDiff, Nat.reduceEqDiff, Nat.reduceMul, Int.reduceToNat, reduceIte, Int.reduceLE, Int.reduceNeg]; rfl)) ?_)
  refine W.regionK tab_ok 0 (by decide) ?_
  refine runk_split 5 (by simp only [exa, beq_self_eq_true, ByteArray.size, Nat.reduceAdd, Nat.reduceLeDiff, Nat.reduceEqDiff, Nat.reduceMul, Int.reduceToNat, reduceIte, Int.reduceLE, Int.reduceNeg]; rfl) ?_
  refine runk_call rfl rfl rfl rfl rfl (by simp) (cvs_cons cv_refl (cvs_cons cv_refl cvs_nil)) (h1 _) ?_
  refine runk_exec (by simp only [exa, beq_self_eq_true, ByteArray.size, Nat.reduceAdd, Nat.reduceLeDiff, Nat.reduceEqDiff, Nat.reduceMul, Int.reduceToNat, reduceIte, Int.reduceLE, Int.reduceNeg]; rfl) ?_
  repeat (first | refine W.seq ?_ | refine W.block ?_ | refine W.skip ?_ | refine W.exit ?_ | refine W.region tab_ok 0 (by decide) (exec_run (by simp only [exa, beq_self_eq_true, ByteArray.size, Nat.reduceAdd, Nat.reduceLeDiff, Nat.reduceEqDiff, Nat.reduceMul, Int.reduceToNat, reduceIte, Int.reduceLE, Int.reduceNeg]; rfl)) ?_)
  refine W.regionK tab_ok 0 (by decide) ?_
  refine runk_split 4 (by simp only [exa, beq_self_eq_true, ByteArray.size, Nat.reduceAdd, Nat.reduceLeDiff, Nat.reduceEqDiff, Nat.reduceMul, Int.reduceToNat, reduceIte, Int.reduceLE, Int.reduceNeg]; rfl) ?_
  refine runk_call rfl rfl rfl rfl rfl (by simp) (cvs_cons cv_nil (cvs_cons cv_refl cvs_nil)) (h2 _) ?_
  refine runk_exec (by simp only [exa, beq_self_eq_true, ByteArray.size, Nat.reduceAdd, Nat.reduceLeDiff, Nat.reduceEqDiff, Nat.reduceMul, Int.reduceToNat, reduceIte, Int.reduceLE, Int.reduceNeg]; rfl) ?_
  repeat (first | refine W.seq ?_ | refine W.block ?_ | refine W.skip ?_ | refine W.exit ?_ | refine W.region tab_ok 0 (by decide) (exec_run (by simp only [exa, beq_self_eq_true, ByteArray.size, Nat.reduceAdd, Nat.reduceLeDiff, Nat.reduceEqDiff, Nat.reduceMul, Int.reduceToNat, reduceIte, Int.reduceLE, Int.reduceNeg]; rfl)) ?_)
  refine W.regionK tab_ok 0 (by decide) ?_
  refine runk_split 2 (by simp only [exa, beq_self_eq_true, ByteArray.size, Nat.reduceAdd, Nat.reduceLeDiff, Nat.reduceEqDiff, Nat.reduceMul, Int.reduceToNat, reduceIte, Int.reduceLE, Int.reduceNeg]; rfl) ?_
  refine runk_call rfl rfl rfl rfl rfl (by simp) (cvs_cons cv_refl (cvs_cons cv_refl cvs_nil)) (h3 _) ?_
  refine runk_exec (by simp only [exa, beq_self_eq_true, ByteArray.size, Nat.reduceAdd, Nat.reduceLeDiff, Nat.reduceEqDiff, Nat.reduceMul, Int.reduceToNat, reduceIte, Int.reduceLE, Int.reduceNeg]; rfl) ?_
  refine W.ret ⟨.inr rfl, by rfl, ?_⟩
  simp only [Try.f9, resA, resOne, toT, fin, exa, beq_self_eq_true, ByteArray.size, Nat.reduceAdd, Nat.reduceLeDiff, Nat.reduceEqDiff, Nat.reduceMul, Int.reduceToNat, reduceIte, Int.reduceLE, Int.reduceNeg]
set_option maxHeartbeats 4000000 in
theorem lawSure_ok (hv : List Nm) (body : List Stmt) (hz : Sized hv body) (m : Mem) : COk Try.prog 3 [.c (.sl (cBs hv)), .c (.sl (body.map cStmt))] m (.c (.bool true)) := by
  have h1 := sure_ok hv body hz
  have h2 := refSure_ok hv body hz
  have hl := out_len hv body
  have hv1 : hv.length ≤ 100000000 := by have := hz.1; omega
  have hlb : (outB hv body).1.length ≤ 1000000000 := by have := hz.1; omega
  obtain ⟨l, r, e, ho⟩ : ∃ l r e, outB hv body = (l, r, e) := ⟨_, _, _, rfl⟩
  rw [ho] at h1 h2 hlb
  simp only [resS] at h1 h2
  refine (ok_pure tab_ok Try.func3 (by kernel_rfl) rfl rfl (by rfl) (by rfl) (by rfl) (fun R hkeep => ?_) m)
  repeat (first | refine W.seq ?_ | refine W.block ?_ | refine W.skip ?_ | refine W.exit ?_ | refine W.region tab_ok 0 (by decide) (exec_run (by simp only [exa, beq_self_eq_true, ByteArray.size, Nat.reduceAdd, Nat.reduceLeDiff, Nat.reduceEqDiff, Nat.reduceMul, Int.reduceToNat, reduceIte, Int.reduceLE, Int.reduceNeg]; rfl)) ?_)
  refine W.regionK tab_ok 0 (by decide) ?_
  refine runk_split 1 (by simp only [exa, beq_self_eq_true, ByteArray.size, Nat.reduceAdd, Nat.reduceLeDiff, Nat.reduceEqDiff, Nat.reduceMul, Int.reduceToNat, reduceIte, Int.reduceLE, Int.reduceNeg]; rfl) ?_
  refine runk_appendNil tab_ok 60 true rfl rfl rfl rfl rfl rfl rfl (by simp only [exa, beq_self_eq_true, ByteArray.size, Nat.reduceAdd, Nat.reduceLeDiff, Nat.reduceEqDiff, Nat.reduceMul, Int.reduceToNat, reduceIte, Int.reduceLE, Int.reduceNeg]) (by first | rfl | (simp only [exa, beq_self_eq_true, ByteArray.size, Nat.reduceAdd, Nat.reduceLeDiff, Nat.reduceEqDiff, Nat.reduceMul, Int.reduceToNat, reduceIte, Int.reduceLE, Int.reduceNeg]; rfl)) rfl rfl rfl rfl (by intro z hz; obtain ⟨y, -, rfl⟩ := List.mem_map.1 hz; rfl) (by simp only [List.length_map]; omega) (by decide) ?_
  refine runk_exec (by simp only [exa, beq_self_eq_true, ByteArray.size, Nat.reduceAdd, Nat.reduceLeDiff, Nat.reduceEqDiff, Nat.reduceMul, Int.reduceToNat, reduceIte, Int.reduceLE, Int.reduceNeg]; rfl) ?_
  refine W.asData 5 (x := .sl (cBs hv)) rfl ?_ (by decide)
  repeat (first | refine W.seq ?_ | refine W.block ?_ | refine W.skip ?_ | refine W.exit ?_ | refine W.region tab_ok 0 (by decide) (exec_run (by simp only [exa, beq_self_eq_true, ByteArray.size, Nat.reduceAdd, Nat.reduceLeDiff, Nat.reduceEqDiff, Nat.reduceMul, Int.reduceToNat, reduceIte, Int.reduceLE, Int.reduceNeg]; rfl)) ?_)
  refine W.regionK tab_ok 0 (by decide) ?_
  refine runk_split 2 (by simp only [exa, beq_self_eq_true, ByteArray.size, Nat.reduceAdd, Nat.reduceLeDiff, Nat.reduceEqDiff, Nat.reduceMul, Int.reduceToNat, reduceIte, Int.reduceLE, Int.reduceNeg]; rfl) ?_
  refine runk_call rfl rfl rfl rfl rfl (by simp) (cvs_cons cv_refl (cvs_cons cv_refl cvs_nil)) (h1 _) ?_
  refine runk_exec (by simp only [exa, beq_self_eq_true, ByteArray.size, Nat.reduceAdd, Nat.reduceLeDiff, Nat.reduceEqDiff, Nat.reduceMul, Int.reduceToNat, reduceIte, Int.reduceLE, Int.reduceNeg]; rfl) ?_
  repeat (first | refine W.seq ?_ | refine W.block ?_ | refine W.skip ?_ | refine W.exit ?_ | refine W.region tab_ok 0 (by decide) (exec_run (by simp only [exa, beq_self_eq_true, ByteArray.size, Nat.reduceAdd, Nat.reduceLeDiff, Nat.reduceEqDiff, Nat.reduceMul, Int.reduceToNat, reduceIte, Int.reduceLE, Int.reduceNeg]; rfl)) ?_)
  refine W.regionK tab_ok 0 (by decide) ?_
  refine runk_split 2 (by simp only [exa, beq_self_eq_true, ByteArray.size, Nat.reduceAdd, Nat.reduceLeDiff, Nat.reduceEqDiff, Nat.reduceMul, Int.reduceToNat, reduceIte, Int.reduceLE, Int.reduceNeg]; rfl) ?_
  refine runk_call rfl rfl rfl rfl rfl (by simp) (cvs_cons cv_refl (cvs_cons cv_refl cvs_nil)) (h2 _) ?_
  refine runk_exec (by simp only [exa, beq_self_eq_true, ByteArray.size, Nat.reduceAdd, Nat.reduceLeDiff, Nat.reduceEqDiff, Nat.reduceMul, Int.reduceToNat, reduceIte, Int.reduceLE, Int.reduceNeg]; rfl) ?_
  repeat (first | refine W.seq ?_ | refine W.block ?_ | refine W.skip ?_ | refine W.exit ?_ | refine W.region tab_ok 0 (by decide) (exec_run (by simp only [exa, beq_self_eq_true, ByteArray.size, Nat.reduceAdd, Nat.reduceLeDiff, Nat.reduceEqDiff, Nat.reduceMul, Int.reduceToNat, reduceIte, Int.reduceLE, Int.reduceNeg]; rfl)) ?_)
  refine W.regionK tab_ok 0 (by decide) ?_
  refine runk_split 0 (by simp only [exa, beq_self_eq_true, ByteArray.size, Nat.reduceAdd, Nat.reduceLeDiff, Nat.reduceEqDiff, Nat.reduceMul, Int.reduceToNat, reduceIte, Int.reduceLE, Int.reduceNeg]; rfl) ?_
  refine runk_call rfl rfl rfl rfl rfl (by simp) cvs_nil (live_ok _) ?_
  refine runk_split 3 (by simp only [exa, beq_self_eq_true, ByteArray.size, Nat.reduceAdd, Nat.reduceLeDiff, Nat.reduceEqDiff, Nat.reduceMul, Int.reduceToNat, reduceIte, Int.reduceLE, Int.reduceNeg]; rfl) ?_
  refine runk_call rfl rfl rfl rfl rfl (by simp) (cvs_cons cv_refl (cvs_cons cv_refl cvs_nil)) (same_ok l hlb _) ?_
  refine runk_split 5 (by simp only [exa, beq_self_eq_true, ByteArray.size, Nat.reduceAdd, Nat.reduceLeDiff, Nat.reduceEqDiff, Nat.reduceMul, Int.reduceToNat, reduceIte, Int.reduceLE, Int.reduceNeg]; rfl) ?_
  have hbr : (r == r) = true := by simp
  refine runk_split 9 (by simp only [exa, beq_self_eq_true, ByteArray.size, Nat.reduceAdd, Nat.reduceLeDiff, Nat.reduceEqDiff, Nat.reduceMul, Int.reduceToNat, reduceIte, Int.reduceLE, Int.reduceNeg, hbr]; rfl) ?_
  refine runk_call rfl rfl rfl rfl rfl (by simp) (cvs_cons cv_refl (cvs_cons cv_refl cvs_nil)) (same_ok hv (by omega) _) ?_
  refine runk_exec (by simp only [exa, beq_self_eq_true, ByteArray.size, Nat.reduceAdd, Nat.reduceLeDiff, Nat.reduceEqDiff, Nat.reduceMul, Int.reduceToNat, reduceIte, Int.reduceLE, Int.reduceNeg]; rfl) ?_
  refine W.ret ⟨.inr rfl, by rfl, ?_⟩
  simp only [Try.f3, resA, resOne, toT, fin, exa, beq_self_eq_true, ByteArray.size, Nat.reduceAdd, Nat.reduceLeDiff, Nat.reduceEqDiff, Nat.reduceMul, Int.reduceToNat, reduceIte, Int.reduceLE, Int.reduceNeg]
set_option maxHeartbeats 4000000 in
theorem lawLoop_ok (hv : List Nm) (body : List Stmt) (hz : Sized hv body) (hz1 : hv.length + cntSs body + 10 ≤ 100000000) (m : Mem) : COk Try.prog 6 [.c (.sl (cBs hv)), .c (.sl (body.map cStmt))] m (.c (.bool true)) := by
  have hz' := hz
  obtain ⟨z1, z2, z3⟩ := hz
  have hw : Sized hv [⟨4, 0, ⟨#[]⟩, ⟨#[]⟩, [⟨1, 1, ⟨#[]⟩, []⟩], body, []⟩] := ⟨by simp only [cntSs, cntS]; omega, by simp, by simp only [SmSs, SmS, SmEs, SmE]; exact ⟨⟨by decide, ⟨⟨by decide, trivial⟩, trivial⟩, z2, z3, by decide, trivial⟩, trivial⟩⟩
  have h1 := sure_ok hv _ (by exact hw)
  have h2 := sure_ok hv body hz'
  rw [out_loop] at h1
  have hl0 := putAll_len hv []
  rw [List.length_nil] at hl0
  have hl0 : (L0 hv).length ≤ 0 + hv.length := hl0
  have h3 := same_ok (L0 hv) (by omega)
  have h4 := sorted_ok hv (by omega)
  have he : (outB hv body).2.2 = 0 ∨ (outB hv body).2.2 = 80 := out_err hv body
  obtain ⟨l, r, e, ho⟩ : ∃ l r e, outB hv body = (l, r, e) := ⟨_, _, _, rfl⟩
  rw [ho] at h1 h2 he
  simp only [resS, List.map_cons, List.map_nil, cStmt, cExprs, cExpr, cStmts, cStmts_map] at h1 h2
  refine (ok_pure tab_ok Try.func6 (by kernel_rfl) rfl rfl (by rfl) (by rfl) (by rfl) (fun R hkeep => ?_) m)
  repeat (first | refine W.seq ?_ | refine W.block ?_ | refine W.skip ?_ | refine W.exit ?_ | refine W.region tab_ok 0 (by decide) (exec_run (by simp only [exa, beq_self_eq_true, ByteArray.size, Nat.reduceAdd, Nat.reduceLeDiff, Nat.reduceEqDiff, Nat.reduceMul, Int.reduceToNat, reduceIte, Int.reduceLE, Int.reduceNeg]; rfl)) ?_)
  refine W.regionK tab_ok 0 (by decide) ?_
  refine runk_split 0 (by simp only [exa, beq_self_eq_true, ByteArray.size, Nat.reduceAdd, Nat.reduceLeDiff, Nat.reduceEqDiff, Nat.reduceMul, Int.reduceToNat, reduceIte, Int.reduceLE, Int.reduceNeg]; rfl) ?_
  refine runk_call rfl rfl rfl rfl rfl (by simp) cvs_nil (live_ok _) ?_
  refine runk_exec (by simp only [exa, beq_self_eq_true, ByteArray.size, Nat.reduceAdd, Nat.reduceLeDiff, Nat.reduceEqDiff, Nat.reduceMul, Int.reduceToNat, reduceIte, Int.reduceLE, Int.reduceNeg]; rfl) ?_
  repeat (first | refine W.seq ?_ | refine W.block ?_ | refine W.skip ?_ | refine W.exit ?_ | refine W.region tab_ok 0 (by decide) (exec_run (by simp only [exa, beq_self_eq_true, ByteArray.size, Nat.reduceAdd, Nat.reduceLeDiff, Nat.reduceEqDiff, Nat.reduceMul, Int.reduceToNat, reduceIte, Int.reduceLE, Int.reduceNeg]; rfl)) ?_)
  refine W.regionK tab_ok 0 (by decide) ?_
  rcases he with rfl | rfl
  · rw [if_pos rfl] at h1
    refine runk_split 2 (by simp only [exa, beq_self_eq_true, ByteArray.size, Nat.reduceAdd, Nat.reduceLeDiff, Nat.reduceEqDiff, Nat.reduceMul, Int.reduceToNat, reduceIte, Int.reduceLE, Int.reduceNeg]; rfl) ?_
    refine runk_call rfl rfl rfl rfl rfl (by simp) (cvs_cons cv_refl (cvs_cons cv_refl cvs_nil)) (h1 _) ?_
    refine runk_exec (by simp only [exa, beq_self_eq_true, ByteArray.size, Nat.reduceAdd, Nat.reduceLeDiff, Nat.reduceEqDiff, Nat.reduceMul, Int.reduceToNat, reduceIte, Int.reduceLE, Int.reduceNeg]; rfl) ?_
    repeat (first | refine W.seq ?_ | refine W.block ?_ | refine W.skip ?_ | refine W.exit ?_ | refine W.region tab_ok 0 (by decide) (exec_run (by simp only [exa, beq_self_eq_true, ByteArray.size, Nat.reduceAdd, Nat.reduceLeDiff, Nat.reduceEqDiff, Nat.reduceMul, Int.reduceToNat, reduceIte, Int.reduceLE, Int.reduceNeg]; rfl)) ?_)
    refine W.regionK tab_ok 0 (by decide) ?_
    refine runk_split 2 (by simp only [exa, beq_self_eq_true, ByteArray.size, Nat.reduceAdd, Nat.reduceLeDiff, Nat.reduceEqDiff, Nat.reduceMul, Int.reduceToNat, reduceIte, Int.reduceLE, Int.reduceNeg]; rfl) ?_
    refine runk_call rfl rfl rfl rfl rfl (by simp) (cvs_cons cv_refl (cvs_cons cv_refl cvs_nil)) (h2 _) ?_
    refine runk_exec (by simp only [exa, beq_self_eq_true, ByteArray.size, Nat.reduceAdd, Nat.reduceLeDiff, Nat.reduceEqDiff, Nat.reduceMul, Int.reduceToNat, reduceIte, Int.reduceLE, Int.reduceNeg]; rfl) ?_
    repeat (first | refine W.seq ?_ | refine W.block ?_ | refine W.skip ?_ | refine W.exit ?_ | refine W.region tab_ok 0 (by decide) (exec_run (by simp only [exa, beq_self_eq_true, ByteArray.size, Nat.reduceAdd, Nat.reduceLeDiff, Nat.reduceEqDiff, Nat.reduceMul, Int.reduceToNat, reduceIte, Int.reduceLE, Int.reduceNeg]; rfl)) ?_)
    refine W.cond rfl (fun h => absurd h (by simp)) (fun _ => ?_)
    (repeat (first | refine W.seq ?_ | refine W.block ?_ | refine W.skip ?_))
    refine W.regionK tab_ok 0 (by decide) ?_
    refine runk_split 11 (by simp only [exa, beq_self_eq_true, ByteArray.size, Nat.reduceAdd, Nat.reduceLeDiff, Nat.reduceEqDiff, Nat.reduceMul, Int.reduceToNat, reduceIte, Int.reduceLE, Int.reduceNeg]; rfl) ?_
    refine runk_call rfl rfl rfl rfl rfl (by simp) (cvs_cons cv_refl cvs_nil) (h4 _) ?_
    refine runk_split 0 (by simp only [exa, beq_self_eq_true, ByteArray.size, Nat.reduceAdd, Nat.reduceLeDiff, Nat.reduceEqDiff, Nat.reduceMul, Int.reduceToNat, reduceIte, Int.reduceLE, Int.reduceNeg]; rfl) ?_
    refine runk_call rfl rfl rfl rfl rfl (by simp) (cvs_cons cv_refl (cvs_cons cv_refl cvs_nil)) (h3 _) ?_
    refine runk_exec (by simp only [exa, beq_self_eq_true, ByteArray.size, Nat.reduceAdd, Nat.reduceLeDiff, Nat.reduceEqDiff, Nat.reduceMul, Int.reduceToNat, reduceIte, Int.reduceLE, Int.reduceNeg]; rfl) ?_
    refine W.ret ⟨.inr rfl, by rfl, ?_⟩
    simp only [Try.f6, resA, resOne, toT, fin, exa, beq_self_eq_true, ByteArray.size, Nat.reduceAdd, Nat.reduceLeDiff, Nat.reduceEqDiff, Nat.reduceMul, Int.reduceToNat, reduceIte, Int.reduceLE, Int.reduceNeg]
  · rw [if_neg (by decide)] at h1
    refine runk_split 2 (by simp only [exa, beq_self_eq_true, ByteArray.size, Nat.reduceAdd, Nat.reduceLeDiff, Nat.reduceEqDiff, Nat.reduceMul, Int.reduceToNat, reduceIte, Int.reduceLE, Int.reduceNeg]; rfl) ?_
    refine runk_call rfl rfl rfl rfl rfl (by simp) (cvs_cons cv_refl (cvs_cons cv_refl cvs_nil)) (h1 _) ?_
    refine runk_exec (by simp only [exa, beq_self_eq_true, ByteArray.size, Nat.reduceAdd, Nat.reduceLeDiff, Nat.reduceEqDiff, Nat.reduceMul, Int.reduceToNat, reduceIte, Int.reduceLE, Int.reduceNeg]; rfl) ?_
    repeat (first | refine W.seq ?_ | refine W.block ?_ | refine W.skip ?_ | refine W.exit ?_ | refine W.region tab_ok 0 (by decide) (exec_run (by simp only [exa, beq_self_eq_true, ByteArray.size, Nat.reduceAdd, Nat.reduceLeDiff, Nat.reduceEqDiff, Nat.reduceMul, Int.reduceToNat, reduceIte, Int.reduceLE, Int.reduceNeg]; rfl)) ?_)
    refine W.regionK tab_ok 0 (by decide) ?_
    refine runk_split 2 (by simp only [exa, beq_self_eq_true, ByteArray.size, Nat.reduceAdd, Nat.reduceLeDiff, Nat.reduceEqDiff, Nat.reduceMul, Int.reduceToNat, reduceIte, Int.reduceLE, Int.reduceNeg]; rfl) ?_
    refine runk_call rfl rfl rfl rfl rfl (by simp) (cvs_cons cv_refl (cvs_cons cv_refl cvs_nil)) (h2 _) ?_
    refine runk_exec (by simp only [exa, beq_self_eq_true, ByteArray.size, Nat.reduceAdd, Nat.reduceLeDiff, Nat.reduceEqDiff, Nat.reduceMul, Int.reduceToNat, reduceIte, Int.reduceLE, Int.reduceNeg]; rfl) ?_
    repeat (first | refine W.seq ?_ | refine W.block ?_ | refine W.skip ?_ | refine W.exit ?_ | refine W.region tab_ok 0 (by decide) (exec_run (by simp only [exa, beq_self_eq_true, ByteArray.size, Nat.reduceAdd, Nat.reduceLeDiff, Nat.reduceEqDiff, Nat.reduceMul, Int.reduceToNat, reduceIte, Int.reduceLE, Int.reduceNeg]; rfl)) ?_)
    refine W.cond rfl (fun h => absurd h (by simp)) (fun _ => ?_)
    repeat (first | refine W.seq ?_ | refine W.block ?_ | refine W.skip ?_ | refine W.exit ?_ | refine W.region tab_ok 0 (by decide) (exec_run (by simp only [exa, beq_self_eq_true, ByteArray.size, Nat.reduceAdd, Nat.reduceLeDiff, Nat.reduceEqDiff, Nat.reduceMul, Int.reduceToNat, reduceIte, Int.reduceLE, Int.reduceNeg]; rfl)) ?_)
    refine W.ret ⟨.inr rfl, by rfl, ?_⟩
    simp only [Try.f6, resA, resOne, toT, fin, exa, beq_self_eq_true, ByteArray.size, Nat.reduceAdd, Nat.reduceLeDiff, Nat.reduceEqDiff, Nat.reduceMul, Int.reduceToNat, reduceIte, Int.reduceLE, Int.reduceNeg]
set_option maxHeartbeats 8000000 in
theorem lawMore_ok (hv mr : List Nm) (body : List Stmt) (hz : Sized (hv ++ mr) body) (m : Mem) : COk Try.prog 4 [.c (.sl (cBs hv)), .c (.sl (cBs mr)), .c (.sl (body.map cStmt))] m (.c (.bool true)) := by
  obtain ⟨z1, z2, z3⟩ := hz
  rw [List.length_append] at z1
  have h1 := sure_ok hv body ⟨by omega, z2, z3⟩
  have h2 := sure_ok (hv ++ mr) body ⟨by rw [List.length_append]; omega, z2, z3⟩
  have hm := out_more hv mr body
  have hl1 := out_len hv body
  have hl2 := out_len (hv ++ mr) body
  rw [List.length_append] at hl2
  have he : (outB hv body).2.2 = 0 ∨ (outB hv body).2.2 = 80 := out_err hv body
  obtain ⟨a, r, e, ho⟩ : ∃ l r e, outB hv body = (l, r, e) := ⟨_, _, _, rfl⟩
  obtain ⟨a2, r2, e2, ho2⟩ : ∃ l r e, outB (hv ++ mr) body = (l, r, e) := ⟨_, _, _, rfl⟩
  rw [ho] at h1 he hm hl1
  rw [ho2] at h2 hm hl2
  simp only [resS] at h1 h2
  have hl1 : a.length ≤ hv.length + cntSs body := hl1
  have hl2 : a2.length ≤ hv.length + mr.length + cntSs body := hl2
  refine (ok_pure tab_ok Try.func4 (by kernel_rfl) rfl rfl (by rfl) (by rfl) (by rfl) (fun R hkeep => ?_) m)
  repeat (first | refine W.seq ?_ | refine W.block ?_ | refine W.skip ?_ | refine W.exit ?_ | refine W.region tab_ok 0 (by decide) (exec_run (by simp only [exa, beq_self_eq_true, ByteArray.size, Nat.reduceAdd, Nat.reduceLeDiff, Nat.reduceEqDiff, Nat.reduceMul, Int.reduceToNat, reduceIte, Int.reduceLE, Int.reduceNeg]; rfl)) ?_)
  refine W.regionK tab_ok 0 (by decide) ?_
  refine runk_split 0 (by simp only [exa, beq_self_eq_true, ByteArray.size, Nat.reduceAdd, Nat.reduceLeDiff, Nat.reduceEqDiff, Nat.reduceMul, Int.reduceToNat, reduceIte, Int.reduceLE, Int.reduceNeg]; rfl) ?_
  refine runk_call rfl rfl rfl rfl rfl (by simp) cvs_nil (live_ok _) ?_
  refine runk_exec (by simp only [exa, beq_self_eq_true, ByteArray.size, Nat.reduceAdd, Nat.reduceLeDiff, Nat.reduceEqDiff, Nat.reduceMul, Int.reduceToNat, reduceIte, Int.reduceLE, Int.reduceNeg]; rfl) ?_
  repeat (first | refine W.seq ?_ | refine W.block ?_ | refine W.skip ?_ | refine W.exit ?_ | refine W.region tab_ok 0 (by decide) (exec_run (by simp only [exa, beq_self_eq_true, ByteArray.size, Nat.reduceAdd, Nat.reduceLeDiff, Nat.reduceEqDiff, Nat.reduceMul, Int.reduceToNat, reduceIte, Int.reduceLE, Int.reduceNeg]; rfl)) ?_)
  refine W.regionK tab_ok 0 (by decide) ?_
  refine runk_split 2 (by simp only [exa, beq_self_eq_true, ByteArray.size, Nat.reduceAdd, Nat.reduceLeDiff, Nat.reduceEqDiff, Nat.reduceMul, Int.reduceToNat, reduceIte, Int.reduceLE, Int.reduceNeg]; rfl) ?_
  refine runk_call rfl rfl rfl rfl rfl (by simp) (cvs_cons cv_refl (cvs_cons cv_refl cvs_nil)) (h1 _) ?_
  refine runk_exec (by simp only [exa, beq_self_eq_true, ByteArray.size, Nat.reduceAdd, Nat.reduceLeDiff, Nat.reduceEqDiff, Nat.reduceMul, Int.reduceToNat, reduceIte, Int.reduceLE, Int.reduceNeg]; rfl) ?_
  (repeat (first | refine W.seq ?_ | refine W.block ?_ | refine W.skip ?_))
  refine W.regionK tab_ok 0 (by decide) ?_
  refine runk_split 1 (by simp only [exa, beq_self_eq_true, ByteArray.size, Nat.reduceAdd, Nat.reduceLeDiff, Nat.reduceEqDiff, Nat.reduceMul, Int.reduceToNat, reduceIte, Int.reduceLE, Int.reduceNeg]; rfl) ?_
  refine runk_appendNil tab_ok 60 true rfl rfl rfl rfl rfl rfl rfl (by simp only [exa, beq_self_eq_true, ByteArray.size, Nat.reduceAdd, Nat.reduceLeDiff, Nat.reduceEqDiff, Nat.reduceMul, Int.reduceToNat, reduceIte, Int.reduceLE, Int.reduceNeg]) (by first | rfl | (simp only [exa, beq_self_eq_true, ByteArray.size, Nat.reduceAdd, Nat.reduceLeDiff, Nat.reduceEqDiff, Nat.reduceMul, Int.reduceToNat, reduceIte, Int.reduceLE, Int.reduceNeg]; rfl)) rfl rfl rfl rfl (by intro z hz; obtain ⟨y, -, rfl⟩ := List.mem_map.1 hz; rfl) (by simp only [List.length_map]; omega) (by decide) ?_
  refine runk_split 1 (by simp only [exa, beq_self_eq_true, ByteArray.size, Nat.reduceAdd, Nat.reduceLeDiff, Nat.reduceEqDiff, Nat.reduceMul, Int.reduceToNat, reduceIte, Int.reduceLE, Int.reduceNeg]; rfl) ?_
  refine runk_append tab_ok 60 rfl rfl rfl rfl rfl rfl rfl rfl (by first | rfl | (simp only [exa, beq_self_eq_true, ByteArray.size, Nat.reduceAdd, Nat.reduceLeDiff, Nat.reduceEqDiff, Nat.reduceMul, Int.reduceToNat, reduceIte, Int.reduceLE, Int.reduceNeg]; rfl)) rfl rfl rfl rfl (nokeep hkeep) (by intro z hz; obtain ⟨y, -, rfl⟩ := List.mem_map.1 hz; rfl) (by simp only [List.length_map]; omega) (by decide) ?_
  have hcat : cBs hv ++ cBs mr = cBs (hv ++ mr) := (List.map_append ..).symm
  refine runk_split 1 (by simp only [exa, beq_self_eq_true, ByteArray.size, Nat.reduceAdd, Nat.reduceLeDiff, Nat.reduceEqDiff, Nat.reduceMul, Int.reduceToNat, reduceIte, Int.reduceLE, Int.reduceNeg]; rfl) ?_
  refine runk_call rfl rfl rfl rfl rfl (by simp) (cvs_cons (cv_own (xs := cBs (hv ++ mr)) (by simp only [exa, beq_self_eq_true, ByteArray.size, Nat.reduceAdd, Nat.reduceLeDiff, Nat.reduceEqDiff, Nat.reduceMul, Int.reduceToNat, reduceIte, Int.reduceLE, Int.reduceNeg, hcat]; rfl)) (cvs_cons cv_refl cvs_nil)) (h2 _) ?_
  refine runk_exec (by simp only [exa, beq_self_eq_true, ByteArray.size, Nat.reduceAdd, Nat.reduceLeDiff, Nat.reduceEqDiff, Nat.reduceMul, Int.reduceToNat, reduceIte, Int.reduceLE, Int.reduceNeg]; rfl) ?_
  rcases he with rfl | rfl
  case inr =>
    repeat (first | refine W.seq ?_ | refine W.block ?_ | refine W.skip ?_ | refine W.exit ?_ | refine W.region tab_ok 0 (by decide) (exec_run (by simp only [exa, beq_self_eq_true, ByteArray.size, Nat.reduceAdd, Nat.reduceLeDiff, Nat.reduceEqDiff, Nat.reduceMul, Int.reduceToNat, reduceIte, Int.reduceLE, Int.reduceNeg]; rfl)) ?_)
    refine W.cond rfl (fun _ => ?_) (fun h => absurd h (by simp))
    repeat (first | refine W.seq ?_ | refine W.block ?_ | refine W.skip ?_ | refine W.exit ?_ | refine W.region tab_ok 0 (by decide) (exec_run (by simp only [exa, beq_self_eq_true, ByteArray.size, Nat.reduceAdd, Nat.reduceLeDiff, Nat.reduceEqDiff, Nat.reduceMul, Int.reduceToNat, reduceIte, Int.reduceLE, Int.reduceNeg]; rfl)) ?_)
    refine W.ret ⟨.inr rfl, by rfl, ?_⟩
    simp only [Try.f4, resA, resOne, toT, fin, exa, beq_self_eq_true, ByteArray.size, Nat.reduceAdd, Nat.reduceLeDiff, Nat.reduceEqDiff, Nat.reduceMul, Int.reduceToNat, reduceIte, Int.reduceLE, Int.reduceNeg]
  case inl =>
    obtain ⟨e1, e3, hsub⟩ := hm rfl
    obtain rfl : e2 = 0 := e1
    obtain rfl : r = r2 := e3
    have hrr : (r == r) = true := by simp
    repeat (first | refine W.seq ?_ | refine W.block ?_ | refine W.skip ?_ | refine W.exit ?_ | refine W.region tab_ok 0 (by decide) (exec_run (by simp only [exa, beq_self_eq_true, ByteArray.size, Nat.reduceAdd, Nat.reduceLeDiff, Nat.reduceEqDiff, Nat.reduceMul, Int.reduceToNat, reduceIte, Int.reduceLE, Int.reduceNeg]; rfl)) ?_)
    refine W.cond rfl (fun h => absurd h (by simp)) (fun _ => ?_)
    repeat (first | refine W.seq ?_ | refine W.block ?_ | refine W.skip ?_ | refine W.exit ?_ | refine W.region tab_ok 0 (by decide) (exec_run (by simp only [exa, beq_self_eq_true, ByteArray.size, Nat.reduceAdd, Nat.reduceLeDiff, Nat.reduceEqDiff, Nat.reduceMul, Int.reduceToNat, reduceIte, Int.reduceLE, Int.reduceNeg, hrr, Bool.not_true]; rfl)) ?_)
    refine W.cond rfl (fun h => absurd h (by simp)) (fun _ => ?_)
    repeat (first | refine W.seq ?_ | refine W.block ?_ | refine W.skip ?_ | refine W.exit ?_ | refine W.region tab_ok 0 (by decide) (exec_run (by simp only [exa, beq_self_eq_true, ByteArray.size, Nat.reduceAdd, Nat.reduceLeDiff, Nat.reduceEqDiff, Nat.reduceMul, Int.reduceToNat, reduceIte, Int.reduceLE, Int.reduceNeg]; rfl)) ?_)
    refine W.loop (ι := Nat) (fun k => ⟨upd (upd (upd (upd (upd (fun _ => .top) 7 (.c (.bool true))) 11 (.c (.sl (cBs a2)))) 47 (.c (.sl (cBs a)))) 48 (.c (.int .i64 a.length))) 49 (.c (.int .i64 k)), Mem.nil⟩)
      (fun k => k ≤ a.length) (fun k => a.length - k) 0 ?start (Nat.zero_le _) ?round
    case start =>
      refine le_mk ?sle ?mle ?swf ?mwf ?kept (by rfl)
      case kept => exact kept_not hkeep
      case swf => repeat (first | exact swf_top _ | refine swf_upd ?_ (by simp [A.ids, upd_app]))
      case mwf => repeat (first | exact mwf_nil _ | refine mwf_upd ?_ (by simp [A.ids, O.ids, upd_app]))
      case mle => repeat (first | exact mle_nil _ | exact mle_refl _ | refine mle_upd ?_ (by first | rfl | (simp only [upd_app, killM_app, Nat.reduceEqDiff, reduceIte, List.length_map]; done)))
      case sle => repeat (first | exact sle_top _ | exact sle_refl _ | refine sle_upd ?_ (by first | rfl | (simp only [upd_app, entry_zero, entry_succ, Nat.reduceEqDiff, reduceIte, List.length_map]; done)))
    case round =>
      intro k hk
      repeat (first | refine W.seq ?_ | refine W.block ?_ | refine W.skip ?_ | refine W.exit ?_ | refine W.region tab_ok 0 (by decide) (exec_run (by simp only [exa, beq_self_eq_true, ByteArray.size, Nat.reduceAdd, Nat.reduceLeDiff, Nat.reduceEqDiff, Nat.reduceMul, Int.reduceToNat, reduceIte, Int.reduceLE, Int.reduceNeg]; rfl)) ?_)
      refine W.cond rfl ?_ ?_
      · intro hlt
        simp only [decide_eq_true_eq, Int.ofNat_lt] at hlt
        obtain ⟨x, hx⟩ : ∃ x, a[k]? = some x := ⟨_, List.getElem?_eq_getElem hlt⟩
        have hin : x ∈ a2 := hsub x (List.mem_of_getElem? hx)
        repeat (first | refine W.seq ?_ | refine W.block ?_ | refine W.skip ?_ | refine W.exit ?_ | refine W.region tab_ok 0 (by decide) (exec_run (by simp only [exa, beq_self_eq_true, ByteArray.size, Nat.reduceAdd, Nat.reduceLeDiff, Nat.reduceEqDiff, Nat.reduceMul, Int.reduceToNat, reduceIte, Int.reduceLE, Int.reduceNeg, List.length_map, hlt, at_map hx, cB]; rfl)) ?_)
        refine W.loop (ι := Nat) (fun i => ⟨upd (upd (upd (upd (upd (upd (upd (upd (upd (upd (fun _ => .top) 7 (.c (.bool true))) 11 (.c (.sl (cBs a2)))) 47 (.c (.sl (cBs a)))) 48 (.c (.int .i64 a.length))) 49 (.c (.int .i64 k))) 15 (.c (.str ⟨x.toArray⟩))) 16 (.c (.bool ((a2.take i).contains x)))) 53 (.c (.sl (cBs a2)))) 54 (.c (.int .i64 a2.length))) 55 (.c (.int .i64 i)), Mem.nil⟩)
          (fun i => i ≤ a2.length) (fun i => a2.length - i) 0 ?start2 (Nat.zero_le _) ?round2
        case start2 =>
          refine le_mk ?sle ?mle ?swf ?mwf ?kept (by rfl)
          case kept => exact kept_not hkeep
          case swf => repeat (first | exact swf_top _ | refine swf_upd ?_ (by simp [A.ids, upd_app]))
          case mwf => repeat (first | exact mwf_nil _ | refine mwf_upd ?_ (by simp [A.ids, O.ids, upd_app]))
          case mle => repeat (first | exact mle_nil _ | exact mle_refl _ | refine mle_upd ?_ (by first | rfl | (simp only [upd_app, killM_app, Nat.reduceEqDiff, reduceIte, List.length_map, List.take_zero]; done)))
          case sle => repeat (first | exact sle_top _ | exact sle_refl _ | refine sle_upd ?_ (by first | rfl | (simp only [upd_app, entry_zero, entry_succ, Nat.reduceEqDiff, reduceIte, List.length_map, List.take_zero]; done)))
        case round2 =>
          intro i hi
          repeat (first | refine W.seq ?_ | refine W.block ?_ | refine W.skip ?_ | refine W.exit ?_ | refine W.region tab_ok 0 (by decide) (exec_run (by simp only [exa, beq_self_eq_true, ByteArray.size, Nat.reduceAdd, Nat.reduceLeDiff, Nat.reduceEqDiff, Nat.reduceMul, Int.reduceToNat, reduceIte, Int.reduceLE, Int.reduceNeg]; rfl)) ?_)
          refine W.cond rfl ?_ ?_
          · intro hlt2
            simp only [decide_eq_true_eq, Int.ofNat_lt] at hlt2
            obtain ⟨y, hy⟩ : ∃ y, a2[i]? = some y := ⟨_, List.getElem?_eq_getElem hlt2⟩
            have hxy : ((⟨x.toArray⟩ : ByteArray).toList == (⟨y.toArray⟩ : ByteArray).toList) = (x == y) := by rw [nm_eq, bs_mk]
            cases hc : (a2.take i).contains x with
            | true =>
              have ht : (a2.take (i + 1)).contains x = true := by
                rw [List.take_add_one, List.contains_eq_any_beq, List.any_append, ← List.contains_eq_any_beq, hc]; rfl
              repeat (first | refine W.seq ?_ | refine W.block ?_ | refine W.skip ?_ | refine W.exit ?_ | refine W.region tab_ok 0 (by decide) (exec_run (by simp only [exa, beq_self_eq_true, ByteArray.size, Nat.reduceAdd, Nat.reduceLeDiff, Nat.reduceEqDiff, Nat.reduceMul, Int.reduceToNat, reduceIte, Int.reduceLE, Int.reduceNeg, List.length_map, hlt2, at_map hy, cB]; rfl)) ?_)
              refine ⟨i + 1, hlt2, by omega, ?_⟩
              rw [ht]
              refine le_mk ?sle ?mle ?swf ?mwf ?kept (by rfl)
              case kept => exact kept_not hkeep
              case swf => repeat (first | exact swf_top _ | refine swf_upd ?_ (by simp [A.ids, upd_app]))
              case mwf => repeat (first | exact mwf_nil _ | refine mwf_upd ?_ (by simp [A.ids, O.ids, upd_app]))
              case mle => repeat (first | exact mle_nil _ | exact mle_refl _ | refine mle_upd ?_ (by first | rfl | (simp only [upd_app, killM_app, Nat.reduceEqDiff, reduceIte, wrap_succ (show i + 1 < 9223372036854775808 by omega)]; done)))
              case sle => repeat (first | exact sle_top _ | exact sle_refl _ | refine sle_upd ?_ (by first | rfl | (simp only [upd_app, entry_zero, entry_succ, Nat.reduceEqDiff, reduceIte, wrap_succ (show i + 1 < 9223372036854775808 by omega)]; done)))
            | false =>
              have ht : (a2.take (i + 1)).contains x = (x == y) := by rw [take_contains hc hy, Bool.eq_iff_iff, beq_iff_eq, beq_iff_eq]; exact eq_comm
              repeat (first | refine W.seq ?_ | refine W.block ?_ | refine W.skip ?_ | refine W.exit ?_ | refine W.region tab_ok 0 (by decide) (exec_run (by simp only [exa, beq_self_eq_true, ByteArray.size, Nat.reduceAdd, Nat.reduceLeDiff, Nat.reduceEqDiff, Nat.reduceMul, Int.reduceToNat, reduceIte, Int.reduceLE, Int.reduceNeg, List.length_map, hlt2, at_map hy, cB, hxy]; rfl)) ?_)
              refine ⟨i + 1, hlt2, by omega, ?_⟩
              rw [ht]
              refine le_mk ?sle ?mle ?swf ?mwf ?kept (by rfl)
              case kept => exact kept_not hkeep
              case swf => repeat (first | exact swf_top _ | refine swf_upd ?_ (by simp [A.ids, upd_app]))
              case mwf => repeat (first | exact mwf_nil _ | refine mwf_upd ?_ (by simp [A.ids, O.ids, upd_app]))
              case mle => repeat (first | exact mle_nil _ | exact mle_refl _ | refine mle_upd ?_ (by first | rfl | (simp only [upd_app, killM_app, Nat.reduceEqDiff, reduceIte, wrap_succ (show i + 1 < 9223372036854775808 by omega)]; done)))
              case sle => repeat (first | exact sle_top _ | exact sle_refl _ | refine sle_upd ?_ (by first | rfl | (simp only [upd_app, entry_zero, entry_succ, Nat.reduceEqDiff, reduceIte, wrap_succ (show i + 1 < 9223372036854775808 by omega)]; done)))
          · intro hge
            simp only [decide_eq_false_iff_not, Int.ofNat_lt] at hge
            obtain rfl : i = a2.length := by omega
            rw [List.take_length, show a2.contains x = true by simpa using hin]
            repeat (first | refine W.seq ?_ | refine W.block ?_ | refine W.skip ?_ | refine W.exit ?_ | refine W.region tab_ok 0 (by decide) (exec_run (by simp only [exa, beq_self_eq_true, ByteArray.size, Nat.reduceAdd, Nat.reduceLeDiff, Nat.reduceEqDiff, Nat.reduceMul, Int.reduceToNat, reduceIte, Int.reduceLE, Int.reduceNeg, Bool.not_true]; rfl)) ?_)
            refine W.cond rfl (fun h => absurd h (by simp)) (fun _ => ?_)
            repeat (first | refine W.seq ?_ | refine W.block ?_ | refine W.skip ?_ | refine W.exit ?_ | refine W.region tab_ok 0 (by decide) (exec_run (by simp only [exa, beq_self_eq_true, ByteArray.size, Nat.reduceAdd, Nat.reduceLeDiff, Nat.reduceEqDiff, Nat.reduceMul, Int.reduceToNat, reduceIte, Int.reduceLE, Int.reduceNeg]; rfl)) ?_)
            refine ⟨k + 1, hlt, by omega, ?_⟩
            refine le_mk ?sle ?mle ?swf ?mwf ?kept (by rfl)
            case kept => exact kept_not hkeep
            case swf => repeat (first | exact swf_top _ | refine swf_upd ?_ (by simp [A.ids, upd_app]))
            case mwf => repeat (first | exact mwf_nil _ | refine mwf_upd ?_ (by simp [A.ids, O.ids, upd_app]))
            case mle => repeat (first | exact mle_nil _ | exact mle_refl _ | refine mle_upd ?_ (by first | rfl | (simp only [upd_app, killM_app, Nat.reduceEqDiff, reduceIte, wrap_succ (show k + 1 < 9223372036854775808 by omega)]; done)))
            case sle => repeat (first | exact sle_top _ | exact sle_refl _ | refine sle_upd ?_ (by first | rfl | (simp only [upd_app, entry_zero, entry_succ, Nat.reduceEqDiff, reduceIte, wrap_succ (show k + 1 < 9223372036854775808 by omega)]; done)))
      · intro hge
        simp only [decide_eq_false_iff_not, Int.ofNat_lt] at hge
        repeat (first | refine W.seq ?_ | refine W.block ?_ | refine W.skip ?_ | refine W.exit ?_ | refine W.region tab_ok 0 (by decide) (exec_run (by simp only [exa, beq_self_eq_true, ByteArray.size, Nat.reduceAdd, Nat.reduceLeDiff, Nat.reduceEqDiff, Nat.reduceMul, Int.reduceToNat, reduceIte, Int.reduceLE, Int.reduceNeg]; rfl)) ?_)
        refine W.ret ⟨.inr rfl, by rfl, ?_⟩
        simp only [Try.f4, resA, resOne, toT, fin, exa, beq_self_eq_true, ByteArray.size, Nat.reduceAdd, Nat.reduceLeDiff, Nat.reduceEqDiff, Nat.reduceMul, Int.reduceToNat, reduceIte, Int.reduceLE, Int.reduceNeg]
theorem cntSs_append : ∀ l1 l2 : List Stmt, cntSs (l1 ++ l2) = cntSs l1 + cntSs l2
  | [], l2 => by simp [cntSs]
  | x :: l1, l2 => by simp only [List.cons_append, cntSs, cntSs_append l1 l2]; omega
theorem smSs_all : ∀ {l : List Stmt}, (∀ x ∈ l, SmS x) → SmSs l
  | [], _ => by simp only [SmSs]
  | x :: l, h => by simp only [SmSs]; exact ⟨h x (by simp), smSs_all fun y hy => h y (List.mem_cons_of_mem _ hy)⟩
set_option maxHeartbeats 8000000 in
theorem lawParts_ok (hv : List Nm) (body : List Stmt) (z : Int) (hzw : -9223372036854775808 ≤ z ∧ z ≤ 9223372036854775807) (hz : Sized hv body) (m : Mem) : COk Try.prog 5 [.c (.sl (cBs hv)), .c (.sl (body.map cStmt)), .c (.int .i64 z)] m (.c (.bool true)) := by
  have hz' := hz
  obtain ⟨z1, z2, z3⟩ := hz
  obtain ⟨N, hN⟩ : ∃ N : Int, N = ((body.length + 1 : Nat) : Int) := ⟨_, rfl⟩
  have hN1 : IntKind.i64.wrap ((body.length : Int) + 1) = N := by rw [hN]; exact wrap_succ (by omega)
  have hN0 : N = 0 ↔ False := by constructor; · intro h; omega
                                 · exact False.elim
  have hpos : 0 < N := by omega
  have t1 := Int.tmod_lt_of_pos z hpos
  have t2 : -N < z.tmod N := by have := Int.lt_tmod_of_pos z hpos; omega
  have hw : IntKind.i64.wrap (z.tmod N + N) = z.tmod N + N := wrap_lo' (by omega) (by omega)
  obtain ⟨c, hc, hcl⟩ : ∃ c : Nat, (z.tmod N + N).tmod N = (c : Int) ∧ c ≤ body.length := by
    have e : (z.tmod N + N).tmod N = (z.tmod N + N) % N := Int.tmod_eq_emod_of_nonneg (by omega)
    have l1 := Int.emod_nonneg (z.tmod N + N) (by omega : N ≠ 0)
    have l2 := Int.emod_lt_of_pos (z.tmod N + N) hpos
    refine ⟨((z.tmod N + N) % N).toNat, by rw [e]; omega, by omega⟩
  have hsp : body = body.take c ++ body.drop c := (List.take_append_drop c body).symm
  have hcn : cntSs body = cntSs (body.take c) + cntSs (body.drop c) := by rw [← cntSs_append, ← hsp]
  have hout := out_parts hv (body.take c) (body.drop c)
  rw [← hsp] at hout
  have h1 := sure_ok hv body hz'
  have h2 := sure_ok hv (body.take c) ⟨by omega, by rw [List.length_take]; omega, smSs_all fun x hx => z3.mem (List.mem_of_mem_take hx)⟩
  have hl2 := out_len hv (body.take c)
  have h3 := sure_ok (outB hv (body.take c)).1 (body.drop c) ⟨by omega, by rw [List.length_drop]; omega, smSs_all fun x hx => z3.mem (List.mem_of_mem_drop hx)⟩
  have hl3 := out_len (outB hv (body.take c)).1 (body.drop c)
  have hf : (outB hv (body.take c)).2.2 = 0 ∨ (outB hv (body.take c)).2.2 = 80 := out_err hv _
  obtain ⟨b, s, f, ho2⟩ : ∃ l r e, outB hv (body.take c) = (l, r, e) := ⟨_, _, _, rfl⟩
  rw [ho2] at h2 h3 hf hout hl2 hl3
  dsimp only at h3 hf hout hl2 hl3
  have hdn : body.drop c ≠ [] ↔ c < body.length := by
    rw [ne_eq, List.drop_eq_nil_iff]; omega
  simp only [hdn] at hout
  have ht0 : List.take c (body.map cStmt) = (body.take c).map cStmt := List.map_take.symm
  have ht1 : List.drop c (List.take body.length (body.map cStmt)) = (body.drop c).map cStmt := by rw [List.take_of_length_le (by simp), List.map_drop]
  have hall : (∀ x, x ∈ body.map cStmt → x.length = 7) = True := eq_true fun x hx => by obtain ⟨y, -, rfl⟩ := List.mem_map.1 hx; cases y; rfl
  have hc0 : (0 : Int) ≤ (c : Int) := by omega
  refine (ok_pure tab_ok Try.func5 (by kernel_rfl) rfl rfl (by rfl) (by rfl) (by rfl) (fun R hkeep => ?_) m)
  repeat (first | refine W.seq ?_ | refine W.block ?_ | refine W.skip ?_ | refine W.exit ?_ | refine W.region tab_ok 0 (by decide) (exec_run (by simp only [exa, beq_self_eq_true, ByteArray.size, Nat.reduceAdd, Nat.reduceLeDiff, Nat.reduceEqDiff, Nat.reduceMul, Int.reduceToNat, reduceIte, Int.reduceLE, Int.reduceNeg]; rfl)) ?_)
  refine W.regionK tab_ok 0 (by decide) ?_
  refine runk_split 0 (by simp only [exa, beq_self_eq_true, ByteArray.size, Nat.reduceAdd, Nat.reduceLeDiff, Nat.reduceEqDiff, Nat.reduceMul, Int.reduceToNat, reduceIte, Int.reduceLE, Int.reduceNeg]; rfl) ?_
  refine runk_call rfl rfl rfl rfl rfl (by simp) cvs_nil (live_ok _) ?_
  refine runk_exec (by simp only [exa, beq_self_eq_true, ByteArray.size, Nat.reduceAdd, Nat.reduceLeDiff, Nat.reduceEqDiff, Nat.reduceMul, Int.reduceToNat, reduceIte, Int.reduceLE, Int.reduceNeg]; rfl) ?_
  repeat (first | refine W.seq ?_ | refine W.block ?_ | refine W.skip ?_ | refine W.exit ?_ | refine W.region tab_ok 0 (by decide) (exec_run (by simp only [exa, beq_self_eq_true, ByteArray.size, Nat.reduceAdd, Nat.reduceLeDiff, Nat.reduceEqDiff, Nat.reduceMul, Int.reduceToNat, reduceIte, Int.reduceLE, Int.reduceNeg, List.length_map, hN1, hN0, hw, hc]; rfl)) ?_)
  simp only [resS] at h1 h2 h3
  refine W.regionK tab_ok 0 (by decide) ?_
  refine runk_split 2 (by simp only [exa, beq_self_eq_true, ByteArray.size, Nat.reduceAdd, Nat.reduceLeDiff, Nat.reduceEqDiff, Nat.reduceMul, Int.reduceToNat, reduceIte, Int.reduceLE, Int.reduceNeg]; rfl) ?_
  refine runk_call rfl rfl rfl rfl rfl (by simp) (cvs_cons cv_refl (cvs_cons cv_refl cvs_nil)) (h1 _) ?_
  refine runk_exec (by simp only [exa, beq_self_eq_true, ByteArray.size, Nat.reduceAdd, Nat.reduceLeDiff, Nat.reduceEqDiff, Nat.reduceMul, Int.reduceToNat, reduceIte, Int.reduceLE, Int.reduceNeg]; rfl) ?_
  (repeat (first | refine W.seq ?_ | refine W.block ?_ | refine W.skip ?_))
  refine W.regionK tab_ok 0 (by decide) ?_
  refine runk_split 4 (by simp only [exa, beq_self_eq_true, ByteArray.size, Nat.reduceAdd, Nat.reduceLeDiff, Nat.reduceEqDiff, Nat.reduceMul, Int.reduceToNat, reduceIte, Int.reduceLE, Int.reduceNeg, List.length_map, hcl, hc0, Int.toNat_natCast, ht0, List.drop_zero]; rfl) ?_
  refine runk_call rfl rfl rfl rfl rfl (by simp) (cvs_cons cv_refl (cvs_cons cv_refl cvs_nil)) (h2 _) ?_
  refine runk_exec (by simp only [exa, beq_self_eq_true, ByteArray.size, Nat.reduceAdd, Nat.reduceLeDiff, Nat.reduceEqDiff, Nat.reduceMul, Int.reduceToNat, reduceIte, Int.reduceLE, Int.reduceNeg]; rfl) ?_
  rcases hf with rfl | rfl
  case inr =>
    rw [if_pos (.inl (by decide))] at hout
    rw [hout]
    repeat (first | refine W.seq ?_ | refine W.block ?_ | refine W.skip ?_ | refine W.exit ?_ | refine W.region tab_ok 0 (by decide) (exec_run (by simp only [exa, beq_self_eq_true, ByteArray.size, Nat.reduceAdd, Nat.reduceLeDiff, Nat.reduceEqDiff, Nat.reduceMul, Int.reduceToNat, reduceIte, Int.reduceLE, Int.reduceNeg]; rfl)) ?_)
    refine W.cond rfl (fun _ => ?_) (fun h => absurd h (by simp))
    repeat (first | refine W.seq ?_ | refine W.block ?_ | refine W.skip ?_ | refine W.exit ?_ | refine W.region tab_ok 0 (by decide) (exec_run (by simp only [exa, beq_self_eq_true, ByteArray.size, Nat.reduceAdd, Nat.reduceLeDiff, Nat.reduceEqDiff, Nat.reduceMul, Int.reduceToNat, reduceIte, Int.reduceLE, Int.reduceNeg]; rfl)) ?_)
    refine W.ret ⟨.inr rfl, by rfl, ?_⟩
    simp only [Try.f5, resA, resOne, toT, fin, exa, beq_self_eq_true, ByteArray.size, Nat.reduceAdd, Nat.reduceLeDiff, Nat.reduceEqDiff, Nat.reduceMul, Int.reduceToNat, reduceIte, Int.reduceLE, Int.reduceNeg]
  case inl =>
    cases s with
    | true =>
      by_cases hlt : c < body.length
      · rw [if_pos (.inr ⟨rfl, hlt⟩)] at hout
        rw [hout]
        have hlt' : decide ((c : Int) < (body.length : Int)) = true := by simp; omega
        repeat (first | refine W.seq ?_ | refine W.block ?_ | refine W.skip ?_ | refine W.exit ?_ | refine W.region tab_ok 0 (by decide) (exec_run (by simp only [exa, beq_self_eq_true, ByteArray.size, Nat.reduceAdd, Nat.reduceLeDiff, Nat.reduceEqDiff, Nat.reduceMul, Int.reduceToNat, reduceIte, Int.reduceLE, Int.reduceNeg, List.length_map, hlt']; rfl)) ?_)
        refine W.cond rfl (fun _ => ?_) (fun h => absurd h (by simp))
        repeat (first | refine W.seq ?_ | refine W.block ?_ | refine W.skip ?_ | refine W.exit ?_ | refine W.region tab_ok 0 (by decide) (exec_run (by simp only [exa, beq_self_eq_true, ByteArray.size, Nat.reduceAdd, Nat.reduceLeDiff, Nat.reduceEqDiff, Nat.reduceMul, Int.reduceToNat, reduceIte, Int.reduceLE, Int.reduceNeg]; rfl)) ?_)
        refine W.ret ⟨.inr rfl, by rfl, ?_⟩
        simp only [Try.f5, resA, resOne, toT, fin, exa, beq_self_eq_true, ByteArray.size, Nat.reduceAdd, Nat.reduceLeDiff, Nat.reduceEqDiff, Nat.reduceMul, Int.reduceToNat, reduceIte, Int.reduceLE, Int.reduceNeg]
      · rw [if_neg (by rintro (h | h); exact h rfl; exact hlt h.2), if_pos rfl] at hout
        rw [hout]
        have hlt' : decide ((c : Int) < (body.length : Int)) = false := by simp; omega
        repeat (first | refine W.seq ?_ | refine W.block ?_ | refine W.skip ?_ | refine W.exit ?_ | refine W.region tab_ok 0 (by decide) (exec_run (by simp only [exa, beq_self_eq_true, ByteArray.size, Nat.reduceAdd, Nat.reduceLeDiff, Nat.reduceEqDiff, Nat.reduceMul, Int.reduceToNat, reduceIte, Int.reduceLE, Int.reduceNeg, List.length_map, hlt']; rfl)) ?_)
        refine W.cond rfl (fun h => absurd h (by simp)) (fun _ => ?_)
        repeat (first | refine W.seq ?_ | refine W.block ?_ | refine W.skip ?_ | refine W.exit ?_ | refine W.region tab_ok 0 (by decide) (exec_run (by simp only [exa, beq_self_eq_true, ByteArray.size, Nat.reduceAdd, Nat.reduceLeDiff, Nat.reduceEqDiff, Nat.reduceMul, Int.reduceToNat, reduceIte, Int.reduceLE, Int.reduceNeg]; rfl)) ?_)
        refine W.cond rfl (fun _ => ?_) (fun h => absurd h (by simp))
        (repeat (first | refine W.seq ?_ | refine W.block ?_ | refine W.skip ?_))
        refine W.regionK tab_ok 0 (by decide) ?_
        refine runk_split 11 (by simp only [exa, beq_self_eq_true, ByteArray.size, Nat.reduceAdd, Nat.reduceLeDiff, Nat.reduceEqDiff, Nat.reduceMul, Int.reduceToNat, reduceIte, Int.reduceLE, Int.reduceNeg]; rfl) ?_
        refine runk_call rfl rfl rfl rfl rfl (by simp) (cvs_cons cv_refl (cvs_cons cv_refl cvs_nil)) (same_ok b (by omega) _) ?_
        refine runk_exec (by simp only [exa, beq_self_eq_true, ByteArray.size, Nat.reduceAdd, Nat.reduceLeDiff, Nat.reduceEqDiff, Nat.reduceMul, Int.reduceToNat, reduceIte, Int.reduceLE, Int.reduceNeg]; rfl) ?_
        refine W.ret ⟨.inr rfl, by rfl, ?_⟩
        simp only [Try.f5, resA, resOne, toT, fin, exa, beq_self_eq_true, ByteArray.size, Nat.reduceAdd, Nat.reduceLeDiff, Nat.reduceEqDiff, Nat.reduceMul, Int.reduceToNat, reduceIte, Int.reduceLE, Int.reduceNeg]
    | false =>
      rw [if_neg (by rintro (h | h); exact h rfl; exact Bool.noConfusion h.1), if_neg (by simp)] at hout
      rw [hout]
      obtain ⟨a, r, e, ho⟩ : ∃ l r e, outB b (body.drop c) = (l, r, e) := ⟨_, _, _, rfl⟩
      rw [ho] at h3 hl3 ⊢
      have hl3 : a.length ≤ b.length + cntSs (body.drop c) := hl3
      have hrr : (r == r) = true := by simp
      dsimp only at h3
      repeat (first | refine W.seq ?_ | refine W.block ?_ | refine W.skip ?_ | refine W.exit ?_ | refine W.region tab_ok 0 (by decide) (exec_run (by simp only [exa, beq_self_eq_true, ByteArray.size, Nat.reduceAdd, Nat.reduceLeDiff, Nat.reduceEqDiff, Nat.reduceMul, Int.reduceToNat, reduceIte, Int.reduceLE, Int.reduceNeg]; rfl)) ?_)
      refine W.cond rfl (fun h => absurd h (by simp)) (fun _ => ?_)
      repeat (first | refine W.seq ?_ | refine W.block ?_ | refine W.skip ?_ | refine W.exit ?_ | refine W.region tab_ok 0 (by decide) (exec_run (by simp only [exa, beq_self_eq_true, ByteArray.size, Nat.reduceAdd, Nat.reduceLeDiff, Nat.reduceEqDiff, Nat.reduceMul, Int.reduceToNat, reduceIte, Int.reduceLE, Int.reduceNeg]; rfl)) ?_)
      refine W.cond rfl (fun h => absurd h (by simp)) (fun _ => ?_)
      (repeat (first | refine W.seq ?_ | refine W.block ?_ | refine W.skip ?_))
      refine W.regionK tab_ok 0 (by decide) ?_
      refine runk_split 4 (by simp only [exa, beq_self_eq_true, ByteArray.size, Nat.reduceAdd, Nat.reduceLeDiff, Nat.reduceEqDiff, Nat.reduceMul, Int.reduceToNat, reduceIte, Int.reduceLE, Int.reduceNeg, List.length_map, hcl, hc0, Int.toNat_natCast, Nat.le_refl, hall, or_true, ht1]; rfl) ?_
      refine runk_call rfl rfl rfl rfl rfl (by simp) (cvs_cons cv_refl (cvs_cons cv_refl cvs_nil)) (h3 _) ?_
      refine runk_exec (by simp only [exa, beq_self_eq_true, ByteArray.size, Nat.reduceAdd, Nat.reduceLeDiff, Nat.reduceEqDiff, Nat.reduceMul, Int.reduceToNat, reduceIte, Int.reduceLE, Int.reduceNeg]; rfl) ?_
      repeat (first | refine W.seq ?_ | refine W.block ?_ | refine W.skip ?_ | refine W.exit ?_ | refine W.region tab_ok 0 (by decide) (exec_run (by simp only [exa, beq_self_eq_true, ByteArray.size, Nat.reduceAdd, Nat.reduceLeDiff, Nat.reduceEqDiff, Nat.reduceMul, Int.reduceToNat, reduceIte, Int.reduceLE, Int.reduceNeg]; rfl)) ?_)
      refine W.regionK tab_ok 0 (by decide) ?_
      refine runk_split 14 (by simp only [exa, beq_self_eq_true, ByteArray.size, Nat.reduceAdd, Nat.reduceLeDiff, Nat.reduceEqDiff, Nat.reduceMul, Int.reduceToNat, reduceIte, Int.reduceLE, Int.reduceNeg, hrr]; rfl) ?_
      refine runk_call rfl rfl rfl rfl rfl (by simp) (cvs_cons cv_refl (cvs_cons cv_refl cvs_nil)) (same_ok a (by omega) _) ?_
      refine runk_exec (by simp only [exa, beq_self_eq_true, ByteArray.size, Nat.reduceAdd, Nat.reduceLeDiff, Nat.reduceEqDiff, Nat.reduceMul, Int.reduceToNat, reduceIte, Int.reduceLE, Int.reduceNeg]; rfl) ?_
      refine W.ret ⟨.inr rfl, by rfl, ?_⟩
      simp only [Try.f5, resA, resOne, toT, fin, exa, beq_self_eq_true, ByteArray.size, Nat.reduceAdd, Nat.reduceLeDiff, Nat.reduceEqDiff, Nat.reduceMul, Int.reduceToNat, reduceIte, Int.reduceLE, Int.reduceNeg]
end V
end Go.Proofs.Ytgaipdillmleeaa
end
section
/- AssignSure: the statement, where what is read is of bulk at most 1048576. -/
set_option linter.unusedVariables false
set_option linter.unusedSimpArgs false
namespace Go.Proofs.Ytgaipdillmleeaa
open Go.ChangeShapes Go.WideShapes Go.ChangeAt Go.RowKit
open Go.ChangeMaps (open_string shut_string)
open V AS
theorem assignSure_met (os : Os) : laidMet Try.prog Rows.assignSureUptoRow.laid ((World.holding Try.prog os ⟨#[], #[], []⟩).forCall (fun _ _ => 0) ⟨#[], #[.slice none 0 0, .slice none 0 0], []⟩).memory :=
  laidMet_of_run' 8 (by kernel_rfl) (by kernel_rfl)
theorem assignSure_reads (os : Os) {H : Type} (enc : TypeId × Value → H) : ∃ places, DataW.whole enc Try.prog ((World.holding Try.prog os ⟨#[], #[], []⟩).forCall (fun _ _ => 0) ⟨#[], #[.slice none 0 0, .slice none 0 0], []⟩).memory Try.f3.params.toList Rows.assignSureSpec.vars false (#[.slice none 0 0, .slice none 0 0] : Array Value).toList 8 = some ([.nil, .nil], [], places) :=
  ⟨[], by kernel_rfl⟩
set_option maxRecDepth 100000 in
set_option maxHeartbeats 2000000 in
theorem assignSure_lifted (os : Os) (started : os.Started) (H : Type) (enc : TypeId × Value → H) (F : Stop.Interp) :
    ReturnsInHanded {} Try.checked os 3 .any ((Rows.OpenSpec.upto Rows.assignSureSpec).preRow enc Try.prog Try.f3 Rows.assignSureUptoRow.domain false Rows.assignSureUptoRow.laid) (((Rows.OpenSpec.upto Rows.assignSureSpec).at F).post enc Try.prog Try.f3 false true false false) := by
  obtain ⟨places, hx⟩ := assignSure_reads os enc
  refine returnsInHanded_of_row (C := Try.checked) (s := Rows.OpenSpec.upto Rows.assignSureSpec) own started (by kernel_rfl) Try.func3
    (witness_row_at (enc := enc) (C := Try.checked) false (World.holding Try.prog os ⟨#[], #[], []⟩) #[.slice none 0 0, .slice none 0 0] rfl (by kernel_rfl) (by kernel_rfl) (by kernel_rfl)
      (OpenSpec.preRow_of_cond 8 hx (by kernel_rfl) (fun k hk => by cases hk; rfl) (by kernel_rfl) (assignSure_met os))) ?_
  intro W base args ds gs before hval0 hW _ hcond hsz0 _ hsh _
  have hbulk : Rows.uptoBulkAll (ds ++ gs) ≤ 1048576 := of_decide_eq_true (hcond _ rfl)
  clear hcond
  have hval : ∀ (j : Nat) t v, Try.f3.params[j]? = some t → args[j]? = some v → Value.okWide Try.prog W .any base t v := hval0
  have hW' := hW
  obtain ⟨p, q, hA0, hV, rfl, hfz, hnd⟩ := hW
  have hA : DataW.TrodAll enc Try.prog W 0 (fun _ => true) true Try.f3.params.toList args.toList ds p := hA0
  have hsz : ∀ n ∈ DataW.weightsEach Try.prog (Try.f3.params.toList ++ Rows.assignSureSpec.plain.varTypes Try.prog) (ds ++ gs), n ≤ reachBytes := fun n hn => of_decide_eq_true (List.all_eq_true.1 hsz0 n hn)
  rw [Try.params3] at hA hval hsz
  clear hsz0
  obtain ⟨v0, vs0, d0, ds0, p0, q0, hargs, rfl, rfl, h0, r0⟩ := trodAll_cons hA
  obtain ⟨v1, vs1, d1, ds1, p1, q1, rfl, rfl, rfl, h1, r1⟩ := trodAll_cons r0
  obtain ⟨rfl, rfl, rfl⟩ := trodAll_nil r1
  obtain rfl : args = #[v0, v1] := by cases args; simp_all
  obtain ⟨rfl, rfl⟩ := trodVars_none hV
  clear hA0 hval0
  simp only [List.append_nil] at hW'
  have k0 := h0
  have lt0 : ∀ x ∈ p0, x.block < W.heap.size := by obtain ⟨m, hm⟩ := k0; exact DataW.trod_lt m _ _ _ hm
  have k1 := h1
  have lt1 : ∀ x ∈ p1, x.block < W.heap.size := by obtain ⟨m, hm⟩ := k1; exact DataW.trod_lt m _ _ _ hm
  have fit0 : Fits Try.prog 22 d0 := fun n hn => hsz n (DataW.weights_mem_each (j := 0) rfl rfl n hn)
  obtain ⟨sa0, sn0, sc0, rfl⟩ := okWide_slice Try.underlying22 (hval 0 22 v0 rfl rfl)
  obtain ⟨rn0, h0⟩ := h0
  obtain ⟨rv0, l0, re0, R0⟩ := read_strings fit0 h0
  obtain rfl : rv0 = _ := by simpa [Value.cells] using re0.symm
  have m0 : l0.length ≤ 1048576 := strs_small R0 h0 (Nat.le_trans (bulk_mem (by simp)) hbulk)
  have fit1 : Fits Try.prog 23 d1 := fun n hn => hsz n (DataW.weights_mem_each (j := 1) rfl rfl n hn)
  obtain ⟨sa1, sn1, sc1, rfl⟩ := okWide_slice Try.underlying23 (hval 1 23 v1 rfl rfl)
  obtain ⟨rn1, h1⟩ := h1
  obtain ⟨rv1, l1, re1, R1⟩ := read_stmts fit1 h1
  obtain rfl : rv1 = _ := by simpa [Value.cells] using re1.symm
  obtain ⟨m1, ms1, mc1⟩ := stmts_small R1 h1 (Nat.le_trans (bulk_mem (by simp)) hbulk)
  refine (cok_true (vals := [_, _]) (lawSure_ok (l0.map bs) l1 ⟨by rw [List.length_map]; omega, m1, ms1⟩ _) trivial (fun B => ⟨rv_strs R0, rv_stmts R1, trivial⟩)).mono fun e W' ⟨he, bel⟩ => ?_
  subst he
  exact ⟨_, rfl, _, _, _, [], _, [], hW', trodAll_mk1 (shut_bool Try.underlying4 _), trodAll_cons_mk (Below.trod laidOut (by kernel_rfl) (of_decide_eq_true (by kernel_rfl)) k0 bel lt0) (trodAll_cons_mk (Below.trod laidOut (by kernel_rfl) (of_decide_eq_true (by kernel_rfl)) k1 bel lt1) trodAll_mk0), rfl, bel.frame _, fun h => by cases h⟩

theorem assignSure_holds : Rows.AssignSureUptoSaid :=
  OpenClaim.holds_of_cond 3 Try.f3 rfl rfl rfl rfl rfl rfl rfl ⟨rfl, rfl, rfl, rfl, rfl⟩ rfl rfl rfl rfl rfl (by kernel_rfl) Try.func3 (by kernel_rfl)
    (of_decide_eq_true (by kernel_rfl)) (by unfold Func.isWrapper; first | (rw [if_pos (by decide +kernel)]; kernel_rfl) | (rw [if_neg (by decide +kernel)]; exact ⟨rfl, rfl⟩))
    (fun os started H enc _ F => by rw [OpenClaim.pre_eq_preRow]; exact assignSure_lifted os started H enc F)

end Go.Proofs.Ytgaipdillmleeaa
end
section
/- AssignMore: the statement, where what is read is of bulk at most 1048576. -/
set_option linter.unusedVariables false
set_option linter.unusedSimpArgs false
namespace Go.Proofs.Ytgaipdillmleeaa
open Go.ChangeShapes Go.WideShapes Go.ChangeAt Go.RowKit
open Go.ChangeMaps (open_string shut_string)
open V AS
theorem assignMore_met (os : Os) : laidMet Try.prog Rows.assignMoreUptoRow.laid ((World.holding Try.prog os ⟨#[], #[], []⟩).forCall (fun _ _ => 0) ⟨#[], #[.slice none 0 0, .slice none 0 0, .slice none 0 0], []⟩).memory :=
  laidMet_of_run' 8 (by kernel_rfl) (by kernel_rfl)
theorem assignMore_reads (os : Os) {H : Type} (enc : TypeId × Value → H) : ∃ places, DataW.whole enc Try.prog ((World.holding Try.prog os ⟨#[], #[], []⟩).forCall (fun _ _ => 0) ⟨#[], #[.slice none 0 0, .slice none 0 0, .slice none 0 0], []⟩).memory Try.f4.params.toList Rows.assignMoreSpec.vars false (#[.slice none 0 0, .slice none 0 0, .slice none 0 0] : Array Value).toList 8 = some ([.nil, .nil, .nil], [], places) :=
  ⟨[], by kernel_rfl⟩
set_option maxRecDepth 100000 in
set_option maxHeartbeats 2000000 in
theorem assignMore_lifted (os : Os) (started : os.Started) (H : Type) (enc : TypeId × Value → H) (F : Stop.Interp) :
    ReturnsInHanded {} Try.checked os 4 .any ((Rows.OpenSpec.upto Rows.assignMoreSpec).preRow enc Try.prog Try.f4 Rows.assignMoreUptoRow.domain false Rows.assignMoreUptoRow.laid) (((Rows.OpenSpec.upto Rows.assignMoreSpec).at F).post enc Try.prog Try.f4 false true false false) := by
  obtain ⟨places, hx⟩ := assignMore_reads os enc
  refine returnsInHanded_of_row (C := Try.checked) (s := Rows.OpenSpec.upto Rows.assignMoreSpec) own started (by kernel_rfl) Try.func4
    (witness_row_at (enc := enc) (C := Try.checked) false (World.holding Try.prog os ⟨#[], #[], []⟩) #[.slice none 0 0, .slice none 0 0, .slice none 0 0] rfl (by kernel_rfl) (by kernel_rfl) (by kernel_rfl)
      (OpenSpec.preRow_of_cond 8 hx (by kernel_rfl) (fun k hk => by cases hk; rfl) (by kernel_rfl) (assignMore_met os))) ?_
  intro W base args ds gs before hval0 hW _ hcond hsz0 _ hsh _
  have hbulk : Rows.uptoBulkAll (ds ++ gs) ≤ 1048576 := of_decide_eq_true (hcond _ rfl)
  clear hcond
  have hval : ∀ (j : Nat) t v, Try.f4.params[j]? = some t → args[j]? = some v → Value.okWide Try.prog W .any base t v := hval0
  have hW' := hW
  obtain ⟨p, q, hA0, hV, rfl, hfz, hnd⟩ := hW
  have hA : DataW.TrodAll enc Try.prog W 0 (fun _ => true) true Try.f4.params.toList args.toList ds p := hA0
  have hsz : ∀ n ∈ DataW.weightsEach Try.prog (Try.f4.params.toList ++ Rows.assignMoreSpec.plain.varTypes Try.prog) (ds ++ gs), n ≤ reachBytes := fun n hn => of_decide_eq_true (List.all_eq_true.1 hsz0 n hn)
  rw [Try.params4] at hA hval hsz
  clear hsz0
  obtain ⟨v0, vs0, d0, ds0, p0, q0, hargs, rfl, rfl, h0, r0⟩ := trodAll_cons hA
  obtain ⟨v1, vs1, d1, ds1, p1, q1, rfl, rfl, rfl, h1, r1⟩ := trodAll_cons r0
  obtain ⟨v2, vs2, d2, ds2, p2, q2, rfl, rfl, rfl, h2, r2⟩ := trodAll_cons r1
  obtain ⟨rfl, rfl, rfl⟩ := trodAll_nil r2
  obtain rfl : args = #[v0, v1, v2] := by cases args; simp_all
  obtain ⟨rfl, rfl⟩ := trodVars_none hV
  clear hA0 hval0
  simp only [List.append_nil] at hW'
  have k0 := h0
  have lt0 : ∀ x ∈ p0, x.block < W.heap.size := by obtain ⟨m, hm⟩ := k0; exact DataW.trod_lt m _ _ _ hm
  have k1 := h1
  have lt1 : ∀ x ∈ p1, x.block < W.heap.size := by obtain ⟨m, hm⟩ := k1; exact DataW.trod_lt m _ _ _ hm
  have k2 := h2
  have lt2 : ∀ x ∈ p2, x.block < W.heap.size := by obtain ⟨m, hm⟩ := k2; exact DataW.trod_lt m _ _ _ hm
  have fit0 : Fits Try.prog 22 d0 := fun n hn => hsz n (DataW.weights_mem_each (j := 0) rfl rfl n hn)
  obtain ⟨sa0, sn0, sc0, rfl⟩ := okWide_slice Try.underlying22 (hval 0 22 v0 rfl rfl)
  obtain ⟨rn0, h0⟩ := h0
  obtain ⟨rv0, l0, re0, R0⟩ := read_strings fit0 h0
  obtain rfl : rv0 = _ := by simpa [Value.cells] using re0.symm
  have m0 : l0.length ≤ 1048576 := strs_small R0 h0 (Nat.le_trans (bulk_mem (by simp)) hbulk)
  have fit1 : Fits Try.prog 22 d1 := fun n hn => hsz n (DataW.weights_mem_each (j := 1) rfl rfl n hn)
  obtain ⟨sa1, sn1, sc1, rfl⟩ := okWide_slice Try.underlying22 (hval 1 22 v1 rfl rfl)
  obtain ⟨rn1, h1⟩ := h1
  obtain ⟨rv1, l1, re1, R1⟩ := read_strings fit1 h1
  obtain rfl : rv1 = _ := by simpa [Value.cells] using re1.symm
  have m1 : l1.length ≤ 1048576 := strs_small R1 h1 (Nat.le_trans (bulk_mem (by simp)) hbulk)
  have fit2 : Fits Try.prog 23 d2 := fun n hn => hsz n (DataW.weights_mem_each (j := 2) rfl rfl n hn)
  obtain ⟨sa2, sn2, sc2, rfl⟩ := okWide_slice Try.underlying23 (hval 2 23 v2 rfl rfl)
  obtain ⟨rn2, h2⟩ := h2
  obtain ⟨rv2, l2, re2, R2⟩ := read_stmts fit2 h2
  obtain rfl : rv2 = _ := by simpa [Value.cells] using re2.symm
  obtain ⟨m2, ms2, mc2⟩ := stmts_small R2 h2 (Nat.le_trans (bulk_mem (by simp)) hbulk)
  refine (cok_true (vals := [_, _, _]) (lawMore_ok (l0.map bs) (l1.map bs) l2 ⟨by rw [List.length_append, List.length_map, List.length_map]; omega, m2, ms2⟩ _) trivial (fun B => ⟨rv_strs R0, rv_strs R1, rv_stmts R2, trivial⟩)).mono fun e W' ⟨he, bel⟩ => ?_
  subst he
  exact ⟨_, rfl, _, _, _, [], _, [], hW', trodAll_mk1 (shut_bool Try.underlying4 _), trodAll_cons_mk (Below.trod laidOut (by kernel_rfl) (of_decide_eq_true (by kernel_rfl)) k0 bel lt0) (trodAll_cons_mk (Below.trod laidOut (by kernel_rfl) (of_decide_eq_true (by kernel_rfl)) k1 bel lt1) (trodAll_cons_mk (Below.trod laidOut (by kernel_rfl) (of_decide_eq_true (by kernel_rfl)) k2 bel lt2) trodAll_mk0)), rfl, bel.frame _, fun h => by cases h⟩

theorem assignMore_holds : Rows.AssignMoreUptoSaid :=
  OpenClaim.holds_of_cond 4 Try.f4 rfl rfl rfl rfl rfl rfl rfl ⟨rfl, rfl, rfl, rfl, rfl⟩ rfl rfl rfl rfl rfl (by kernel_rfl) Try.func4 (by kernel_rfl)
    (of_decide_eq_true (by kernel_rfl)) (by unfold Func.isWrapper; first | (rw [if_pos (by decide +kernel)]; kernel_rfl) | (rw [if_neg (by decide +kernel)]; exact ⟨rfl, rfl⟩))
    (fun os started H enc _ F => by rw [OpenClaim.pre_eq_preRow]; exact assignMore_lifted os started H enc F)

end Go.Proofs.Ytgaipdillmleeaa
end
section
/- AssignParts: the statement, where what is read is of bulk at most 1048576. -/
set_option linter.unusedVariables false
set_option linter.unusedSimpArgs false
namespace Go.Proofs.Ytgaipdillmleeaa
open Go.ChangeShapes Go.WideShapes Go.ChangeAt Go.RowKit
open Go.ChangeMaps (open_string shut_string)
open V AS
theorem rv_intz {B : Nat → Value} {W : World} {z : Int} (h : (Lit.int .i64 z).wf = true) : RV B W (fun b _ => b < W.heap.size) (.c (.int .i64 z)) (.int .i64 z) := RC.int h
theorem assignParts_met (os : Os) : laidMet Try.prog Rows.assignPartsUptoRow.laid ((World.holding Try.prog os ⟨#[], #[], []⟩).forCall (fun _ _ => 0) ⟨#[], #[.slice none 0 0, .slice none 0 0, .int .i64 0], []⟩).memory :=
  laidMet_of_run' 8 (by kernel_rfl) (by kernel_rfl)
theorem assignParts_reads (os : Os) {H : Type} (enc : TypeId × Value → H) : ∃ places, DataW.whole enc Try.prog ((World.holding Try.prog os ⟨#[], #[], []⟩).forCall (fun _ _ => 0) ⟨#[], #[.slice none 0 0, .slice none 0 0, .int .i64 0], []⟩).memory Try.f5.params.toList Rows.assignPartsSpec.vars false (#[.slice none 0 0, .slice none 0 0, .int .i64 0] : Array Value).toList 8 = some ([.nil, .nil, .lit (.int .i64 0)], [], places) :=
  ⟨[], by kernel_rfl⟩
set_option maxRecDepth 100000 in
set_option maxHeartbeats 2000000 in
theorem assignParts_lifted (os : Os) (started : os.Started) (H : Type) (enc : TypeId × Value → H) (F : Stop.Interp) :
    ReturnsInHanded {} Try.checked os 5 .any ((Rows.OpenSpec.upto Rows.assignPartsSpec).preRow enc Try.prog Try.f5 Rows.assignPartsUptoRow.domain false Rows.assignPartsUptoRow.laid) (((Rows.OpenSpec.upto Rows.assignPartsSpec).at F).post enc Try.prog Try.f5 false true false false) := by
  obtain ⟨places, hx⟩ := assignParts_reads os enc
  refine returnsInHanded_of_row (C := Try.checked) (s := Rows.OpenSpec.upto Rows.assignPartsSpec) own started (by kernel_rfl) Try.func5
    (witness_row_at (enc := enc) (C := Try.checked) false (World.holding Try.prog os ⟨#[], #[], []⟩) #[.slice none 0 0, .slice none 0 0, .int .i64 0] rfl (by kernel_rfl) (by kernel_rfl) (by kernel_rfl)
      (OpenSpec.preRow_of_cond 8 hx (by kernel_rfl) (fun k hk => by cases hk; rfl) (by kernel_rfl) (assignParts_met os))) ?_
  intro W base args ds gs before hval0 hW _ hcond hsz0 _ hsh _
  have hbulk : Rows.uptoBulkAll (ds ++ gs) ≤ 1048576 := of_decide_eq_true (hcond _ rfl)
  clear hcond
  have hval : ∀ (j : Nat) t v, Try.f5.params[j]? = some t → args[j]? = some v → Value.okWide Try.prog W .any base t v := hval0
  have hW' := hW
  obtain ⟨p, q, hA0, hV, rfl, hfz, hnd⟩ := hW
  have hA : DataW.TrodAll enc Try.prog W 0 (fun _ => true) true Try.f5.params.toList args.toList ds p := hA0
  have hsz : ∀ n ∈ DataW.weightsEach Try.prog (Try.f5.params.toList ++ Rows.assignPartsSpec.plain.varTypes Try.prog) (ds ++ gs), n ≤ reachBytes := fun n hn => of_decide_eq_true (List.all_eq_true.1 hsz0 n hn)
  rw [Try.params5] at hA hval hsz
  clear hsz0
  obtain ⟨v0, vs0, d0, ds0, p0, q0, hargs, rfl, rfl, h0, r0⟩ := trodAll_cons hA
  obtain ⟨v1, vs1, d1, ds1, p1, q1, rfl, rfl, rfl, h1, r1⟩ := trodAll_cons r0
  obtain ⟨v2, vs2, d2, ds2, p2, q2, rfl, rfl, rfl, h2, r2⟩ := trodAll_cons r1
  obtain ⟨rfl, rfl, rfl⟩ := trodAll_nil r2
  obtain rfl : args = #[v0, v1, v2] := by cases args; simp_all
  obtain ⟨rfl, rfl⟩ := trodVars_none hV
  clear hA0 hval0
  simp only [List.append_nil] at hW'
  have k0 := h0
  have lt0 : ∀ x ∈ p0, x.block < W.heap.size := by obtain ⟨m, hm⟩ := k0; exact DataW.trod_lt m _ _ _ hm
  have k1 := h1
  have lt1 : ∀ x ∈ p1, x.block < W.heap.size := by obtain ⟨m, hm⟩ := k1; exact DataW.trod_lt m _ _ _ hm
  have k2 := h2
  have lt2 : ∀ x ∈ p2, x.block < W.heap.size := by obtain ⟨m, hm⟩ := k2; exact DataW.trod_lt m _ _ _ hm
  have fit0 : Fits Try.prog 22 d0 := fun n hn => hsz n (DataW.weights_mem_each (j := 0) rfl rfl n hn)
  obtain ⟨sa0, sn0, sc0, rfl⟩ := okWide_slice Try.underlying22 (hval 0 22 v0 rfl rfl)
  obtain ⟨rn0, h0⟩ := h0
  obtain ⟨rv0, l0, re0, R0⟩ := read_strings fit0 h0
  obtain rfl : rv0 = _ := by simpa [Value.cells] using re0.symm
  have m0 : l0.length ≤ 1048576 := strs_small R0 h0 (Nat.le_trans (bulk_mem (by simp)) hbulk)
  have fit1 : Fits Try.prog 23 d1 := fun n hn => hsz n (DataW.weights_mem_each (j := 1) rfl rfl n hn)
  obtain ⟨sa1, sn1, sc1, rfl⟩ := okWide_slice Try.underlying23 (hval 1 23 v1 rfl rfl)
  obtain ⟨rn1, h1⟩ := h1
  obtain ⟨rv1, l1, re1, R1⟩ := read_stmts fit1 h1
  obtain rfl : rv1 = _ := by simpa [Value.cells] using re1.symm
  obtain ⟨m1, ms1, mc1⟩ := stmts_small R1 h1 (Nat.le_trans (bulk_mem (by simp)) hbulk)
  obtain ⟨z2, rfl⟩ := okWide_int Try.underlying3 (hval 2 3 v2 rfl rfl)
  obtain ⟨rn2, h2⟩ := h2
  obtain ⟨s2, e2, -, wf2⟩ := DataW.trod_int Try.underlying3 h2
  obtain rfl : z2 = s2 := by simpa [Value.cells] using e2
  have hzw : -9223372036854775808 ≤ z2 ∧ z2 ≤ 9223372036854775807 := by
    rw [lit_wf] at wf2
    simpa [IntKind.min, IntKind.max, IntKind.bits, IntKind.signed] using wf2
  refine (cok_true (vals := [_, _, _]) (lawParts_ok (l0.map bs) l1 z2 hzw ⟨by rw [List.length_map]; omega, m1, ms1⟩ _) trivial (fun B => ⟨rv_strs R0, rv_stmts R1, rv_intz wf2, trivial⟩)).mono fun e W' ⟨he, bel⟩ => ?_
  subst he
  exact ⟨_, rfl, _, _, _, [], _, [], hW', trodAll_mk1 (shut_bool Try.underlying4 _), trodAll_cons_mk (Below.trod laidOut (by kernel_rfl) (of_decide_eq_true (by kernel_rfl)) k0 bel lt0) (trodAll_cons_mk (Below.trod laidOut (by kernel_rfl) (of_decide_eq_true (by kernel_rfl)) k1 bel lt1) (trodAll_cons_mk (Below.trod laidOut (by kernel_rfl) (of_decide_eq_true (by kernel_rfl)) k2 bel lt2) trodAll_mk0)), rfl, bel.frame _, fun h => by cases h⟩

theorem assignParts_holds : Rows.AssignPartsUptoSaid :=
  OpenClaim.holds_of_cond 5 Try.f5 rfl rfl rfl rfl rfl rfl rfl ⟨rfl, rfl, rfl, rfl, rfl⟩ rfl rfl rfl rfl rfl (by kernel_rfl) Try.func5 (by kernel_rfl)
    (of_decide_eq_true (by kernel_rfl)) (by unfold Func.isWrapper; first | (rw [if_pos (by decide +kernel)]; kernel_rfl) | (rw [if_neg (by decide +kernel)]; exact ⟨rfl, rfl⟩))
    (fun os started H enc _ F => by rw [OpenClaim.pre_eq_preRow]; exact assignParts_lifted os started H enc F)

end Go.Proofs.Ytgaipdillmleeaa
end
section
/- AssignLoop: the statement, where what is read is of bulk at most 1048576. -/
set_option linter.unusedVariables false
set_option linter.unusedSimpArgs false
namespace Go.Proofs.Ytgaipdillmleeaa
open Go.ChangeShapes Go.WideShapes Go.ChangeAt Go.RowKit
open Go.ChangeMaps (open_string shut_string)
open V AS
theorem assignLoop_met (os : Os) : laidMet Try.prog Rows.assignLoopUptoRow.laid ((World.holding Try.prog os ⟨#[], #[], []⟩).forCall (fun _ _ => 0) ⟨#[], #[.slice none 0 0, .slice none 0 0], []⟩).memory :=
  laidMet_of_run' 8 (by kernel_rfl) (by kernel_rfl)
theorem assignLoop_reads (os : Os) {H : Type} (enc : TypeId × Value → H) : ∃ places, DataW.whole enc Try.prog ((World.holding Try.prog os ⟨#[], #[], []⟩).forCall (fun _ _ => 0) ⟨#[], #[.slice none 0 0, .slice none 0 0], []⟩).memory Try.f6.params.toList Rows.assignLoopSpec.vars false (#[.slice none 0 0, .slice none 0 0] : Array Value).toList 8 = some ([.nil, .nil], [], places) :=
  ⟨[], by kernel_rfl⟩
set_option maxRecDepth 100000 in
set_option maxHeartbeats 2000000 in
theorem assignLoop_lifted (os : Os) (started : os.Started) (H : Type) (enc : TypeId × Value → H) (F : Stop.Interp) :
    ReturnsInHanded {} Try.checked os 6 .any ((Rows.OpenSpec.upto Rows.assignLoopSpec).preRow enc Try.prog Try.f6 Rows.assignLoopUptoRow.domain false Rows.assignLoopUptoRow.laid) (((Rows.OpenSpec.upto Rows.assignLoopSpec).at F).post enc Try.prog Try.f6 false true false false) := by
  obtain ⟨places, hx⟩ := assignLoop_reads os enc
  refine returnsInHanded_of_row (C := Try.checked) (s := Rows.OpenSpec.upto Rows.assignLoopSpec) own started (by kernel_rfl) Try.func6
    (witness_row_at (enc := enc) (C := Try.checked) false (World.holding Try.prog os ⟨#[], #[], []⟩) #[.slice none 0 0, .slice none 0 0] rfl (by kernel_rfl) (by kernel_rfl) (by kernel_rfl)
      (OpenSpec.preRow_of_cond 8 hx (by kernel_rfl) (fun k hk => by cases hk; rfl) (by kernel_rfl) (assignLoop_met os))) ?_
  intro W base args ds gs before hval0 hW _ hcond hsz0 _ hsh _
  have hbulk : Rows.uptoBulkAll (ds ++ gs) ≤ 1048576 := of_decide_eq_true (hcond _ rfl)
  clear hcond
  have hval : ∀ (j : Nat) t v, Try.f6.params[j]? = some t → args[j]? = some v → Value.okWide Try.prog W .any base t v := hval0
  have hW' := hW
  obtain ⟨p, q, hA0, hV, rfl, hfz, hnd⟩ := hW
  have hA : DataW.TrodAll enc Try.prog W 0 (fun _ => true) true Try.f6.params.toList args.toList ds p := hA0
  have hsz : ∀ n ∈ DataW.weightsEach Try.prog (Try.f6.params.toList ++ Rows.assignLoopSpec.plain.varTypes Try.prog) (ds ++ gs), n ≤ reachBytes := fun n hn => of_decide_eq_true (List.all_eq_true.1 hsz0 n hn)
  rw [Try.params6] at hA hval hsz
  clear hsz0
  obtain ⟨v0, vs0, d0, ds0, p0, q0, hargs, rfl, rfl, h0, r0⟩ := trodAll_cons hA
  obtain ⟨v1, vs1, d1, ds1, p1, q1, rfl, rfl, rfl, h1, r1⟩ := trodAll_cons r0
  obtain ⟨rfl, rfl, rfl⟩ := trodAll_nil r1
  obtain rfl : args = #[v0, v1] := by cases args; simp_all
  obtain ⟨rfl, rfl⟩ := trodVars_none hV
  clear hA0 hval0
  simp only [List.append_nil] at hW'
  have k0 := h0
  have lt0 : ∀ x ∈ p0, x.block < W.heap.size := by obtain ⟨m, hm⟩ := k0; exact DataW.trod_lt m _ _ _ hm
  have k1 := h1
  have lt1 : ∀ x ∈ p1, x.block < W.heap.size := by obtain ⟨m, hm⟩ := k1; exact DataW.trod_lt m _ _ _ hm
  have fit0 : Fits Try.prog 22 d0 := fun n hn => hsz n (DataW.weights_mem_each (j := 0) rfl rfl n hn)
  obtain ⟨sa0, sn0, sc0, rfl⟩ := okWide_slice Try.underlying22 (hval 0 22 v0 rfl rfl)
  obtain ⟨rn0, h0⟩ := h0
  obtain ⟨rv0, l0, re0, R0⟩ := read_strings fit0 h0
  obtain rfl : rv0 = _ := by simpa [Value.cells] using re0.symm
  have m0 : l0.length ≤ 1048576 := strs_small R0 h0 (Nat.le_trans (bulk_mem (by simp)) hbulk)
  have fit1 : Fits Try.prog 23 d1 := fun n hn => hsz n (DataW.weights_mem_each (j := 1) rfl rfl n hn)
  obtain ⟨sa1, sn1, sc1, rfl⟩ := okWide_slice Try.underlying23 (hval 1 23 v1 rfl rfl)
  obtain ⟨rn1, h1⟩ := h1
  obtain ⟨rv1, l1, re1, R1⟩ := read_stmts fit1 h1
  obtain rfl : rv1 = _ := by simpa [Value.cells] using re1.symm
  obtain ⟨m1, ms1, mc1⟩ := stmts_small R1 h1 (Nat.le_trans (bulk_mem (by simp)) hbulk)
  refine (cok_true (vals := [_, _]) (lawLoop_ok (l0.map bs) l1 ⟨by rw [List.length_map]; omega, m1, ms1⟩ (by rw [List.length_map]; omega) _) trivial (fun B => ⟨rv_strs R0, rv_stmts R1, trivial⟩)).mono fun e W' ⟨he, bel⟩ => ?_
  subst he
  exact ⟨_, rfl, _, _, _, [], _, [], hW', trodAll_mk1 (shut_bool Try.underlying4 _), trodAll_cons_mk (Below.trod laidOut (by kernel_rfl) (of_decide_eq_true (by kernel_rfl)) k0 bel lt0) (trodAll_cons_mk (Below.trod laidOut (by kernel_rfl) (of_decide_eq_true (by kernel_rfl)) k1 bel lt1) trodAll_mk0), rfl, bel.frame _, fun h => by cases h⟩

theorem assignLoop_holds : Rows.AssignLoopUptoSaid :=
  OpenClaim.holds_of_cond 6 Try.f6 rfl rfl rfl rfl rfl rfl rfl ⟨rfl, rfl, rfl, rfl, rfl⟩ rfl rfl rfl rfl rfl (by kernel_rfl) Try.func6 (by kernel_rfl)
    (of_decide_eq_true (by kernel_rfl)) (by unfold Func.isWrapper; first | (rw [if_pos (by decide +kernel)]; kernel_rfl) | (rw [if_neg (by decide +kernel)]; exact ⟨rfl, rfl⟩))
    (fun os started H enc _ F => by rw [OpenClaim.pre_eq_preRow]; exact assignLoop_lifted os started H enc F)

end Go.Proofs.Ytgaipdillmleeaa
end
section
/- The laws of layer 08, together. -/
end
