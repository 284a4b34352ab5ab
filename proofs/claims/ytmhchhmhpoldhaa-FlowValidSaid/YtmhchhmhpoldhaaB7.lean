/- Joined by my own program, in build order: Ed, RE, Eb, Spr. -/
import Derived.Test.YtmhchhmhpoldhaaB5
import Derived.Test.YtmhchhmhpoldhaaB6
import Derived.Test.YtmhchhmhpoldhaaB4
import Derived.Test.YtmhchhmhpoldhaaB1
set_option linter.unusedVariables false
set_option linter.unusedSimpArgs false
namespace Go.Proofs.Ytmhchhmhpoldhaa
theorem zb7q1 {p : Prop} (h : p := by (first | (simp only [upd_app, killS_app, A.kill, entry_zero, entry_succ, Nat.reduceEqDiff, reduceIte, EM_7, EM_8, EM_9, EM_12, EM_37, EM_38, EM_39, EM_40, EM_56, EM_57, EM_58, EM_60, EM_61, EM_16, EM_17, EM_23, EM_25, EM_26, xb_none, xb_some, nms, nm_small, nm_small', Nat.reduceLT, elem_nm, elem_60, elem_61, Bool.false_eq_true, if_false, wrap_succ (show jw + 1 < 9223372036854775808 by omega)]; done) | rfl)) : p := h
theorem zb7q2 {p : Prop} (h : p := by (first | (simp only [upd_app, killS_app, A.kill, entry_zero, entry_succ, Nat.reduceEqDiff, reduceIte, EM_7, EM_8, EM_9, EM_12, EM_37, EM_38, EM_39, EM_40, EM_56, EM_57, EM_58, EM_60, EM_61, EM_16, EM_17, EM_23, EM_25, EM_26, xb_none, xb_some, nms, nm_small, nm_small', Nat.reduceLT, elem_nm, elem_60, elem_61, Bool.false_eq_true, if_false, wrap_succ (show k + 1 < 9223372036854775808 by omega)]; done) | rfl)) : p := h
theorem zb7q3 {p : Prop} (h : p := by (first | (simp only [upd_app, killS_app, A.kill, entry_zero, entry_succ, Nat.reduceEqDiff, reduceIte, EM_7, EM_8, EM_9, EM_12, EM_37, EM_38, EM_39, EM_40, EM_56, EM_57, EM_58, EM_60, EM_61, EM_16, EM_17, EM_23, EM_25, EM_26, xb_none, xb_some, nms, nm_small, nm_small', Nat.reduceLT, elem_nm, elem_60, elem_61, Bool.false_eq_true, if_false, wrap_succ (show j + 1 < 9223372036854775808 by omega)]; done) | rfl)) : p := h
theorem zb7q4 {p : Prop} (h : p := by (simp only [exec1, exb, Nat.reduceAdd, Nat.reduceLeDiff, Nat.reduceEqDiff, Nat.reduceMul, Int.reduceToNat, reduceIte, Int.reduceLE, Int.reduceNeg, EM_7, EM_8, EM_9, EM_12, EM_37, EM_38, EM_39, EM_40, EM_56, EM_57, EM_58, EM_60, EM_61, EM_16, EM_17, EM_23, EM_25, EM_26, xb_none, xb_some, nms, nm_small, nm_small', Nat.reduceLT, elem_nm, elem_60, elem_61, fr, hrv, hcv, cP, q1, hrow, Bool.false_eq_true]; rfl)) : p := h
theorem zb7q5 {p : Prop} (h : p := by (simp only [exb, Nat.reduceAdd, Nat.reduceLeDiff, Nat.reduceEqDiff, Nat.reduceMul, Int.reduceToNat, reduceIte, Int.reduceLE, Int.reduceNeg, EM_7, EM_8, EM_9, EM_12, EM_37, EM_38, EM_39, EM_40, EM_56, EM_57, EM_58, EM_60, EM_61, EM_16, EM_17, EM_23, EM_25, EM_26, xb_none, xb_some, nms, nm_small, nm_small', Nat.reduceLT, elem_nm, elem_60, elem_61, q1, hrow, cP, Bool.false_eq_true, List.length_map]; rfl)) : p := h
theorem zb7q6 {p : Prop} (h : p := by (simp only [exb, Nat.reduceAdd, Nat.reduceLeDiff, Nat.reduceEqDiff, Nat.reduceMul, Int.reduceToNat, reduceIte, Int.reduceLE, Int.reduceNeg, EM_7, EM_8, EM_9, EM_12, EM_37, EM_38, EM_39, EM_40, EM_56, EM_57, EM_58, EM_60, EM_61, EM_16, EM_17, EM_23, EM_25, EM_26, xb_none, xb_some, nms, nm_small, nm_small', Nat.reduceLT, elem_nm, elem_60, elem_61, fr, hrv, hcv, cP, q1, hrow, Bool.false_eq_true] <;> rfl)) : p := h
theorem zb7q7 {p : Prop} (h : p := by (simp only [exb, Nat.reduceAdd, Nat.reduceLeDiff, Nat.reduceEqDiff, Nat.reduceMul, Int.reduceToNat, reduceIte, Int.reduceLE, Int.reduceNeg, EM_7, EM_8, EM_9, EM_12, EM_37, EM_38, EM_39, EM_40, EM_56, EM_57, EM_58, EM_60, EM_61, EM_16, EM_17, EM_23, EM_25, EM_26, xb_none, xb_some, nms, nm_small, nm_small', Nat.reduceLT, elem_nm, elem_60, elem_61, fr, hrv, hcv, cP, q1, hrow, Bool.false_eq_true]; done)) : p := h
theorem zb7q8 {p : Prop} (h : p := by (simp only [exb, Nat.reduceAdd, Nat.reduceLeDiff, Nat.reduceEqDiff, Nat.reduceMul, Int.reduceToNat, reduceIte, Int.reduceLE, Int.reduceNeg, EM_7, EM_8, EM_9, EM_12, EM_37, EM_38, EM_39, EM_40, EM_56, EM_57, EM_58, EM_60, EM_61, EM_16, EM_17, EM_23, EM_25, EM_26, xb_none, xb_some, nms, nm_small, nm_small', Nat.reduceLT, elem_nm, elem_60, elem_61, fr, hrv, hcv, cP, q1, hrow, Bool.false_eq_true]; rfl)) : p := h
theorem zb7q9 {p : Prop} (h : p := by (simp only [exb, Nat.reduceAdd, Nat.reduceLeDiff, Nat.reduceEqDiff, Nat.reduceMul, Int.reduceToNat, reduceIte, Int.reduceLE, Int.reduceNeg, EM_7, EM_8, EM_9, EM_12, EM_37, EM_38, EM_39, EM_40, EM_56, EM_57, EM_58, EM_60, EM_61, EM_16, EM_17, EM_23, EM_25, EM_26, xb_none, xb_some, nms, nm_small, nm_small', Nat.reduceLT, elem_nm, elem_60, elem_61, q1, cP, Bool.false_eq_true, List.length_map]; rfl)) : p := h
theorem zb7q10 {p : Prop} (h : p := by (first | rfl | (simp only [exb, Nat.reduceAdd, Nat.reduceLeDiff, Nat.reduceEqDiff, Nat.reduceMul, Int.reduceToNat, reduceIte, Int.reduceLE, Int.reduceNeg, EM_7, EM_8, EM_9, EM_12, EM_37, EM_38, EM_39, EM_40, EM_56, EM_57, EM_58, EM_60, EM_61, EM_16, EM_17, EM_23, EM_25, EM_26, xb_none, xb_some, nms, nm_small, nm_small', Nat.reduceLT, elem_nm, elem_60, elem_61, hrv, hcv, cP]; rfl))) : p := h
theorem zb7q11 {p : Prop} (h : p := by (simp only [exb, Nat.reduceAdd, Nat.reduceLeDiff, Nat.reduceEqDiff, Nat.reduceMul, Int.reduceToNat, reduceIte, Int.reduceLE, Int.reduceNeg, EM_7, EM_8, EM_9, EM_12, EM_37, EM_38, EM_39, EM_40, EM_56, EM_57, EM_58, EM_60, EM_61, EM_16, EM_17, EM_23, EM_25, EM_26, xb_none, xb_some, nms, nm_small, nm_small', Nat.reduceLT, elem_nm, elem_60, elem_61, cP, q1, Bool.false_eq_true]; rfl)) : p := h
theorem zb7q12 {p : Prop} (h : p := by (simp only [exb, Nat.reduceAdd, Nat.reduceLeDiff, Nat.reduceEqDiff, Nat.reduceMul, Int.reduceToNat, reduceIte, Int.reduceLE, Int.reduceNeg, EM_7, EM_8, EM_9, EM_12, EM_37, EM_38, EM_39, EM_40, EM_56, EM_57, EM_58, EM_60, EM_61, EM_16, EM_17, EM_23, EM_25, EM_26, xb_none, xb_some, nms, nm_small, nm_small', Nat.reduceLT, elem_nm, elem_60, elem_61, hrv, hcv, cP, hsI, hq]; rfl)) : p := h
theorem zb7q13 {p : Prop} (h : p := by (simp only [exb, Nat.reduceAdd, Nat.reduceLeDiff, Nat.reduceEqDiff, Nat.reduceMul, Int.reduceToNat, reduceIte, Int.reduceLE, Int.reduceNeg, EM_7, EM_8, EM_9, EM_12, EM_37, EM_38, EM_39, EM_40, EM_56, EM_57, EM_58, EM_60, EM_61, EM_16, EM_17, EM_23, EM_25, EM_26, xb_none, xb_some, nms, nm_small, nm_small', Nat.reduceLT, elem_nm, elem_60, elem_61, hrv, hcv, cP]; rfl)) : p := h
theorem zb7q14 {p : Prop} (h : p := by (simp only [exb, Nat.reduceAdd, Nat.reduceLeDiff, Nat.reduceEqDiff, Nat.reduceMul, Int.reduceToNat, reduceIte, Int.reduceLE, Int.reduceNeg, EM_7, EM_8, EM_9, EM_12, EM_37, EM_38, EM_39, EM_40, EM_56, EM_57, EM_58, EM_60, EM_61, EM_16, EM_17, EM_23, EM_25, EM_26, xb_none, xb_some, nms, nm_small, nm_small', Nat.reduceLT, elem_nm, elem_60, elem_61, cP]; rfl)) : p := h
theorem zb7q15 {p : Prop} (h : p := by (first | (simp only [upd_app, killS_app, A.kill, entry_zero, entry_succ, Nat.reduceEqDiff, reduceIte, EM_7, EM_8, EM_9, EM_12, EM_37, EM_38, EM_39, EM_40, EM_56, EM_57, EM_58, EM_60, EM_61, EM_16, EM_17, EM_23, EM_25, EM_26, xb_none, xb_some, nms, nm_small, nm_small', Nat.reduceLT, elem_nm, elem_60, elem_61, Bool.false_eq_true, if_false]; done) | rfl)) : p := h
theorem zb7q16 {p : Prop} (h : p := by (simp only [exb, Nat.reduceAdd, Nat.reduceLeDiff, Nat.reduceEqDiff, Nat.reduceMul, Int.reduceToNat, reduceIte, Int.reduceLE, Int.reduceNeg, EM_7, EM_8, EM_9, EM_12, EM_37, EM_38, EM_39, EM_40, EM_56, EM_57, EM_58, EM_60, EM_61, EM_16, EM_17, EM_23, EM_25, EM_26, xb_none, xb_some, nms, nm_small, nm_small', Nat.reduceLT, elem_nm, elem_60, elem_61]; rfl)) : p := h
theorem zb7q17 {p : Prop} (h : p := by (simp only [exec1, exb, Nat.reduceAdd, Nat.reduceLeDiff, Nat.reduceEqDiff, Nat.reduceMul, Int.reduceToNat, reduceIte, Int.reduceLE, Int.reduceNeg, hj, hc2, htl, eq_self, true_or, or_true, true_and, and_true, Nat.zero_le, Nat.le_refl, Int.toNat_natCast, List.length_map]; rfl)) : p := h
theorem zb7q18 {p : Prop} (h : p := by (simp only [exb, Nat.reduceAdd, Nat.reduceLeDiff, Nat.reduceEqDiff, Nat.reduceMul, Int.reduceToNat, reduceIte, Int.reduceLE, Int.reduceNeg, hj, hc2, htl, eq_self, true_or, or_true, true_and, and_true, Nat.zero_le, Nat.le_refl, Int.toNat_natCast, List.length_map]; done)) : p := h
theorem zb7q19 {p : Prop} (h : p := by (simp only [exb, Nat.reduceAdd, Nat.reduceLeDiff, Nat.reduceEqDiff, Nat.reduceMul, Int.reduceToNat, reduceIte, Int.reduceLE, Int.reduceNeg, hj, hc2, htl, eq_self, true_or, or_true, true_and, and_true, Nat.zero_le, Nat.le_refl, Int.toNat_natCast, List.length_map]; rfl)) : p := h
theorem zb7q20 {p : Prop} (h : p := by (simp only [exb, Nat.reduceAdd, Nat.reduceLeDiff, Nat.reduceEqDiff, Nat.reduceMul, Int.reduceToNat, reduceIte, Int.reduceLE, Int.reduceNeg, hjI, h1, h2, h3, eq_self, at_map hy', hcy, Int.toNat_natCast, List.length_map, Int.lt_irrefl]; rfl)) : p := h
theorem zb7q21 {p : Prop} (h : p := by (simp [A.ids, EM_7, EM_8, EM_9, EM_12, EM_37, EM_38, EM_39, EM_40, EM_56, EM_57, EM_58, EM_60, EM_61, EM_16, EM_17, EM_23, EM_25, EM_26, xb_none, xb_some, nms, nm_small, nm_small', Nat.reduceLT, elem_nm, elem_60, elem_61])) : p := h
theorem zb7q22 {p : Prop} (h : p := by (simp only [exb, Nat.reduceAdd, Nat.reduceLeDiff, Nat.reduceEqDiff, Nat.reduceMul, Int.reduceToNat, reduceIte, Int.reduceLE, Int.reduceNeg, at_map hx, cN, rowF_at hxn, rowF_len, hxn, hx0, Int.toNat_natCast, and_self]; rfl)) : p := h
theorem zb7q23 {p : Prop} (h : p := by (first | rfl | (simp only [upd_app, killM_app, O.kill, A.kill, Nat.reduceEqDiff, reduceIte, Option.map_some, Option.map_none, List.map_cons, List.map_nil, wrap_succ (show j + 1 < 9223372036854775808 by omega)]; done))) : p := h
theorem zb7q24 {p : Prop} (h : p := by (first | rfl | (simp only [upd_app, killM_app, O.kill, A.kill, Nat.reduceEqDiff, reduceIte, Option.map_some, Option.map_none, List.map_cons, List.map_nil, wrap_succ (show k + 1 < 9223372036854775808 by omega)]; done))) : p := h
theorem zb7q25 {p : Prop} (h : p := by (first | rfl | (simp only [upd_app, killM_app, O.kill, A.kill, Nat.reduceEqDiff, reduceIte, Option.map_some, Option.map_none, List.map_cons, List.map_nil, List.map_nil]; done))) : p := h
theorem zb7q26 {p : Prop} (h : p := by (first | rfl | (simp only [upd_app, killS_app, A.kill, entry_zero, entry_succ, Nat.reduceEqDiff, reduceIte, wrap_succ (show j + 1 < 9223372036854775808 by omega)]; done))) : p := h
theorem zb7q27 {p : Prop} (h : p := by (first | rfl | (simp only [upd_app, killS_app, A.kill, entry_zero, entry_succ, Nat.reduceEqDiff, reduceIte, wrap_succ (show k + 1 < 9223372036854775808 by omega)]; done))) : p := h
theorem zb7q28 {p : Prop} (h : p := by (first | rfl | (simp only [upd_app, killM_app, O.kill, A.kill, Nat.reduceEqDiff, reduceIte, Option.map_some, Option.map_none, List.map_cons, List.map_nil, hins]; done))) : p := h
theorem zb7q29 {p : Prop} (h : p := by (simp only [exb, Nat.reduceAdd, Nat.reduceLeDiff, Nat.reduceEqDiff, Nat.reduceMul, Int.reduceToNat, reduceIte, Int.reduceLE, Int.reduceNeg, List.length_map]; rfl)) : p := h
theorem zb7q30 {p : Prop} (h : p := by (first | rfl | (simp only [upd_app, killM_app, O.kill, A.kill, Nat.reduceEqDiff, reduceIte, Option.map_some, Option.map_none, List.map_cons, List.map_nil]; done))) : p := h
theorem zb7q31 {p : Prop} (h : p := by (first | rfl | (simp only [exb, Nat.reduceAdd, Nat.reduceLeDiff, Nat.reduceEqDiff, Nat.reduceMul, Int.reduceToNat, reduceIte, Int.reduceLE, Int.reduceNeg]; rfl))) : p := h
theorem zb7q32 {p : Prop} (h : p := by (simp only [exb, Nat.reduceAdd, Nat.reduceLeDiff, Nat.reduceEqDiff, Nat.reduceMul, Int.reduceToNat, reduceIte, Int.reduceLE, Int.reduceNeg, errG]; rfl)) : p := h
theorem zb7q33 {p : Prop} (h : p := by (simp only [exb, Nat.reduceAdd, Nat.reduceLeDiff, Nat.reduceEqDiff, Nat.reduceMul, Int.reduceToNat, reduceIte, Int.reduceLE, Int.reduceNeg]; rfl)) : p := h
theorem zb7q34 {p : Prop} (h : p := by (simp only [exb, Nat.reduceAdd, Nat.reduceLeDiff, Nat.reduceEqDiff, Nat.reduceMul, Int.reduceToNat, reduceIte, Int.reduceLE, Int.reduceNeg])) : p := h
theorem zb7q35 {p : Prop} (h : p := by (first | rfl | (simp only [upd_app, killS_app, A.kill, entry_zero, entry_succ, Nat.reduceEqDiff, reduceIte, List.map_nil]; done))) : p := h
theorem zb7q36 {p : Prop} (h : p := by (simp only [List.length_append, List.length_take, List.length_drop, List.length_map, List.length_cons, List.length_nil]; omega)) : p := h
theorem zb7q37 {p : Prop} (h : p := by (first | rfl | (simp only [upd_app, killS_app, A.kill, entry_zero, entry_succ, Nat.reduceEqDiff, reduceIte, hins]; done))) : p := h
theorem zb7q38 {p : Prop} (h : p := by (first | rfl | (simp only [upd_app, killS_app, A.kill, entry_zero, entry_succ, Nat.reduceEqDiff, reduceIte]; done))) : p := h
theorem zb7q39 {p : Prop} (h : p := by (simp only [List.length_append, List.length_take, List.length_map, List.length_cons, List.length_nil]; omega)) : p := h
theorem zb7q40 {p : Prop} (h : p := by (simp [A.ids, O.ids, upd_app, wrap_succ (show j + 1 < 9223372036854775808 by omega)])) : p := h
theorem zb7q41 {p : Prop} (h : p := by (simp [A.ids, O.ids, upd_app, wrap_succ (show k + 1 < 9223372036854775808 by omega)])) : p := h
theorem zb7q42 {p : Prop} (h : p := by (simp [A.ids, upd_app, wrap_succ (show j + 1 < 9223372036854775808 by omega)])) : p := h
theorem zb7q43 {p : Prop} (h : p := by (simp [A.ids, upd_app, wrap_succ (show k + 1 < 9223372036854775808 by omega)])) : p := h
theorem zb7q44 {p : Prop} (h : p := by (simp only [List.length_map, List.length_cons, List.length_nil]; omega)) : p := h
theorem zb7q45 {p : Prop} (h : p := by (simp only [List.length_take, List.length_map]; omega)) : p := h
end Go.Proofs.Ytmhchhmhpoldhaa
section
namespace Go.Proofs.Ytmhchhmhpoldhaa
namespace V
open Go.RowKit G
set_option maxRecDepth 100000 in
set_option maxHeartbeats 8000000 in
theorem edges_ok (n : Nat) (hn : n ≤ 100000) (E : List SE) (hlen : E.length ≤ 100000000) (hE : ∀ e ∈ E, e.f < n ∧ e.t < n) (hc : chkS n (E.map castS) = true) (m : Mem) :
  COk Try.prog 39 [.c (.int .i64 n), .c (.sl ((E.map castS).map cS))] m (.tup [(false, [.sl (((sumL E n).map castE).map cE)]), (false, [.int .i64 0])]) := by
 have hk := check_ok n (E.map castS) (by rw [List.length_map]; omega)
 rw [hc] at hk
 have hnn : n * n ≤ 100000 * 100000 := Nat.mul_le_mul hn hn
 have hlE : (E.map castS).length = E.length := List.length_map _
 have f0 : ∀ j, (j < 56 ∨ (58 < j ∧ j < 100)) → soM E (soG E) j = none := fun j h => soM_free h
 have s7 := f0 7 (by decide)
 have s8 := f0 8 (by decide)
 have s9 := f0 9 (by decide)
 have s12 := f0 12 (by decide)
 have s37 := f0 37 (by decide)
 have s38 := f0 38 (by decide)
 have s39 := f0 39 (by decide)
 have s40 := f0 40 (by decide)
 have s60 := f0 60 (by decide)
 have s61 := f0 61 (by decide)
 refine (ok_pure tab_ok Try.func39 (by kernel_rfl) rfl rfl (by rfl) (by rfl) (by rfl) (fun R hkeep => ?_) m)
 (repeat (first | refine W.seq ?_ | refine W.block ?_ | refine W.skip ?_ | refine W.exit ?_))
 (repeat (first | refine W.seq ?_ | refine W.block ?_ | refine W.skip ?_ | refine W.exit ?_))
 refine W.g ?_
 (repeat (first | refine W.seq ?_ | refine W.block ?_ | refine W.skip ?_ | refine W.exit ?_))
 refine W.regionK tab_ok 0 (by decide) ?_
 refine xs0 2 ?_
 refine runk_call rfl rfl rfl rfl rfl (by simp) (cvs_cons cv_refl (cvs_cons cv_refl cvs_nil)) (hk _) ?_
 refine xe0 ?_
 (repeat (first | refine W.seq ?_ | refine W.block ?_ | refine W.skip ?_ | refine W.exit ?_))
 (repeat (first | refine W.seq ?_ | refine W.block ?_ | refine W.skip ?_ | refine W.exit ?_))
 refine W.g ?_ zb7q32
 (repeat (first | refine W.seq ?_ | refine W.block ?_ | refine W.skip ?_ | refine W.exit ?_))
 refine W.cond rfl ?_ ?_
 ·intro h; cases h
 intro _
 (repeat (first | refine W.seq ?_ | refine W.block ?_ | refine W.skip ?_ | refine W.exit ?_))
 refine W.regionK tab_ok 0 (by decide) ?_
 refine xs0 1 ?_
 refine runk_call0 rfl rfl rfl rfl rfl rfl (by simp) (cvs_cons cv_refl cvs_nil) (sorted_ok n hn E hlen hE) ?_
 refine runk_exec (by simp only [exb, Nat.reduceAdd, Nat.reduceLeDiff, Nat.reduceEqDiff, Nat.reduceMul, Int.reduceToNat, reduceIte, Int.reduceLE, Int.reduceNeg, s7, soM_56, soM_57, soM_58]; rfl) ?_
 repeat (first | refine W.seq ?_ | refine W.block ?_ | refine W.skip ?_ | refine W.exit ?_ | refine W.g ?_ (by simp only [exb, Nat.reduceAdd, Nat.reduceLeDiff, Nat.reduceEqDiff, Nat.reduceMul, Int.reduceToNat, reduceIte, Int.reduceLE, Int.reduceNeg, s8, s9, s12, s37, s38, s39, s40]; rfl))
 refine W.newRowBox false 12 0 60 72 2 zb7q33 rfl (by simp only [exb, Nat.reduceAdd, Nat.reduceLeDiff, Nat.reduceEqDiff, Nat.reduceMul, Int.reduceToNat, reduceIte, Int.reduceLE, Int.reduceNeg, s60]) ?_
 refine W.newRow false 13 61 72 2 zb7q34 (by simp only [exb, Nat.reduceAdd, Nat.reduceLeDiff, Nat.reduceEqDiff, Nat.reduceMul, Int.reduceToNat, reduceIte, Int.reduceLE, Int.reduceNeg, s61]) ?_
 refine W.loop (ι := Nat × List (Nat × Nat) × List (Nat × Nat)) (fun x => ⟨upd (upd (upd (upd (upd (upd (upd (upd (upd (upd (upd (fun _ => .top) 1 (.c (.sl ((E.map castS).map cS)))) 7 (.ptr 7 0)) 9 (.ptr 9 0)) 10 (.map 39)) 11 (.map 40)) 12 (.ptr 12 0)) 13 (.own 61)) 14 (.fn 51 [8, 9, 12])) 42 (.c (.sl ((E.map castS).map cS)))) 43 (.c (.int .i64 E.length))) 44 (.c (.int .i64 x.1)), EM E x.2.1 [] x.2.2 {}⟩)
  (fun x => x.1 ≤ E.length ∧ Base E n x.2.1 [] x.2.2 ∧ (∀ p ∈ x.2.1, p ∈ x.2.2) ∧ ∀ c ∈ E.take x.1, c.k = 4 → (c.t, c.t) ∈ x.2.1) (fun x => E.length - x.1) (0, [], []) ?start ⟨Nat.zero_le _, base_nil, (fun p hp => by cases hp), (fun c hc => by simp at hc)⟩ ?round
 case start =>
  refine le_mk ?sle ?mle ?swf ?mwf (kept_not hkeep) (by rfl)
  case swf => repeat (first | exact swf_top _ | refine swf_upd ?_ zb7q21)
  case sle => repeat (first | exact sle_top _ | exact sle_refl _ | refine sle_upd ?_ zb7q15)
  case mwf => exact EM_wf hn hE (fun p hp => by cases hp) (fun p hp => by cases hp)
  case mle =>
   refine mle_begin ?_ ?_ ?_ ?_ ?_ ?_ ?_ ?_ ?_ ?_ (fun j hj => ?_)
   iterate 10 (first | rfl | (simp only [exb, Nat.reduceAdd, Nat.reduceLeDiff, Nat.reduceEqDiff, Nat.reduceMul, Int.reduceToNat, reduceIte, Int.reduceLE, Int.reduceNeg, Bool.false_eq_true, if_false]; done))
   simp only [List.mem_cons, List.not_mem_nil, or_false, not_or] at hj
   obtain ⟨e1, e2, e3, e4, e5, e6, e7, e8, e9, e10⟩ := hj
   simp only [exb, Nat.reduceAdd, Nat.reduceLeDiff, Nat.reduceEqDiff, Nat.reduceMul, Int.reduceToNat, reduceIte, Int.reduceLE, Int.reduceNeg, e1, e2, e3, e4, e5, e6, e7, e8, e9, e10, if_false]
 case round =>
  rintro ⟨k, S, L⟩ ⟨hk, hB, hSL, hC⟩
  simp only at hk hB hSL hC
  have h16 : EM E S [] L {} 16 = none := EM_16
  repeat (first | refine W.seq ?_ | refine W.block ?_ | refine W.skip ?_ | refine W.exit ?_ | refine W.g ?_)
  refine W.cond rfl ?_ ?_
  ·intro hlt
   simp only [decide_eq_true_eq, Int.ofNat_lt] at hlt
   obtain ⟨c, hx⟩ : ∃ e, E[k]? = some e := ⟨_, List.getElem?_eq_getElem hlt⟩
   have hmem := List.mem_of_getElem? hx
   have hx' : (E.map castS)[k]? = some (castS c) := at_map hx
   have hcx : cS (castS c) = [.int .i64 (c.f : Int), .int .i64 (c.t : Int), .int .i64 (c.k : Int), .int .i64 (c.s : Int)] := rfl
   have htk : E.take (k + 1) = E.take k ++ [c] := by rw [List.take_add_one, hx]; rfl
   repeat (first | refine W.seq ?_ | refine W.block ?_ | refine W.skip ?_ | refine W.exit ?_ | refine W.g ?_ (by simp only [exb, Nat.reduceAdd, Nat.reduceLeDiff, Nat.reduceEqDiff, Nat.reduceMul, Int.reduceToNat, reduceIte, Int.reduceLE, Int.reduceNeg, at_map hx', hcx, h16]; rfl))
   refine W.weaken (st' := ⟨upd (upd (upd (upd (upd (upd (upd (upd (upd (upd (upd (upd (upd (fun _ => .top) 1 (.c (.sl ((E.map castS).map cS)))) 7 (.ptr 7 0)) 9 (.ptr 9 0)) 10 (.map 39)) 11 (.map 40)) 12 (.ptr 12 0)) 13 (.own 61)) 14 (.fn 51 [8, 9, 12])) 42 (.c (.sl ((E.map castS).map cS)))) 43 (.c (.int .i64 E.length))) 44 (.c (.int .i64 k))) 16 (.ptr 16 0)) 50 (.c (.bool (decide ((c.k : Int) = 4)))), EM E S [] L { x16 := some [.int .i64 (c.f : Int), .int .i64 (c.t : Int), .int .i64 (c.k : Int), .int .i64 (c.s : Int)] }⟩) ?_ ?_
   ·skip
    refine le_mk ?sle ?mle ?swf ?mwf (kept_not hkeep) (by rfl)
    case swf => repeat (first | exact swf_top _ | refine swf_upd ?_ zb7q21)
    case sle => repeat (first | exact sle_top _ | exact sle_refl _ | refine sle_upd ?_ zb7q15)
    case mwf => exact EM_wf hn hE hB.bS hB.bF
    case mle => exact EM_put (x := {}) (q := 16) zb7q34 EM_16 (fun j hj => by simp only [upd_app, hj, if_false]) (fun j hj => EM_x (.inl hj) (.inr rfl) (.inr rfl) (.inr rfl) (.inr rfl))
   by_cases k4 : c.k = 4
   ·have hct := (hE c hmem).2
    refine W.cond rfl ?_ ?_
    ·intro _
     (repeat (first | refine W.seq ?_ | refine W.block ?_ | refine W.skip ?_ | refine W.exit ?_))
     refine W.regionK tab_ok 0 (by decide) ?_
     refine runk_split 5 zb7q16 ?_
     refine runk_callE (D := [nm 3 c.t, 60]) rfl rfl rfl rfl rfl (fun j hj => nokeep hkeep) (by simp [EM_8, EM_9, EM_12]) (cvs_cons cv_refl (cvs_cons cv_refl (cvs_cons cv_refl (cvs_cons cv_refl (cvs_cons cv_refl cvs_nil))))) (way_ok n hn E hE S [] L hB (c.t, c.t) ⟨hct, hct⟩ _) ?_
     simp only [killL, putS, upd_upd]
     refine xe0 ?_
     repeat (first | refine W.seq ?_ | refine W.block ?_ | refine W.skip ?_ | refine W.exit ?_ | refine W.g ?_ zb7q16)
     refine ⟨(k + 1, wayS S (c.t, c.t), wayW S L (c.t, c.t)), ⟨hlt, hB.way (p := (c.t, c.t)) (.refl _) ⟨hct, hct⟩, fun q hq => ?_, fun c' hc' kc => ?_⟩, by simp only; omega, ?_⟩
     ·unfold wayS at hq; unfold wayW
      split at hq
      ·rename_i hh; rw [if_pos hh]; exact hSL q hq
      ·rename_i hh; rw [if_neg hh]
       rcases List.mem_append.1 hq with hq | hq
       ·exact List.mem_append_left _ (hSL q hq)
       ·exact List.mem_append_right _ hq
     ·rw [htk] at hc'
      rcases List.mem_append.1 hc' with hc' | hc'
      ·exact wayS_sub (hC c' hc' kc)
      ·rw [List.mem_singleton.1 hc']; exact wayS_mem _ _
     ·skip
      refine le_mk ?sle ?mle ?swf ?mwf (kept_not hkeep) (by rfl)
      case swf => repeat (first | exact swf_top _ | refine swf_upd ?_ zb7q21)
      case sle => repeat (first | exact sle_top _ | exact sle_refl _ | refine sle_upd ?_ zb7q2)
      case mwf => exact EM_wf hn hE (hB.way (p := (c.t, c.t)) (.refl _) ⟨hct, hct⟩).bS (hB.way (p := (c.t, c.t)) (.refl _) ⟨hct, hct⟩).bF
      case mle => exact EM_le (.inl rfl) (.inl rfl) (.inl rfl) (.inl rfl) (.inl rfl)
    ·intro h; simp at h; omega
   ·refine W.cond rfl ?_ ?_
    ·intro h; simp at h; omega
    ·intro _
     repeat (first | refine W.seq ?_ | refine W.block ?_ | refine W.skip ?_ | refine W.exit ?_ | refine W.g ?_ zb7q16)
     refine ⟨(k + 1, S, L), ⟨hlt, hB, hSL, fun c' hc' kc => ?_⟩, by simp only; omega, ?_⟩
     ·rw [htk] at hc'
      rcases List.mem_append.1 hc' with hc' | hc'
      ·exact hC c' hc' kc
      ·rw [List.mem_singleton.1 hc'] at kc; exact absurd kc k4
     ·skip
      refine le_mk ?sle ?mle ?swf ?mwf (kept_not hkeep) (by rfl)
      case swf => repeat (first | exact swf_top _ | refine swf_upd ?_ zb7q21)
      case sle => repeat (first | exact sle_top _ | exact sle_refl _ | refine sle_upd ?_ zb7q2)
      case mwf => exact EM_wf hn hE hB.bS hB.bF
      case mle => exact EM_le (.inl rfl) (.inl rfl) (.inl rfl) (.inl rfl) (.inl rfl)
  ·intro hge
   simp only [decide_eq_false_iff_not, Int.ofNat_lt] at hge
   obtain rfl : k = E.length := by omega
   rw [List.take_length] at hC
   have hJ := Jv.start hE hB hSL hC
   clear hC hSL
   repeat (first | refine W.seq ?_ | refine W.block ?_ | refine W.skip ?_ | refine W.exit ?_ | refine W.g ?_)
   refine W.loop (ι := List (Nat × Nat) × List (Nat × Nat) × List (Nat × Nat)) (fun x => ⟨upd (upd (upd (upd (upd (upd (upd (fun _ => .top) 7 (.ptr 7 0)) 9 (.ptr 9 0)) 10 (.map 39)) 11 (.map 40)) 12 (.ptr 12 0)) 13 (.own 61)) 14 (.fn 51 [8, 9, 12]), EM E x.1 x.2.1 x.2.2 {}⟩) (fun x => Jv E n x.1 x.2.1 x.2.2 no1 no2 no1) (fun x => toDo n x.1 x.2.2) (S, [], L) ?start2 hJ ?round2
   case start2 =>
    refine le_mk ?sle ?mle ?swf ?mwf (kept_not hkeep) (by rfl)
    case swf => repeat (first | exact swf_top _ | refine swf_upd ?_ zb7q21)
    case sle => repeat (first | exact sle_top _ | exact sle_refl _ | refine sle_upd ?_ zb7q15)
    case mwf => exact EM_wf hn hE hJ.base.bS hJ.base.bF
    case mle => exact mle_refl _
   case round2 =>
    clear hB hJ h16 S L
    rintro ⟨S, F, L⟩ hJ
    simp only at hJ
    have hlW := hJ.base.lenW
    rcases List.eq_nil_or_concat L with rfl | ⟨L', w, rfl⟩
    ·skip
     repeat (first | refine W.seq ?_ | refine W.block ?_ | refine W.skip ?_ | refine W.exit ?_ | refine W.g ?_ (by simp only [exb, Nat.reduceAdd, Nat.reduceLeDiff, Nat.reduceEqDiff, Nat.reduceMul, Int.reduceToNat, reduceIte, Int.reduceLE, Int.reduceNeg, EM_7, EM_8, EM_9, EM_12, EM_37, EM_38, EM_39, EM_40, EM_56, EM_57, EM_58, EM_60, EM_61, EM_16, EM_17, EM_23, EM_25, EM_26, xb_none, xb_some, nms, nm_small, nm_small', Nat.reduceLT, elem_nm, elem_60, elem_61, List.length_map]; rfl))
     refine W.cond rfl ?_ ?_
     ·intro h; simp at h
     intro _
     obtain ⟨Z, hz1, hz2, hz3⟩ := sortE_rising hJ.base.nF
     have hfin := sumL_ext hE hz2 (fun a d => (hz3 (a, d)).trans (hJ.all a d))
     subst hfin
     (repeat (first | refine W.seq ?_ | refine W.block ?_ | refine W.skip ?_ | refine W.exit ?_))
     refine W.regionK tab_ok 0 (by decide) ?_
     have h61 : EM E S F [] {} 61 = some (.mrow 72 2 ((F.map castE).map cE)) := by rw [EM_61, List.map_map]; rfl
     refine xs0 1 ?_
     refine runk_call0 rfl rfl rfl rfl rfl rfl (by simp) (cvs_cons cv_refl (cvs_cons cv_refl cvs_nil)) (sortE_ok (F.map castE) (by rw [List.length_map]; have := hJ.base.lenF; omega) (EM E S F [] {}) 61 h61) ?_
     refine xe0 ?_
     repeat (first | refine W.seq ?_ | refine W.block ?_ | refine W.skip ?_ | refine W.exit ?_ | refine W.g ?_)
     refine W.freeze 4 61 rfl zb7q33 (nokeep hkeep) ?_
     refine W.ret ⟨.inr rfl, by rfl, ?_⟩
     simp only [Try.f39, resA, resOne, toT, fin, exb, Nat.reduceAdd, Nat.reduceLeDiff, Nat.reduceEqDiff, Nat.reduceMul, Int.reduceToNat, reduceIte, Int.reduceLE, Int.reduceNeg]
     rw [show sortE (F.map castE) = (sumL E n).map castE from hz1]
    ·rw [List.concat_eq_append] at hJ hlW
     rw [List.concat_eq_append]
     have e1 : (((L' ++ [w]).length : Nat) : Int) - 1 = (L'.length : Int) := by simp
     have hlen' : (L' ++ [w]).length = L'.length + 1 := by simp
     have hat : ((L' ++ [w]).map cP)[L'.length]? = some (cP w) := by simp
     have h17 : EM E S F (L' ++ [w]) {} 17 = none := EM_17
     have hpos : (0 : Int) < ((L'.length + 1 : Nat) : Int) := by omega
     have e2 : (((L'.length + 1 : Nat) : Int) - 1) = (L'.length : Int) := by omega
     have e3 : IntKind.i64.wrap (L'.length : Int) = L'.length := wrap_nat (by omega)
     have e4 : (L'.length : Int) < ((L'.length + 1 : Nat) : Int) := by omega
     repeat (first | refine W.seq ?_ | refine W.block ?_ | refine W.skip ?_ | refine W.exit ?_ | refine W.g ?_ (by simp only [exb, Nat.reduceAdd, Nat.reduceLeDiff, Nat.reduceEqDiff, Nat.reduceMul, Int.reduceToNat, reduceIte, Int.reduceLE, Int.reduceNeg, EM_7, EM_8, EM_9, EM_12, EM_37, EM_38, EM_39, EM_40, EM_56, EM_57, EM_58, EM_60, EM_61, EM_16, EM_17, EM_23, EM_25, EM_26, xb_none, xb_some, nms, nm_small, nm_small', Nat.reduceLT, elem_nm, elem_60, elem_61, List.length_map, hlen', hpos]; rfl))
     refine W.cond rfl ?_ ?_
     ·intro _
      repeat (first | refine W.seq ?_ | refine W.block ?_ | refine W.skip ?_ | refine W.exit ?_ | refine W.g ?_ (by simp only [exb, Nat.reduceAdd, Nat.reduceLeDiff, Nat.reduceEqDiff, Nat.reduceMul, Int.reduceToNat, reduceIte, Int.reduceLE, Int.reduceNeg, EM_7, EM_8, EM_9, EM_12, EM_37, EM_38, EM_39, EM_40, EM_56, EM_57, EM_58, EM_60, EM_61, EM_16, EM_17, EM_23, EM_25, EM_26, xb_none, xb_some, nms, nm_small, nm_small', Nat.reduceLT, elem_nm, elem_60, elem_61, List.length_map, hlen', e2, e3, e4, hat, cP, h17, Int.toNat_natCast, and_self, Nat.lt_add_one, Nat.le_add_right, Nat.zero_le, eq_self, true_or, true_and]; rfl))
      refine W.rewinBox 12 0 60 zb7q33 rfl (by simp only [exb, Nat.reduceAdd, Nat.reduceLeDiff, Nat.reduceEqDiff, Nat.reduceMul, Int.reduceToNat, reduceIte, Int.reduceLE, Int.reduceNeg, EM_60]; rfl) (by simp) (by decide) (nokeep hkeep) ?_
      refine W.weaken (st' := ⟨upd (upd (upd (upd (upd (upd (upd (upd (fun _ => .top) 7 (.ptr 7 0)) 9 (.ptr 9 0)) 10 (.map 39)) 11 (.map 40)) 12 (.ptr 12 0)) 13 (.own 61)) 14 (.fn 51 [8, 9, 12])) 17 (.ptr 17 0), EM E S F L' { x17 := some (cP w) }⟩) ?_ ?_
      ·skip
       refine le_mk ?sle ?mle ?swf ?mwf (kept_not hkeep) (by rfl)
       case swf => repeat (first | exact swf_top _ | refine swf_upd ?_ zb7q21)
       case sle => repeat (first | exact sle_top _ | exact sle_refl _ | refine sle_upd ?_ zb7q15)
       case mwf => exact EM_wf hn hE hJ.base.bS hJ.base.bF
       case mle =>
        refine mle_work (W := L' ++ [w]) ?_ ?_ (fun j c1 c2 => .inr ?_)
        ·simp only [exb, Nat.reduceAdd, Nat.reduceLeDiff, Nat.reduceEqDiff, Nat.reduceMul, Int.reduceToNat, reduceIte, Int.reduceLE, Int.reduceNeg, List.set_cons_zero]
        ·simp only [exb, Nat.reduceAdd, Nat.reduceLeDiff, Nat.reduceEqDiff, Nat.reduceMul, Int.reduceToNat, reduceIte, Int.reduceLE, Int.reduceNeg]
         rw [List.map_append, List.take_append_of_le_length (by simp), List.take_of_length_le (by simp)]
        ·by_cases c3 : j = 17
         ·subst c3; simp only [exb, Nat.reduceAdd, Nat.reduceLeDiff, Nat.reduceEqDiff, Nat.reduceMul, Int.reduceToNat, reduceIte, Int.reduceLE, Int.reduceNeg, EM_17, xb_some, cP]
         ·simp only [exb, Nat.reduceAdd, Nat.reduceLeDiff, Nat.reduceEqDiff, Nat.reduceMul, Int.reduceToNat, reduceIte, Int.reduceLE, Int.reduceNeg, c1, c2, c3, if_false]
          rw [EM_kill (.inl ⟨rfl, c1⟩)]
          exact (EM_x (x := {}) (x' := { x17 := some (cP w) }) (.inr rfl) (.inl c3) (.inr rfl) (.inr rfl) (.inr rfl)).symm
      obtain ⟨hJ1, hwS, htd⟩ := hJ.pop
      have hwb := hJ1.base.bS w hwS
      clear hat e1 e2 e3 e4 hpos h17 hlW hJ
      have tP : ∀ e ∈ selE kP E w.2, SL E false w.1 w.2 → SL E false w.1 e.t ∧ (w.1 < n ∧ e.t < n) := fun e he hs => by
       obtain ⟨heE, hek⟩ := mem_selE.1 he
       refine ⟨.edge hs (mem_plE.2 ⟨e, heE, ?_⟩), hwb.1, (hE e heE).2⟩
       unfold kP at hek
       split at hek
       ·rename_i hh; exact ⟨hh, Option.some.inj hek, rfl⟩
       ·cases hek
      have lP : (selE kP E w.2).length ≤ E.length := List.length_filter_le _ _
      refine W.mono (K := fun e st' => e = Exit.normal ∧ asC st'.m (st'.s 76) = some (.sl ((selE kP E w.2).map vP)) ∧ Le R.keep ⟨upd st'.s 76 (.c (.sl ((selE kP E w.2).map vP))), st'.m⟩ ⟨upd (upd (upd (upd (upd (upd (upd (upd (upd (upd (upd (fun _ => .top) 7 (.ptr 7 0)) 9 (.ptr 9 0)) 10 (.map 39)) 11 (.map 40)) 12 (.ptr 12 0)) 13 (.own 61)) 14 (.fn 51 [8, 9, 12])) 17 (.ptr 17 0)) 76 (.c (.sl ((selE kP E w.2).map vP)))) 77 (.c (.int .i64 (selE kP E w.2).length))) 78 (.c (.int .i64 0)), EM E S F L' { x17 := some (cP w) }⟩) ?_ ?_
      ·by_cases hk : w.2 ∈ ksL kP E
       ·obtain ⟨q, q1, -, -⟩ := find_there (b := 0) (ks_nodup E) hk
        have hrow : ∀ x, EM E S F L' x (nm 0 w.2) = some (.arr 3 1 ((selE kP E w.2).map vP)) := fun x => by rw [EM_r1, rowsOf_ne (mem_ks.1 hk)]; rfl
        repeat (first | refine W.seq ?_ | refine W.block ?_ | refine W.skip ?_ | refine W.exit ?_ | refine W.g ?_ zb7q5)
        refine ⟨rfl, by simp only [exb, Nat.reduceAdd, Nat.reduceLeDiff, Nat.reduceEqDiff, Nat.reduceMul, Int.reduceToNat, reduceIte, Int.reduceLE, Int.reduceNeg, hrow], ?_⟩
        refine le_mk ?sle ?mle ?swf ?mwf (kept_not hkeep) (by rfl)
        case swf => repeat (first | exact swf_top _ | refine swf_upd ?_ zb7q21)
        case sle => repeat (first | exact sle_top _ | exact sle_refl _ | refine sle_upd ?_ zb7q15)
        case mwf => exact EM_wf hn hE hJ1.base.bS hJ1.base.bF
        case mle => exact mle_refl _
       ·have q1 := find_absent (id := 0) (b := 0) hk
        have hnil : (selE kP E w.2) = [] := Classical.byContradiction fun h => hk ((ks_inv _).2 _ |>.2 h)
        rw [hnil]
        repeat (first | refine W.seq ?_ | refine W.block ?_ | refine W.skip ?_ | refine W.exit ?_ | refine W.g ?_ zb7q9)
        refine ⟨rfl, by simp only [exb, Nat.reduceAdd, Nat.reduceLeDiff, Nat.reduceEqDiff, Nat.reduceMul, Int.reduceToNat, reduceIte, Int.reduceLE, Int.reduceNeg], ?_⟩
        refine le_mk ?sle ?mle ?swf ?mwf (kept_not hkeep) (by rfl)
        case swf => repeat (first | exact swf_top _ | refine swf_upd ?_ zb7q21)
        case sle => repeat (first | exact sle_top _ | exact sle_refl _ | refine sle_upd ?_ zb7q15)
        case mwf => exact EM_wf hn hE hJ1.base.bS hJ1.base.bF
        case mle => exact mle_refl _
      rintro e st' ⟨rfl, h2, h3⟩
      refine W.asData 76 h2 (W.weaken h3 ?_) (by decide)
      clear h2 h3 st'
      (repeat (first | refine W.seq ?_ | refine W.block ?_ | refine W.skip ?_ | refine W.exit ?_))
      refine W.loop (ι := Nat × List (Nat × Nat) × List (Nat × Nat)) (fun y => ⟨upd (upd (upd (upd (upd (upd (upd (upd (upd (upd (upd (fun _ => .top) 7 (.ptr 7 0)) 9 (.ptr 9 0)) 10 (.map 39)) 11 (.map 40)) 12 (.ptr 12 0)) 13 (.own 61)) 14 (.fn 51 [8, 9, 12])) 17 (.ptr 17 0)) 76 (.c (.sl ((selE kP E w.2).map vP)))) 77 (.c (.int .i64 (selE kP E w.2).length))) 78 (.c (.int .i64 y.1)), EM E y.2.1 F y.2.2 { x17 := some (cP w) }⟩)
       (fun y => y.1 ≤ (selE kP E w.2).length ∧ Jv E n y.2.1 F y.2.2 (· = w) (fun p _ => p = w) (· = w) ∧ (w ∈ y.2.1) ∧ (∀ e ∈ (selE kP E w.2).take y.1, (w.1, e.t) ∈ y.2.1) ∧ toDo n y.2.1 y.2.2 ≤ toDo n S L') (fun y => (selE kP E w.2).length - y.1) (0, S, L') ?start3 ⟨Nat.zero_le _, hJ1, hwS, (fun e he => by simp at he), Nat.le_refl _⟩ ?round3
      case start3 =>
       refine le_mk ?sle ?mle ?swf ?mwf (kept_not hkeep) (by rfl)
       case swf => repeat (first | exact swf_top _ | refine swf_upd ?_ zb7q21)
       case sle => repeat (first | exact sle_top _ | exact sle_refl _ | refine sle_upd ?_ zb7q15)
       case mwf => exact EM_wf hn hE hJ1.base.bS hJ1.base.bF
       case mle => exact mle_refl _
      case round3 =>
       rintro ⟨jw, S1, L1⟩ ⟨hj, hI, hw1, hd, hm1⟩
       simp only at hj hI hw1 hd hm1
       repeat (first | refine W.seq ?_ | refine W.block ?_ | refine W.skip ?_ | refine W.exit ?_ | refine W.g ?_)
       refine W.cond rfl ?_ ?_
       ·intro hlt
        simp only [decide_eq_true_eq, Int.ofNat_lt] at hlt
        obtain ⟨e, hx⟩ : ∃ e, (selE kP E w.2)[jw]? = some e := ⟨_, List.getElem?_eq_getElem hlt⟩
        have hx' : ((selE kP E w.2).map vP)[jw]? = some (vP e) := at_map hx
        obtain ⟨hsl, hbe⟩ := (tP e (List.mem_of_getElem? hx) (hI.base.sS w hw1))
        have htk : (selE kP E w.2).take (jw + 1) = (selE kP E w.2).take jw ++ [e] := by rw [List.take_add_one, hx]; rfl
        have hI2 := hI.way (p := (w.1, e.t)) hsl hbe
        repeat (first | refine W.seq ?_ | refine W.block ?_ | refine W.skip ?_ | refine W.exit ?_ | refine W.g ?_ (by simp only [exb, Nat.reduceAdd, Nat.reduceLeDiff, Nat.reduceEqDiff, Nat.reduceMul, Int.reduceToNat, reduceIte, Int.reduceLE, Int.reduceNeg, EM_7, EM_8, EM_9, EM_12, EM_37, EM_38, EM_39, EM_40, EM_56, EM_57, EM_58, EM_60, EM_61, EM_16, EM_17, EM_23, EM_25, EM_26, xb_none, xb_some, nms, nm_small, nm_small', Nat.reduceLT, elem_nm, elem_60, elem_61, hx', vP, cP]; rfl))
        refine W.regionK tab_ok 0 (by decide) ?_
        refine runk_split 4 zb7q14 ?_
        refine runk_callE (D := [nm 3 (e.t), 60]) rfl rfl rfl rfl rfl (fun j hj => nokeep hkeep) (by simp [EM_8, EM_9, EM_12]) (cvs_cons cv_refl (cvs_cons cv_refl (cvs_cons cv_refl (cvs_cons cv_refl (cvs_cons cv_refl cvs_nil))))) (way_ok n hn E hE S1 F L1 hI.base (w.1, e.t) hbe _) ?_
        simp only [killL, putS, upd_upd]
        refine xe0 ?_
        repeat (first | refine W.seq ?_ | refine W.block ?_ | refine W.skip ?_ | refine W.exit ?_ | refine W.g ?_ zb7q16)
        refine ⟨(jw + 1, wayS S1 (w.1, e.t), wayW S1 L1 (w.1, e.t)), ⟨hlt, hI2, wayS_sub hw1, fun e' he' => ?_, Nat.le_trans (hI.base.toDo_way hsl hbe) hm1⟩, by simp only; omega, ?_⟩
        ·rw [htk] at he'
         rcases List.mem_append.1 he' with he' | he'
         ·exact wayS_sub (hd e' he')
         ·rw [List.mem_singleton.1 he']; exact wayS_mem _ _
        ·skip
         refine le_mk ?sle ?mle ?swf ?mwf (kept_not hkeep) (by rfl)
         case swf => repeat (first | exact swf_top _ | refine swf_upd ?_ zb7q21)
         case sle => repeat (first | exact sle_top _ | exact sle_refl _ | refine sle_upd ?_ zb7q1)
         case mwf => exact EM_wf hn hE hI2.base.bS hI2.base.bF
         case mle => exact mle_refl _
       intro hge
       simp only [decide_eq_false_iff_not, Int.ofNat_lt] at hge
       obtain rfl : jw = (selE kP E w.2).length := by omega
       rw [List.take_length] at hd
       have hI1 := hI.done1 (fun b hb => by
        obtain ⟨e, he1, he2, he3, he4⟩ := mem_plE.1 hb
        rw [← he4]
        exact hd e (mem_selE.2 ⟨he1, by unfold kP; rw [if_pos he2, he3]⟩))
       (repeat (first | refine W.seq ?_ | refine W.block ?_ | refine W.skip ?_ | refine W.exit ?_))
       refine W.weaken (st' := ⟨upd (upd (upd (upd (upd (upd (upd (upd (fun _ => .top) 7 (.ptr 7 0)) 9 (.ptr 9 0)) 10 (.map 39)) 11 (.map 40)) 12 (.ptr 12 0)) 13 (.own 61)) 14 (.fn 51 [8, 9, 12])) 17 (.ptr 17 0), EM E S1 F L1 { x17 := some (cP w) }⟩) ?_ ?_
       ·skip
        refine le_mk ?sle ?mle ?swf ?mwf (kept_not hkeep) (by rfl)
        case swf => repeat (first | exact swf_top _ | refine swf_upd ?_ zb7q21)
        case sle => repeat (first | exact sle_top _ | exact sle_refl _ | refine sle_upd ?_ zb7q15)
        case mwf => exact EM_wf hn hE hI1.base.bS hI1.base.bF
        case mle => exact mle_refl _
       clear hI hd hj hge hJ1 hwS
       clear tP lP
       have tO : ∀ e ∈ selE kF F w.2, ∀ {S : List (Nat × Nat)} {L : List (Nat × Nat)}, Base E n S F L → w ∈ S → SL E false w.1 e.2 ∧ (w.1 < n ∧ e.2 < n) := fun e he S L hb hs => by
        obtain ⟨heF, hek⟩ := mem_selE.1 he
        have h1 := hb.sF e heF
        have hek : e.1 = w.2 := Option.some.inj hek
        rw [hek] at h1
        exact ⟨.over (hb.sS w hs) h1, hwb.1, (hb.bF e heF).2⟩
       have lO : (selE kF F w.2).length ≤ n * n := Nat.le_trans (List.length_filter_le _ _) hI1.base.lenF
       refine W.mono (K := fun e st' => e = Exit.normal ∧ asC st'.m (st'.s 91) = some (.sl ((selE kF F w.2).map vF)) ∧ Le R.keep ⟨upd st'.s 91 (.c (.sl ((selE kF F w.2).map vF))), st'.m⟩ ⟨upd (upd (upd (upd (upd (upd (upd (upd (upd (upd (upd (fun _ => .top) 7 (.ptr 7 0)) 9 (.ptr 9 0)) 10 (.map 39)) 11 (.map 40)) 12 (.ptr 12 0)) 13 (.own 61)) 14 (.fn 51 [8, 9, 12])) 17 (.ptr 17 0)) 91 (.c (.sl ((selE kF F w.2).map vF)))) 92 (.c (.int .i64 (selE kF F w.2).length))) 93 (.c (.int .i64 0)), EM E S1 F L1 { x17 := some (cP w) }⟩) ?_ ?_
       ·by_cases hk : w.2 ∈ ksL kF F
        ·obtain ⟨q, q1, -, -⟩ := find_there (b := 4) (ks_nodup F) hk
         have hrow : ∀ x, EM E S1 F L1 x (nm 4 w.2) = some (.arr 3 1 ((selE kF F w.2).map vF)) := fun x => by rw [EM_r5, rowsOf_ne (mem_ks.1 hk)]; rfl
         repeat (first | refine W.seq ?_ | refine W.block ?_ | refine W.skip ?_ | refine W.exit ?_ | refine W.g ?_ zb7q5)
         refine ⟨rfl, by simp only [exb, Nat.reduceAdd, Nat.reduceLeDiff, Nat.reduceEqDiff, Nat.reduceMul, Int.reduceToNat, reduceIte, Int.reduceLE, Int.reduceNeg, hrow], ?_⟩
         refine le_mk ?sle ?mle ?swf ?mwf (kept_not hkeep) (by rfl)
         case swf => repeat (first | exact swf_top _ | refine swf_upd ?_ zb7q21)
         case sle => repeat (first | exact sle_top _ | exact sle_refl _ | refine sle_upd ?_ zb7q15)
         case mwf => exact EM_wf hn hE hI1.base.bS hI1.base.bF
         case mle => exact mle_refl _
        ·have q1 := find_absent (id := 0) (b := 4) hk
         have hnil : (selE kF F w.2) = [] := Classical.byContradiction fun h => hk ((ks_inv _).2 _ |>.2 h)
         rw [hnil]
         repeat (first | refine W.seq ?_ | refine W.block ?_ | refine W.skip ?_ | refine W.exit ?_ | refine W.g ?_ zb7q9)
         refine ⟨rfl, by simp only [exb, Nat.reduceAdd, Nat.reduceLeDiff, Nat.reduceEqDiff, Nat.reduceMul, Int.reduceToNat, reduceIte, Int.reduceLE, Int.reduceNeg], ?_⟩
         refine le_mk ?sle ?mle ?swf ?mwf (kept_not hkeep) (by rfl)
         case swf => repeat (first | exact swf_top _ | refine swf_upd ?_ zb7q21)
         case sle => repeat (first | exact sle_top _ | exact sle_refl _ | refine sle_upd ?_ zb7q15)
         case mwf => exact EM_wf hn hE hI1.base.bS hI1.base.bF
         case mle => exact mle_refl _
       rintro e st' ⟨rfl, h2, h3⟩
       refine W.asData 91 h2 (W.weaken h3 ?_) (by decide)
       clear h2 h3 st'
       (repeat (first | refine W.seq ?_ | refine W.block ?_ | refine W.skip ?_ | refine W.exit ?_))
       refine W.loop (ι := Nat × List (Nat × Nat) × List (Nat × Nat)) (fun y => ⟨upd (upd (upd (upd (upd (upd (upd (upd (upd (upd (upd (fun _ => .top) 7 (.ptr 7 0)) 9 (.ptr 9 0)) 10 (.map 39)) 11 (.map 40)) 12 (.ptr 12 0)) 13 (.own 61)) 14 (.fn 51 [8, 9, 12])) 17 (.ptr 17 0)) 91 (.c (.sl ((selE kF F w.2).map vF)))) 92 (.c (.int .i64 (selE kF F w.2).length))) 93 (.c (.int .i64 y.1)), EM E y.2.1 F y.2.2 { x17 := some (cP w) }⟩)
        (fun y => y.1 ≤ (selE kF F w.2).length ∧ Jv E n y.2.1 F y.2.2 no1 (fun p _ => p = w) (· = w) ∧ (w ∈ y.2.1) ∧ (∀ e ∈ (selE kF F w.2).take y.1, (w.1, e.2) ∈ y.2.1) ∧ toDo n y.2.1 y.2.2 ≤ toDo n S1 L1) (fun y => (selE kF F w.2).length - y.1) (0, S1, L1) ?start3 ⟨Nat.zero_le _, hI1, hw1, (fun e he => by simp at he), Nat.le_refl _⟩ ?round3
       case start3 =>
        refine le_mk ?sle ?mle ?swf ?mwf (kept_not hkeep) (by rfl)
        case swf => repeat (first | exact swf_top _ | refine swf_upd ?_ zb7q21)
        case sle => repeat (first | exact sle_top _ | exact sle_refl _ | refine sle_upd ?_ zb7q15)
        case mwf => exact EM_wf hn hE hI1.base.bS hI1.base.bF
        case mle => exact mle_refl _
       case round3 =>
        rintro ⟨jw, S2, L2⟩ ⟨hj, hI, hw1, hd, hm1⟩
        simp only at hj hI hw1 hd hm1
        repeat (first | refine W.seq ?_ | refine W.block ?_ | refine W.skip ?_ | refine W.exit ?_ | refine W.g ?_)
        refine W.cond rfl ?_ ?_
        ·intro hlt
         simp only [decide_eq_true_eq, Int.ofNat_lt] at hlt
         obtain ⟨e, hx⟩ : ∃ e, (selE kF F w.2)[jw]? = some e := ⟨_, List.getElem?_eq_getElem hlt⟩
         have hx' : ((selE kF F w.2).map vF)[jw]? = some (vF e) := at_map hx
         obtain ⟨hsl, hbe⟩ := (tO e (List.mem_of_getElem? hx) hI.base hw1)
         have htk : (selE kF F w.2).take (jw + 1) = (selE kF F w.2).take jw ++ [e] := by rw [List.take_add_one, hx]; rfl
         have hI2 := hI.way (p := (w.1, e.2)) hsl hbe
         repeat (first | refine W.seq ?_ | refine W.block ?_ | refine W.skip ?_ | refine W.exit ?_ | refine W.g ?_ (by simp only [exb, Nat.reduceAdd, Nat.reduceLeDiff, Nat.reduceEqDiff, Nat.reduceMul, Int.reduceToNat, reduceIte, Int.reduceLE, Int.reduceNeg, EM_7, EM_8, EM_9, EM_12, EM_37, EM_38, EM_39, EM_40, EM_56, EM_57, EM_58, EM_60, EM_61, EM_16, EM_17, EM_23, EM_25, EM_26, xb_none, xb_some, nms, nm_small, nm_small', Nat.reduceLT, elem_nm, elem_60, elem_61, hx', vF, cP]; rfl))
         refine W.regionK tab_ok 0 (by decide) ?_
         refine runk_split 4 zb7q14 ?_
         refine runk_callE (D := [nm 3 (e.2), 60]) rfl rfl rfl rfl rfl (fun j hj => nokeep hkeep) (by simp [EM_8, EM_9, EM_12]) (cvs_cons cv_refl (cvs_cons cv_refl (cvs_cons cv_refl (cvs_cons cv_refl (cvs_cons cv_refl cvs_nil))))) (way_ok n hn E hE S2 F L2 hI.base (w.1, e.2) hbe _) ?_
         simp only [killL, putS, upd_upd]
         refine xe0 ?_
         repeat (first | refine W.seq ?_ | refine W.block ?_ | refine W.skip ?_ | refine W.exit ?_ | refine W.g ?_ zb7q16)
         refine ⟨(jw + 1, wayS S2 (w.1, e.2), wayW S2 L2 (w.1, e.2)), ⟨hlt, hI2, wayS_sub hw1, fun e' he' => ?_, Nat.le_trans (hI.base.toDo_way hsl hbe) hm1⟩, by simp only; omega, ?_⟩
         ·rw [htk] at he'
          rcases List.mem_append.1 he' with he' | he'
          ·exact wayS_sub (hd e' he')
          ·rw [List.mem_singleton.1 he']; exact wayS_mem _ _
         ·skip
          refine le_mk ?sle ?mle ?swf ?mwf (kept_not hkeep) (by rfl)
          case swf => repeat (first | exact swf_top _ | refine swf_upd ?_ zb7q21)
          case sle => repeat (first | exact sle_top _ | exact sle_refl _ | refine sle_upd ?_ zb7q1)
          case mwf => exact EM_wf hn hE hI2.base.bS hI2.base.bF
          case mle => exact mle_refl _
        intro hge
        simp only [decide_eq_false_iff_not, Int.ofNat_lt] at hge
        obtain rfl : jw = (selE kF F w.2).length := by omega
        rw [List.take_length] at hd
        have hI3 := hI.done2 (fun b hb => hd (w.2, b) (mem_selE.2 ⟨hb, rfl⟩))
        (repeat (first | refine W.seq ?_ | refine W.block ?_ | refine W.skip ?_ | refine W.exit ?_))
        refine W.weaken (st' := ⟨upd (upd (upd (upd (upd (upd (upd (upd (fun _ => .top) 7 (.ptr 7 0)) 9 (.ptr 9 0)) 10 (.map 39)) 11 (.map 40)) 12 (.ptr 12 0)) 13 (.own 61)) 14 (.fn 51 [8, 9, 12])) 17 (.ptr 17 0), EM E S2 F L2 { x17 := some (cP w) }⟩) ?_ ?_
        ·skip
         refine le_mk ?sle ?mle ?swf ?mwf (kept_not hkeep) (by rfl)
         case swf => repeat (first | exact swf_top _ | refine swf_upd ?_ zb7q21)
         case sle => repeat (first | exact sle_top _ | exact sle_refl _ | refine sle_upd ?_ zb7q15)
         case mwf => exact EM_wf hn hE hI3.base.bS hI3.base.bF
         case mle => exact mle_refl _
        have htd2 : toDo n S2 L2 < toDo n S (L' ++ [w]) := by omega
        clear hI hd hj hge hI1 hm1 tO lO htd
        have lR : (selE kR E w.2).length ≤ E.length := List.length_filter_le _ _
        have lC : (selE kC E w.1).length ≤ E.length := List.length_filter_le _ _
        refine W.mono (K := fun e st' => e = Exit.normal ∧ asC st'.m (st'.s 107) = some (.sl ((selE kR E w.2).map vR)) ∧ Le R.keep ⟨upd st'.s 107 (.c (.sl ((selE kR E w.2).map vR))), st'.m⟩ ⟨upd (upd (upd (upd (upd (upd (upd (upd (upd (upd (upd (fun _ => .top) 7 (.ptr 7 0)) 9 (.ptr 9 0)) 10 (.map 39)) 11 (.map 40)) 12 (.ptr 12 0)) 13 (.own 61)) 14 (.fn 51 [8, 9, 12])) 17 (.ptr 17 0)) 107 (.c (.sl ((selE kR E w.2).map vR)))) 108 (.c (.int .i64 (selE kR E w.2).length))) 109 (.c (.int .i64 0)), EM E S2 F L2 { x17 := some (cP w) }⟩) ?_ ?_
        ·by_cases hk : w.2 ∈ ksL kR E
         ·obtain ⟨q, q1, -, -⟩ := find_there (b := 2) (ks_nodup E) hk
          have hrow : ∀ x, EM E S2 F L2 x (nm 2 w.2) = some (.arr 54 4 ((selE kR E w.2).map vR)) := fun x => by rw [EM_r3, rowsOf_ne (mem_ks.1 hk)]; rfl
          repeat (first | refine W.seq ?_ | refine W.block ?_ | refine W.skip ?_ | refine W.exit ?_ | refine W.g ?_ zb7q5)
          refine ⟨rfl, by simp only [exb, Nat.reduceAdd, Nat.reduceLeDiff, Nat.reduceEqDiff, Nat.reduceMul, Int.reduceToNat, reduceIte, Int.reduceLE, Int.reduceNeg, hrow], ?_⟩
          refine le_mk ?sle ?mle ?swf ?mwf (kept_not hkeep) (by rfl)
          case swf => repeat (first | exact swf_top _ | refine swf_upd ?_ zb7q21)
          case sle => repeat (first | exact sle_top _ | exact sle_refl _ | refine sle_upd ?_ zb7q15)
          case mwf => exact EM_wf hn hE hI3.base.bS hI3.base.bF
          case mle => exact mle_refl _
         ·have q1 := find_absent (id := 0) (b := 2) hk
          have hnil : (selE kR E w.2) = [] := Classical.byContradiction fun h => hk ((ks_inv _).2 _ |>.2 h)
          rw [hnil]
          repeat (first | refine W.seq ?_ | refine W.block ?_ | refine W.skip ?_ | refine W.exit ?_ | refine W.g ?_ zb7q9)
          refine ⟨rfl, by simp only [exb, Nat.reduceAdd, Nat.reduceLeDiff, Nat.reduceEqDiff, Nat.reduceMul, Int.reduceToNat, reduceIte, Int.reduceLE, Int.reduceNeg], ?_⟩
          refine le_mk ?sle ?mle ?swf ?mwf (kept_not hkeep) (by rfl)
          case swf => repeat (first | exact swf_top _ | refine swf_upd ?_ zb7q21)
          case sle => repeat (first | exact sle_top _ | exact sle_refl _ | refine sle_upd ?_ zb7q15)
          case mwf => exact EM_wf hn hE hI3.base.bS hI3.base.bF
          case mle => exact mle_refl _
        rintro e st' ⟨rfl, h2, h3⟩
        refine W.asData 107 h2 (W.weaken h3 ?_) (by decide)
        clear h2 h3 st'
        (repeat (first | refine W.seq ?_ | refine W.block ?_ | refine W.skip ?_ | refine W.exit ?_))
        refine W.loop (ι := Nat × List (Nat × Nat) × List (Nat × Nat) × List (Nat × Nat)) (fun y => ⟨upd (upd (upd (upd (upd (upd (upd (upd (upd (upd (upd (fun _ => .top) 7 (.ptr 7 0)) 9 (.ptr 9 0)) 10 (.map 39)) 11 (.map 40)) 12 (.ptr 12 0)) 13 (.own 61)) 14 (.fn 51 [8, 9, 12])) 17 (.ptr 17 0)) 107 (.c (.sl ((selE kR E w.2).map vR)))) 108 (.c (.int .i64 (selE kR E w.2).length))) 109 (.c (.int .i64 y.1)), EM E y.2.1 y.2.2.1 y.2.2.2 { x17 := some (cP w) }⟩)
         (fun y => y.1 ≤ (selE kR E w.2).length ∧ Jv E n y.2.1 y.2.2.1 y.2.2.2 no1 no2 (· = w) ∧ w ∈ y.2.1 ∧ (∀ r ∈ (selE kR E w.2).take y.1, ∀ c ∈ selE kC E w.1, c.s = r.s → (c.f, r.t) ∈ y.2.2.1) ∧ toDo n y.2.1 y.2.2.2 < toDo n S (L' ++ [w])) (fun y => (selE kR E w.2).length - y.1) (0, S2, F, L2) ?start5 ⟨Nat.zero_le _, hI3, hw1, (fun e he => by simp at he), htd2⟩ ?round5
        case start5 =>
         refine le_mk ?sle ?mle ?swf ?mwf (kept_not hkeep) (by rfl)
         case swf => repeat (first | exact swf_top _ | refine swf_upd ?_ zb7q21)
         case sle => repeat (first | exact sle_top _ | exact sle_refl _ | refine sle_upd ?_ zb7q15)
         case mwf => exact EM_wf hn hE hI3.base.bS hI3.base.bF
         case mle => exact mle_refl _
        case round5 =>
         clear hI3 hw1 htd2
         rintro ⟨i, S2, F, L2⟩ ⟨hi, hI3, hw1, hR, htd2⟩
         simp only at hi hI3 hw1 hR htd2
         repeat (first | refine W.seq ?_ | refine W.block ?_ | refine W.skip ?_ | refine W.exit ?_ | refine W.g ?_)
         refine W.cond rfl ?_ ?_
         ·intro hlt
          simp only [decide_eq_true_eq, Int.ofNat_lt] at hlt
          obtain ⟨r, hr⟩ : ∃ e, (selE kR E w.2)[i]? = some e := ⟨_, List.getElem?_eq_getElem hlt⟩
          have hr' : ((selE kR E w.2).map vR)[i]? = some (vR r) := at_map hr
          have hrv : vR r = [.int .i64 (r.f : Int), .int .i64 (r.t : Int), .int .i64 (r.k : Int), .int .i64 (r.s : Int)] := rfl
          obtain ⟨hrE, hrk⟩ := mem_selE.1 (List.mem_of_getElem? hr)
          have hrk2 : r.k = 5 ∧ r.f = w.2 := by
           unfold kR at hrk
           split at hrk
           ·rename_i hh; exact ⟨hh, Option.some.inj hrk⟩
           ·cases hrk
          have h23 : EM E S2 F L2 { x17 := some (cP w) } 23 = none := EM_23
          have htk5 : (selE kR E w.2).take (i + 1) = (selE kR E w.2).take i ++ [r] := by rw [List.take_add_one, hr]; rfl
          (repeat (first | refine W.seq ?_ | refine W.block ?_ | refine W.skip ?_ | refine W.exit ?_))
          (repeat (first | refine W.seq ?_ | refine W.block ?_ | refine W.skip ?_ | refine W.exit ?_))
          refine W.g ?_ (by simp only [exb, Nat.reduceAdd, Nat.reduceLeDiff, Nat.reduceEqDiff, Nat.reduceMul, Int.reduceToNat, reduceIte, Int.reduceLE, Int.reduceNeg, hr', hrv, h23]; rfl)
          (repeat (first | refine W.seq ?_ | refine W.block ?_ | refine W.skip ?_ | refine W.exit ?_))
          refine W.weaken (st' := ⟨upd (upd (upd (upd (upd (upd (upd (upd (upd (upd (upd (upd (fun _ => .top) 7 (.ptr 7 0)) 9 (.ptr 9 0)) 10 (.map 39)) 11 (.map 40)) 12 (.ptr 12 0)) 13 (.own 61)) 14 (.fn 51 [8, 9, 12])) 17 (.ptr 17 0)) 107 (.c (.sl ((selE kR E w.2).map vR)))) 108 (.c (.int .i64 (selE kR E w.2).length))) 109 (.c (.int .i64 i))) 23 (.ptr 23 0), EM E S2 F L2 { x17 := some (cP w), x23 := some (vR r) }⟩) ?_ ?_
          ·skip
           refine le_mk ?sle ?mle ?swf ?mwf (kept_not hkeep) (by rfl)
           case swf => repeat (first | exact swf_top _ | refine swf_upd ?_ zb7q21)
           case sle => repeat (first | exact sle_top _ | exact sle_refl _ | refine sle_upd ?_ zb7q15)
           case mwf => exact EM_wf hn hE hI3.base.bS hI3.base.bF
           case mle => exact EM_put (x := { x17 := some (cP w) }) (q := 23) (o := .box 54 ((vR r).map A.c)) (by simp only [exb, Nat.reduceAdd, Nat.reduceLeDiff, Nat.reduceEqDiff, Nat.reduceMul, Int.reduceToNat, reduceIte, Int.reduceLE, Int.reduceNeg, hrv]) EM_23 (fun j hj => by simp only [upd_app, hj, if_false]) (fun j hj => EM_x (.inr rfl) (.inr rfl) (.inl hj) (.inr rfl) (.inr rfl))
          refine W.mono (K := fun e st' => e = Exit.normal ∧ asC st'.m (st'.s 117) = some (.sl ((selE kC E w.1).map vC)) ∧ Le R.keep ⟨upd st'.s 117 (.c (.sl ((selE kC E w.1).map vC))), st'.m⟩ ⟨upd (upd (upd (upd (upd (upd (upd (upd (upd (upd (upd (upd (upd (upd (upd (fun _ => .top) 7 (.ptr 7 0)) 9 (.ptr 9 0)) 10 (.map 39)) 11 (.map 40)) 12 (.ptr 12 0)) 13 (.own 61)) 14 (.fn 51 [8, 9, 12])) 17 (.ptr 17 0)) 107 (.c (.sl ((selE kR E w.2).map vR)))) 108 (.c (.int .i64 (selE kR E w.2).length))) 109 (.c (.int .i64 i))) 23 (.ptr 23 0)) 117 (.c (.sl ((selE kC E w.1).map vC)))) 118 (.c (.int .i64 (selE kC E w.1).length))) 119 (.c (.int .i64 0)), EM E S2 F L2 { x17 := some (cP w), x23 := some (vR r) }⟩) ?_ ?_
          ·by_cases hk : w.1 ∈ ksL kC E
           ·obtain ⟨q, q1, -, -⟩ := find_there (b := 1) (ks_nodup E) hk
            have hrow : ∀ x, EM E S2 F L2 x (nm 1 w.1) = some (.arr 92 2 ((selE kC E w.1).map vC)) := fun x => by rw [EM_r2, rowsOf_ne (mem_ks.1 hk)]; rfl
            repeat (first | refine W.seq ?_ | refine W.block ?_ | refine W.skip ?_ | refine W.exit ?_ | refine W.g ?_ zb7q5)
            refine ⟨rfl, by simp only [exb, Nat.reduceAdd, Nat.reduceLeDiff, Nat.reduceEqDiff, Nat.reduceMul, Int.reduceToNat, reduceIte, Int.reduceLE, Int.reduceNeg, hrow], ?_⟩
            refine le_mk ?sle ?mle ?swf ?mwf (kept_not hkeep) (by rfl)
            case swf => repeat (first | exact swf_top _ | refine swf_upd ?_ zb7q21)
            case sle => repeat (first | exact sle_top _ | exact sle_refl _ | refine sle_upd ?_ zb7q15)
            case mwf => exact EM_wf hn hE hI3.base.bS hI3.base.bF
            case mle => exact mle_refl _
           ·have q1 := find_absent (id := 0) (b := 1) hk
            have hnil : (selE kC E w.1) = [] := Classical.byContradiction fun h => hk ((ks_inv _).2 _ |>.2 h)
            rw [hnil]
            repeat (first | refine W.seq ?_ | refine W.block ?_ | refine W.skip ?_ | refine W.exit ?_ | refine W.g ?_ zb7q9)
            refine ⟨rfl, by simp only [exb, Nat.reduceAdd, Nat.reduceLeDiff, Nat.reduceEqDiff, Nat.reduceMul, Int.reduceToNat, reduceIte, Int.reduceLE, Int.reduceNeg], ?_⟩
            refine le_mk ?sle ?mle ?swf ?mwf (kept_not hkeep) (by rfl)
            case swf => repeat (first | exact swf_top _ | refine swf_upd ?_ zb7q21)
            case sle => repeat (first | exact sle_top _ | exact sle_refl _ | refine sle_upd ?_ zb7q15)
            case mwf => exact EM_wf hn hE hI3.base.bS hI3.base.bF
            case mle => exact mle_refl _
          rintro e st' ⟨rfl, h2, h3⟩
          refine W.asData 117 h2 (W.weaken h3 ?_) (by decide)
          clear h2 h3 st'
          (repeat (first | refine W.seq ?_ | refine W.block ?_ | refine W.skip ?_ | refine W.exit ?_))
          refine W.loop (ι := Nat × List (Nat × Nat) × List (Nat × Nat) × List (Nat × Nat)) (fun y => ⟨upd (upd (upd (upd (upd (upd (upd (upd (upd (upd (upd (upd (upd (upd (upd (fun _ => .top) 7 (.ptr 7 0)) 9 (.ptr 9 0)) 10 (.map 39)) 11 (.map 40)) 12 (.ptr 12 0)) 13 (.own 61)) 14 (.fn 51 [8, 9, 12])) 17 (.ptr 17 0)) 107 (.c (.sl ((selE kR E w.2).map vR)))) 108 (.c (.int .i64 (selE kR E w.2).length))) 109 (.c (.int .i64 i))) 23 (.ptr 23 0)) 117 (.c (.sl ((selE kC E w.1).map vC)))) 118 (.c (.int .i64 (selE kC E w.1).length))) 119 (.c (.int .i64 y.1)), EM E y.2.1 y.2.2.1 y.2.2.2 { x17 := some (cP w), x23 := some (vR r) }⟩)
           (fun y => y.1 ≤ (selE kC E w.1).length ∧ Jv E n y.2.1 y.2.2.1 y.2.2.2 no1 no2 (· = w) ∧ w ∈ y.2.1 ∧ (∀ r ∈ (selE kR E w.2).take i, ∀ c ∈ selE kC E w.1, c.s = r.s → (c.f, r.t) ∈ y.2.2.1) ∧ (∀ c ∈ (selE kC E w.1).take y.1, c.s = r.s → (c.f, r.t) ∈ y.2.2.1) ∧ toDo n y.2.1 y.2.2.2 < toDo n S (L' ++ [w])) (fun y => (selE kC E w.1).length - y.1) (0, S2, F, L2) ?start6 ⟨Nat.zero_le _, hI3, hw1, hR, (fun e he => by simp at he), htd2⟩ ?round6
          case start6 =>
           refine le_mk ?sle ?mle ?swf ?mwf (kept_not hkeep) (by rfl)
           case swf => repeat (first | exact swf_top _ | refine swf_upd ?_ zb7q21)
           case sle => repeat (first | exact sle_top _ | exact sle_refl _ | refine sle_upd ?_ zb7q15)
           case mwf => exact EM_wf hn hE hI3.base.bS hI3.base.bF
           case mle => exact mle_refl _
          case round6 =>
           clear hI3 hw1 htd2 hR h23
           rintro ⟨j, S2, F, L2⟩ ⟨hj, hI3, hw1, hR, hC, htd2⟩
           simp only at hj hI3 hw1 hR hC htd2
           repeat (first | refine W.seq ?_ | refine W.block ?_ | refine W.skip ?_ | refine W.exit ?_ | refine W.g ?_)
           refine W.cond rfl ?_ ?_
           ·intro hltc
            simp only [decide_eq_true_eq, Int.ofNat_lt] at hltc
            obtain ⟨c, hcj⟩ : ∃ e, (selE kC E w.1)[j]? = some e := ⟨_, List.getElem?_eq_getElem hltc⟩
            have hc' : ((selE kC E w.1).map vC)[j]? = some (vC c) := at_map hcj
            have hcv : vC c = [.int .i64 (c.f : Int), .int .i64 (c.s : Int)] := rfl
            obtain ⟨hcE, hck⟩ := mem_selE.1 (List.mem_of_getElem? hcj)
            have hck2 : c.k = 4 ∧ c.t = w.1 := by
             unfold kC at hck
             split at hck
             ·rename_i hh; exact ⟨hh, Option.some.inj hck⟩
             ·cases hck
            have h25 : EM E S2 F L2 { x17 := some (cP w), x23 := some (vR r) } 25 = none := EM_25
            have h26 : EM E S2 F L2 { x17 := some (cP w), x23 := some (vR r) } 26 = none := EM_26
            have htk6 : (selE kC E w.1).take (j + 1) = (selE kC E w.1).take j ++ [c] := by rw [List.take_add_one, hcj]; rfl
            (repeat (first | refine W.seq ?_ | refine W.block ?_ | refine W.skip ?_ | refine W.exit ?_))
            (repeat (first | refine W.seq ?_ | refine W.block ?_ | refine W.skip ?_ | refine W.exit ?_))
            refine W.g ?_ (by simp only [exb, Nat.reduceAdd, Nat.reduceLeDiff, Nat.reduceEqDiff, Nat.reduceMul, Int.reduceToNat, reduceIte, Int.reduceLE, Int.reduceNeg, hc', hcv, h25]; rfl)
            (repeat (first | refine W.seq ?_ | refine W.block ?_ | refine W.skip ?_ | refine W.exit ?_))
            refine W.g ?_ (by simp only [exb, Nat.reduceAdd, Nat.reduceLeDiff, Nat.reduceEqDiff, Nat.reduceMul, Int.reduceToNat, reduceIte, Int.reduceLE, Int.reduceNeg, h26, EM_23, xb_some, hrv]; rfl)
            (repeat (first | refine W.seq ?_ | refine W.block ?_ | refine W.skip ?_ | refine W.exit ?_))
            refine W.weaken (st' := ⟨upd (upd (upd (upd (upd (upd (upd (upd (upd (upd (upd (upd (upd (upd (upd (upd (upd (fun _ => .top) 7 (.ptr 7 0)) 9 (.ptr 9 0)) 10 (.map 39)) 11 (.map 40)) 12 (.ptr 12 0)) 13 (.own 61)) 14 (.fn 51 [8, 9, 12])) 17 (.ptr 17 0)) 107 (.c (.sl ((selE kR E w.2).map vR)))) 108 (.c (.int .i64 (selE kR E w.2).length))) 109 (.c (.int .i64 i))) 23 (.ptr 23 0)) 117 (.c (.sl ((selE kC E w.1).map vC)))) 118 (.c (.int .i64 (selE kC E w.1).length))) 119 (.c (.int .i64 j))) 25 (.ptr 25 0)) 26 (.ptr 26 0), EM E S2 F L2 { x17 := some (cP w), x23 := some (vR r), x25 := some (vC c), x26 := some (cP (c.f, r.t)) }⟩) ?_ ?_
            ·skip
             refine le_mk ?sle ?mle ?swf ?mwf (kept_not hkeep) (by rfl)
             case swf => repeat (first | exact swf_top _ | refine swf_upd ?_ zb7q21)
             case sle => repeat (first | exact sle_top _ | exact sle_refl _ | refine sle_upd ?_ zb7q15)
             case mwf => exact EM_wf hn hE hI3.base.bS hI3.base.bF
             case mle => exact EM_put2 (x := { x17 := some (cP w), x23 := some (vR r) }) (x' := { x17 := some (cP w), x23 := some (vR r), x25 := some (vC c), x26 := some (cP (c.f, r.t)) }) (q := 25) (q' := 26) (o := .box 92 ((vC c).map A.c)) (o' := .box 72 ((cP (c.f, r.t)).map A.c)) (by simp only [exb, Nat.reduceAdd, Nat.reduceLeDiff, Nat.reduceEqDiff, Nat.reduceMul, Int.reduceToNat, reduceIte, Int.reduceLE, Int.reduceNeg, hcv]) EM_25 (by simp only [exb, Nat.reduceAdd, Nat.reduceLeDiff, Nat.reduceEqDiff, Nat.reduceMul, Int.reduceToNat, reduceIte, Int.reduceLE, Int.reduceNeg, cP]) EM_26 (fun j h1 h2 => by simp only [upd_app, h1, h2, if_false] <;> rfl) (fun j h1 h2 => EM_x (.inr rfl) (.inr rfl) (.inr rfl) (.inl h1) (.inl h2))
            clear h25 h26
            by_cases hs : c.s = r.s
            ·have hsI : (c.s : Int) = (r.s : Int) := by omega
             by_cases hin : (c.f, r.t) ∈ F
             ·obtain ⟨q, hq⟩ := find1_some hin
              repeat (first | refine W.seq ?_ | refine W.block ?_ | refine W.skip ?_ | refine W.exit ?_ | refine W.g ?_ zb7q12)
              refine W.cond rfl ?_ ?_
              ·intro _
               repeat (first | refine W.seq ?_ | refine W.block ?_ | refine W.skip ?_ | refine W.exit ?_ | refine W.g ?_ zb7q16)
               refine ⟨(j + 1, S2, F, L2), ⟨hltc, hI3, hw1, hR, fun c' hc2 hs2 => ?_, htd2⟩, by simp only; omega, ?_⟩
               ·rw [htk6] at hc2
                rcases List.mem_append.1 hc2 with hc2 | hc2
                ·exact hC c' hc2 hs2
                ·rw [List.mem_singleton.1 hc2] at hs2 ⊢; first | exact hin | exact absurd hs2 hs
               ·skip
                refine le_mk ?sle ?mle ?swf ?mwf (kept_not hkeep) (by rfl)
                case swf => repeat (first | exact swf_top _ | refine swf_upd ?_ zb7q21)
                case sle => repeat (first | exact sle_top _ | exact sle_refl _ | refine sle_upd ?_ zb7q3)
                case mwf => exact EM_wf hn hE hI3.base.bS hI3.base.bF
                case mle => exact EM_le (.inl rfl) (.inr rfl) (.inr rfl) (.inl rfl) (.inl rfl)
              ·intro h; simp at h
             ·have hq := find1_none hin
              have hput1 := put1 (z := (c.f, r.t)) (L := F)
              simp only at hq hput1
              repeat (first | refine W.seq ?_ | refine W.block ?_ | refine W.skip ?_ | refine W.exit ?_ | refine W.g ?_ zb7q12)
              refine W.cond rfl ?_ ?_
              ·intro h; simp at h
              intro _
              have hsum : SL E true c.f r.t := .sum hcE hck2.1 hrE hrk2.1 hs (by rw [hck2.2, hrk2.2]; exact hI3.base.sS w hw1)
              have hsb : c.f < n ∧ r.t < n := ⟨(hE c hcE).1, (hE r hrE).2⟩
              have hI4 := hI3.new (s := (c.f, r.t)) hsum hsb hin
              have hlF := hI3.base.lenF
              have hk61 : ∀ x j, (EM E S2 F L2 x j).map (O.kill 61) = EM E S2 F L2 x j := fun x j => EM_kill (.inr (.inl rfl))
              have fr := far_raw (b := 4) (id := 61) (ks := ksL kF F) (fun z _ => by unfold nm; omega)
              obtain ⟨k1, k2, k3⟩ := keyF_snoc (F := F) (s := (c.f, r.t))
              simp only at k1 k2 k3
              (repeat (first | refine W.seq ?_ | refine W.block ?_ | refine W.skip ?_ | refine W.exit ?_))
              refine W.regionK tab_ok 0 (by decide) ?_
              refine runk_split 2 zb7q13 ?_
              refine runk_put tab_ok (ents := (ents1 F)) rfl (.inl rfl) rfl rfl (by first | rfl | (simp only [exb, Nat.reduceAdd, Nat.reduceLeDiff, Nat.reduceEqDiff, Nat.reduceMul, Int.reduceToNat, reduceIte, Int.reduceLE, Int.reduceNeg, EM_7, EM_8, EM_9, EM_12, EM_37, EM_38, EM_39, EM_40, EM_56, EM_57, EM_58, EM_60, EM_61, EM_16, EM_17, EM_23, EM_25, EM_26, xb_none, xb_some, nms, nm_small, nm_small', Nat.reduceLT, elem_nm, elem_60, elem_61, hrv, hcv, cP]; done)) rfl zb7q10 (by rfl) zb7q10 hq ?_
              refine xe0 ?_
              (repeat (first | refine W.seq ?_ | refine W.block ?_ | refine W.skip ?_ | refine W.exit ?_))
              refine W.regionK tab_ok 0 (by decide) ?_
              refine runk_split 3 zb7q13 ?_
              refine runk_appendM tab_ok 61 rfl rfl rfl rfl rfl rfl (by simp only [exb, Nat.reduceAdd, Nat.reduceLeDiff, Nat.reduceEqDiff, Nat.reduceMul, Int.reduceToNat, reduceIte, Int.reduceLE, Int.reduceNeg, EM_7, EM_8, EM_9, EM_12, EM_37, EM_38, EM_39, EM_40, EM_56, EM_57, EM_58, EM_60, EM_61, EM_16, EM_17, EM_23, EM_25, EM_26, xb_none, xb_some, nms, nm_small, nm_small', Nat.reduceLT, elem_nm, elem_60, elem_61, hrv, hcv, cP]) zb7q13 zb7q10 rfl rfl rfl rfl (nokeep hkeep) (fun z hz => by simp at hz; subst hz; rfl) zb7q44 (by decide) ?_
              refine xe0 ?_
              (repeat (first | refine W.seq ?_ | refine W.block ?_ | refine W.skip ?_ | refine W.exit ?_))
              refine W.regionX tab_ok follows_mixed ⟨upd (upd (upd (upd (upd (upd (upd (upd (upd (upd (upd (upd (upd (upd (upd (upd (upd (fun _ => .top) 7 (.ptr 7 0)) 9 (.ptr 9 0)) 10 (.map 39)) 11 (.map 40)) 12 (.ptr 12 0)) 13 (.own 61)) 14 (.fn 51 [8, 9, 12])) 17 (.ptr 17 0)) 107 (.c (.sl ((selE kR E w.2).map vR)))) 108 (.c (.int .i64 (selE kR E w.2).length))) 109 (.c (.int .i64 i))) 23 (.ptr 23 0)) 117 (.c (.sl ((selE kC E w.1).map vC)))) 118 (.c (.int .i64 (selE kC E w.1).length))) 119 (.c (.int .i64 j))) 25 (.ptr 25 0)) 26 (.ptr 26 0), EM E S2 (F ++ [(c.f, r.t)]) L2 { x17 := some (cP w), x23 := some (vR r), x25 := some (vC c), x26 := some (cP (c.f, r.t)) }⟩ ?_ ?_
              ·by_cases hk : c.f ∈ ksL kF F
               ·as_aux_lemma =>
                obtain ⟨q', q1, q2, q3⟩ := find_there (b := 4) (ks_nodup F) hk
                rw [if_pos hk] at k3
                have hrow : ∀ x, EM E S2 F L2 x (nm 4 c.f) = some (.arr 3 1 (selL kF vF F c.f)) := fun x => EM_r5.trans (rowsOf_ne (mem_ks.1 hk))
                have hput : putE (.c (.int .i64 (c.f : Int))) (.own (nm 4 c.f)) ((keysE 4 (ksL kF F)).map fun pp => (pp.1.kill (nm 4 c.f), pp.2.kill (nm 4 c.f))) (some (q', .top)) = keysE 4 (ksL kF F) := q3
                have hkl : ∀ x j, j ≠ 39 → (EM E S2 F L2 x j).map (O.kill (nm 4 c.f)) = EM E S2 F L2 x j := fun x j h => EM_kill (.inr (.inr (.inr ⟨⟨_, rfl⟩, h⟩)))
                refine rx_move (base := 0) tab_ok (by decide) (by decide +kernel) 0 rfl rfl rfl (by decide +kernel) (by decide +kernel) ⟨_, zb7q4, ?_⟩
                refine rx_field (base := 0) tab_ok (by decide) (by decide +kernel) 1 rfl rfl zb7q8 rfl rfl (by decide +kernel) (by decide +kernel) ⟨_, zb7q4, ?_⟩
                refine rx_move (base := 0) tab_ok (by decide) (by decide +kernel) 3 rfl rfl rfl (by decide +kernel) (by decide +kernel) ⟨_, zb7q4, ?_⟩
                refine rx_field (base := 0) tab_ok (by decide) (by decide +kernel) 4 rfl rfl zb7q8 rfl rfl (by decide +kernel) (by decide +kernel) ⟨_, zb7q4, ?_⟩
                refine rx_field (base := 0) tab_ok (by decide) (by decide +kernel) 7 rfl rfl zb7q8 rfl rfl (by decide +kernel) (by decide +kernel) ⟨_, zb7q4, ?_⟩
                refine rx_runs (base := 0) tab_ok (by decide) ?_
                repeat' (first
                 | exact trivial
                 | refine runsw_end (by decide +kernel) ?_
                 | refine first_exec 5 (by decide +kernel) ⟨_, zb7q4, ?_⟩
                 | refine first_exec 6 (by decide +kernel) ⟨_, zb7q4, ?_⟩
                 | refine first_exec 8 (by decide +kernel) ⟨_, zb7q4, ?_⟩
                 | refine first_exec 9 (by decide +kernel) ⟨_, zb7q4, ?_⟩
                 | refine first_exec 2 (by decide +kernel) ⟨_, zb7q4, ?_⟩
                 | refine runs_node [2, 10] (by decide +kernel) (by decide) ?_
                 | refine runs_node [10] (by decide +kernel) (by decide) ?_
                 | refine runs_node [11] (by decide +kernel) (by decide) ?_
                 | refine step_exec ⟨_, zb7q4, ?_⟩ ?_
                 | refine step_put tab_ok (ents := ((keysE 4 (ksL kF F)).map fun pp => (pp.1.kill (nm 4 c.f), pp.2.kill (nm 4 c.f)))) rfl rfl (.inl rfl) rfl zb7q6 zb7q7 rfl zb7q6 (by rfl) zb7q6 q2 ?_ ?_
                 | refine step_append tab_ok rfl (nm 4 c.f) true rfl rfl rfl rfl rfl rfl zb7q7 zb7q8 zb7q8 rfl rfl rfl rfl (nokeep hkeep) (fun z hz => by simp at hz; subst hz; rfl) (by have := selL_len (key := kF) (v := vF) F c.f; simp only [List.length_cons, List.length_nil]; omega) (by decide) ?_ ?_)
                all_goals
                 refine le_mk ?sle ?mle ?swf ?mwf (kept_not hkeep) (by rfl)
                 case swf => repeat (first | exact swf_top _ | refine swf_upd ?_ zb7q21)
                 case sle => repeat (first | exact sle_top _ | exact sle_refl _ | refine sle_upd ?_ zb7q15)
                 case mwf => exact EM_wf hn hE hI4.base.bS hI4.base.bF
                 case mle =>
                  refine mle_new (S := S2) (F := F) ?_ ?_ ?_ ?_ (fun j c1 c2 c3 c4 => ?_)
                  ·simp only [exb, Nat.reduceAdd, Nat.reduceLeDiff, Nat.reduceEqDiff, Nat.reduceMul, Int.reduceToNat, reduceIte, Int.reduceLE, Int.reduceNeg, EM_7, EM_8, EM_9, EM_12, EM_37, EM_38, EM_39, EM_40, EM_56, EM_57, EM_58, EM_60, EM_61, EM_16, EM_17, EM_23, EM_25, EM_26, xb_none, xb_some, nms, nm_small, nm_small', Nat.reduceLT, elem_nm, elem_60, elem_61, fr, hput1, ents1_kill, hput, k3, vF, hrow, cP]
                  ·simp only [exb, Nat.reduceAdd, Nat.reduceLeDiff, Nat.reduceEqDiff, Nat.reduceMul, Int.reduceToNat, reduceIte, Int.reduceLE, Int.reduceNeg, EM_7, EM_8, EM_9, EM_12, EM_37, EM_38, EM_39, EM_40, EM_56, EM_57, EM_58, EM_60, EM_61, EM_16, EM_17, EM_23, EM_25, EM_26, xb_none, xb_some, nms, nm_small, nm_small', Nat.reduceLT, elem_nm, elem_60, elem_61, fr, hput1, ents1_kill, hput, k3, vF, hrow, cP]
                  ·simp only [exb, Nat.reduceAdd, Nat.reduceLeDiff, Nat.reduceEqDiff, Nat.reduceMul, Int.reduceToNat, reduceIte, Int.reduceLE, Int.reduceNeg, List.map_append, EM_7, EM_8, EM_9, EM_12, EM_37, EM_38, EM_39, EM_40, EM_56, EM_57, EM_58, EM_60, EM_61, EM_16, EM_17, EM_23, EM_25, EM_26, xb_none, xb_some, nms, nm_small, nm_small', Nat.reduceLT, elem_nm, elem_60, elem_61, fr, hput1, ents1_kill, hput, k3, vF, hrow, cP]
                  ·simp only [exb, Nat.reduceAdd, Nat.reduceLeDiff, Nat.reduceEqDiff, Nat.reduceMul, Int.reduceToNat, reduceIte, Int.reduceLE, Int.reduceNeg, EM_7, EM_8, EM_9, EM_12, EM_37, EM_38, EM_39, EM_40, EM_56, EM_57, EM_58, EM_60, EM_61, EM_16, EM_17, EM_23, EM_25, EM_26, xb_none, xb_some, nms, nm_small, nm_small', Nat.reduceLT, elem_nm, elem_60, elem_61, fr, hput1, ents1_kill, hput, k3, vF, hrow, cP]
                  ·simp only [exb, Nat.reduceAdd, Nat.reduceLeDiff, Nat.reduceEqDiff, Nat.reduceMul, Int.reduceToNat, reduceIte, Int.reduceLE, Int.reduceNeg, c1, c2, c3, c4, hk61, hrv, hcv, cP, hsI, (fun x => hkl x j c1), if_false]
               ·as_aux_lemma =>
                have q1 := find_absent (id := 0) (b := 4) hk
                rw [if_neg hk] at k3
                have hnil : selL kF vF F c.f = [] := Classical.byContradiction fun h => hk (mem_ks.2 h)
                have hrow : ∀ x, EM E S2 F L2 x (nm 4 c.f) = none := fun x => EM_r5.trans (rowsOf_nil hnil)
                have hput := putE_new (b := 4) (z := c.f) (ks := ksL kF F)
                refine rx_move (base := 0) tab_ok (by decide) (by decide +kernel) 0 rfl rfl rfl (by decide +kernel) (by decide +kernel) ⟨_, zb7q4, ?_⟩
                refine rx_field (base := 0) tab_ok (by decide) (by decide +kernel) 1 rfl rfl zb7q8 rfl rfl (by decide +kernel) (by decide +kernel) ⟨_, zb7q4, ?_⟩
                refine rx_move (base := 0) tab_ok (by decide) (by decide +kernel) 3 rfl rfl rfl (by decide +kernel) (by decide +kernel) ⟨_, zb7q4, ?_⟩
                refine rx_field (base := 0) tab_ok (by decide) (by decide +kernel) 4 rfl rfl zb7q8 rfl rfl (by decide +kernel) (by decide +kernel) ⟨_, zb7q4, ?_⟩
                refine rx_field (base := 0) tab_ok (by decide) (by decide +kernel) 7 rfl rfl zb7q8 rfl rfl (by decide +kernel) (by decide +kernel) ⟨_, zb7q4, ?_⟩
                refine rx_runs (base := 0) tab_ok (by decide) ?_
                repeat' (first
                 | exact trivial
                 | refine runsw_end (by decide +kernel) ?_
                 | refine first_exec 5 (by decide +kernel) ⟨_, zb7q4, ?_⟩
                 | refine first_exec 6 (by decide +kernel) ⟨_, zb7q4, ?_⟩
                 | refine first_exec 8 (by decide +kernel) ⟨_, zb7q4, ?_⟩
                 | refine first_exec 9 (by decide +kernel) ⟨_, zb7q4, ?_⟩
                 | refine first_exec 2 (by decide +kernel) ⟨_, zb7q4, ?_⟩
                 | refine runs_node [2, 10] (by decide +kernel) (by decide) ?_
                 | refine runs_node [10] (by decide +kernel) (by decide) ?_
                 | refine runs_node [11] (by decide +kernel) (by decide) ?_
                 | refine step_exec ⟨_, zb7q4, ?_⟩ ?_
                 | refine step_put tab_ok (ents := (keysE 4 (ksL kF F))) rfl rfl (.inl rfl) rfl zb7q6 zb7q7 rfl zb7q6 (by rfl) zb7q6 q1 ?_ ?_
                 | refine step_appendNil tab_ok rfl (nm 4 c.f) true rfl rfl rfl rfl rfl rfl zb7q7 zb7q7 zb7q8 rfl rfl rfl rfl (fun z hz => by simp at hz; subst hz; rfl) (by simp only [List.length_cons, List.length_nil]; omega) (by decide) ?_ ?_)
                all_goals
                 refine le_mk ?sle ?mle ?swf ?mwf (kept_not hkeep) (by rfl)
                 case swf => repeat (first | exact swf_top _ | refine swf_upd ?_ zb7q21)
                 case sle => repeat (first | exact sle_top _ | exact sle_refl _ | refine sle_upd ?_ zb7q15)
                 case mwf => exact EM_wf hn hE hI4.base.bS hI4.base.bF
                 case mle =>
                  refine mle_new (S := S2) (F := F) ?_ ?_ ?_ ?_ (fun j c1 c2 c3 c4 => ?_)
                  ·simp only [exb, Nat.reduceAdd, Nat.reduceLeDiff, Nat.reduceEqDiff, Nat.reduceMul, Int.reduceToNat, reduceIte, Int.reduceLE, Int.reduceNeg, EM_7, EM_8, EM_9, EM_12, EM_37, EM_38, EM_39, EM_40, EM_56, EM_57, EM_58, EM_60, EM_61, EM_16, EM_17, EM_23, EM_25, EM_26, xb_none, xb_some, nms, nm_small, nm_small', Nat.reduceLT, elem_nm, elem_60, elem_61, fr, hput1, ents1_kill, hput, hnil, k3, vF, hrow, cP]
                  ·simp only [exb, Nat.reduceAdd, Nat.reduceLeDiff, Nat.reduceEqDiff, Nat.reduceMul, Int.reduceToNat, reduceIte, Int.reduceLE, Int.reduceNeg, EM_7, EM_8, EM_9, EM_12, EM_37, EM_38, EM_39, EM_40, EM_56, EM_57, EM_58, EM_60, EM_61, EM_16, EM_17, EM_23, EM_25, EM_26, xb_none, xb_some, nms, nm_small, nm_small', Nat.reduceLT, elem_nm, elem_60, elem_61, fr, hput1, ents1_kill, hput, hnil, k3, vF, hrow, cP]
                  ·simp only [exb, Nat.reduceAdd, Nat.reduceLeDiff, Nat.reduceEqDiff, Nat.reduceMul, Int.reduceToNat, reduceIte, Int.reduceLE, Int.reduceNeg, List.map_append, EM_7, EM_8, EM_9, EM_12, EM_37, EM_38, EM_39, EM_40, EM_56, EM_57, EM_58, EM_60, EM_61, EM_16, EM_17, EM_23, EM_25, EM_26, xb_none, xb_some, nms, nm_small, nm_small', Nat.reduceLT, elem_nm, elem_60, elem_61, fr, hput1, ents1_kill, hput, hnil, k3, vF, hrow, cP]
                  ·simp only [exb, Nat.reduceAdd, Nat.reduceLeDiff, Nat.reduceEqDiff, Nat.reduceMul, Int.reduceToNat, reduceIte, Int.reduceLE, Int.reduceNeg, EM_7, EM_8, EM_9, EM_12, EM_37, EM_38, EM_39, EM_40, EM_56, EM_57, EM_58, EM_60, EM_61, EM_16, EM_17, EM_23, EM_25, EM_26, xb_none, xb_some, nms, nm_small, nm_small', Nat.reduceLT, elem_nm, elem_60, elem_61, fr, hput1, ents1_kill, hput, hnil, k3, vF, hrow, cP]
                  ·simp only [exb, Nat.reduceAdd, Nat.reduceLeDiff, Nat.reduceEqDiff, Nat.reduceMul, Int.reduceToNat, reduceIte, Int.reduceLE, Int.reduceNeg, c1, c2, c3, c4, hk61, hrv, hcv, cP, hsI,  if_false]
              ·intro st' hle
               refine W.weaken hle ?_
               (repeat (first | refine W.seq ?_ | refine W.block ?_ | refine W.skip ?_ | refine W.exit ?_))
               clear hput1 hq hk61 fr k1 k2 k3 hle st'
               have lT : (selE kT S2 c.f).length ≤ n * n := Nat.le_trans (List.length_filter_le _ _) hI3.base.lenS
               refine W.mono (K := fun e st' => e = Exit.normal ∧ Le R.keep st' ⟨upd (upd (upd (upd (upd (upd (upd (upd (upd (upd (upd (upd (upd (upd (upd (upd (upd (upd (upd (upd (fun _ => .top) 7 (.ptr 7 0)) 9 (.ptr 9 0)) 10 (.map 39)) 11 (.map 40)) 12 (.ptr 12 0)) 13 (.own 61)) 14 (.fn 51 [8, 9, 12])) 17 (.ptr 17 0)) 107 (.c (.sl ((selE kR E w.2).map vR)))) 108 (.c (.int .i64 (selE kR E w.2).length))) 109 (.c (.int .i64 i))) 23 (.ptr 23 0)) 117 (.c (.sl ((selE kC E w.1).map vC)))) 118 (.c (.int .i64 (selE kC E w.1).length))) 119 (.c (.int .i64 j))) 25 (.ptr 25 0)) 26 (.ptr 26 0)) 160 (.c (.sl ((selE kT S2 c.f).map vT)))) 161 (.c (.int .i64 (selE kT S2 c.f).length))) 162 (.c (.int .i64 0)), EM E S2 (F ++ [(c.f, r.t)]) L2 { x17 := some (cP w), x23 := some (vR r), x25 := some (vC c), x26 := some (cP (c.f, r.t)) }⟩) ?_ ?_
               ·by_cases hk : c.f ∈ ksL kT S2
                ·obtain ⟨q, q1, -, -⟩ := find_there (b := 3) (ks_nodup S2) hk
                 have hrow : ∀ x, EM E S2 (F ++ [(c.f, r.t)]) L2 x (nm 3 c.f) = some (.arr 3 1 ((selE kT S2 c.f).map vT)) := fun x => EM_r4.trans (rowsOf_ne (mem_ks.1 hk))
                 refine W.regionK tab_ok 0 (by decide) ?_
                 refine runk_split 4 zb7q11 ?_
                 refine runk_call rfl rfl rfl rfl rfl (by simp) (cvs_cons (cv_own (hrow { x17 := some (cP w), x23 := some (vR r), x25 := some (vC c), x26 := some (cP (c.f, r.t)) })) cvs_nil) (cloneI_ok ((selE kT S2 c.f).map vT) (fun x hx => by obtain ⟨z, -, rfl⟩ := List.mem_map.1 hx; rfl) (by rw [List.length_map]; omega) _) ?_
                 refine runk_exec zb7q29 ?_
                 refine ⟨rfl, ?_⟩
                 refine le_mk ?sle ?mle ?swf ?mwf (kept_not hkeep) (by rfl)
                 case swf => repeat (first | exact swf_top _ | refine swf_upd ?_ zb7q21)
                 case sle => repeat (first | exact sle_top _ | exact sle_refl _ | refine sle_upd ?_ zb7q15)
                 case mwf => exact EM_wf hn hE hI4.base.bS hI4.base.bF
                 case mle => exact mle_refl _
                ·have q1 := find_absent (id := 0) (b := 3) hk
                 have hnil : selE kT S2 c.f = [] := Classical.byContradiction fun h => hk ((ks_inv _).2 _ |>.2 h)
                 rw [hnil]
                 refine W.regionK tab_ok 0 (by decide) ?_
                 refine runk_split 4 zb7q11 ?_
                 refine runk_call rfl rfl rfl rfl rfl (by simp) (cvs_cons cv_nil cvs_nil) (cloneI_ok [] (fun x hx => by cases hx) (by simp) _) ?_
                 refine runk_exec zb7q29 ?_
                 refine ⟨rfl, ?_⟩
                 refine le_mk ?sle ?mle ?swf ?mwf (kept_not hkeep) (by rfl)
                 case swf => repeat (first | exact swf_top _ | refine swf_upd ?_ zb7q21)
                 case sle => repeat (first | exact sle_top _ | exact sle_refl _ | refine sle_upd ?_ zb7q15)
                 case mwf => exact EM_wf hn hE hI4.base.bS hI4.base.bF
                 case mle => exact mle_refl _
               rintro e st' ⟨rfl, h3⟩
               refine W.weaken h3 ?_
               clear h3 st'
               (repeat (first | refine W.seq ?_ | refine W.block ?_ | refine W.skip ?_ | refine W.exit ?_))
               have tT : ∀ e ∈ selE kT S2 c.f, ∀ {S : List (Nat × Nat)} {L : List (Nat × Nat)}, Base E n S (F ++ [(c.f, r.t)]) L → SL E false e.1 r.t ∧ (e.1 < n ∧ r.t < n) := fun e he S L hb => by
                obtain ⟨heS, hek⟩ := mem_selE.1 he
                have h1 := hI3.base.sS e heS
                have hek : e.2 = c.f := Option.some.inj hek
                rw [hek] at h1
                exact ⟨.over h1 hsum, (hI3.base.bS e heS).1, hsb.2⟩
               refine W.loop (ι := Nat × List (Nat × Nat) × List (Nat × Nat)) (fun y => ⟨upd (upd (upd (upd (upd (upd (upd (upd (upd (upd (upd (upd (upd (upd (upd (upd (upd (upd (upd (upd (fun _ => .top) 7 (.ptr 7 0)) 9 (.ptr 9 0)) 10 (.map 39)) 11 (.map 40)) 12 (.ptr 12 0)) 13 (.own 61)) 14 (.fn 51 [8, 9, 12])) 17 (.ptr 17 0)) 107 (.c (.sl ((selE kR E w.2).map vR)))) 108 (.c (.int .i64 (selE kR E w.2).length))) 109 (.c (.int .i64 i))) 23 (.ptr 23 0)) 117 (.c (.sl ((selE kC E w.1).map vC)))) 118 (.c (.int .i64 (selE kC E w.1).length))) 119 (.c (.int .i64 j))) 25 (.ptr 25 0)) 26 (.ptr 26 0)) 160 (.c (.sl ((selE kT S2 c.f).map vT)))) 161 (.c (.int .i64 (selE kT S2 c.f).length))) 162 (.c (.int .i64 y.1)), EM E y.2.1 (F ++ [(c.f, r.t)]) y.2.2 { x17 := some (cP w), x23 := some (vR r), x25 := some (vC c), x26 := some (cP (c.f, r.t)) }⟩)
                (fun y => y.1 ≤ (selE kT S2 c.f).length ∧ Jv E n y.2.1 (F ++ [(c.f, r.t)]) y.2.2 no1 (fun p b => (p.2, b) = (c.f, r.t)) (· = w) ∧ (w ∈ y.2.1 ∧ ∀ q ∈ y.2.1, q ∈ S2 ∨ q ∈ y.2.2) ∧ (∀ e ∈ (selE kT S2 c.f).take y.1, (e.1, r.t) ∈ y.2.1) ∧ toDo n y.2.1 y.2.2 ≤ toDo n S2 L2) (fun y => (selE kT S2 c.f).length - y.1) (0, S2, L2) ?start3 ⟨Nat.zero_le _, hI4, ⟨hw1, fun q hq => .inl hq⟩, (fun e he => by simp at he), Nat.le_refl _⟩ ?round3
               case start3 =>
                refine le_mk ?sle ?mle ?swf ?mwf (kept_not hkeep) (by rfl)
                case swf => repeat (first | exact swf_top _ | refine swf_upd ?_ zb7q21)
                case sle => repeat (first | exact sle_top _ | exact sle_refl _ | refine sle_upd ?_ zb7q15)
                case mwf => exact EM_wf hn hE hI4.base.bS hI4.base.bF
                case mle => exact mle_refl _
               case round3 =>
                rintro ⟨jw, S3, L3⟩ ⟨hj, hI, hw1, hd, hm1⟩
                simp only at hj hI hw1 hd hm1
                repeat (first | refine W.seq ?_ | refine W.block ?_ | refine W.skip ?_ | refine W.exit ?_ | refine W.g ?_)
                refine W.cond rfl ?_ ?_
                ·intro hlt
                 simp only [decide_eq_true_eq, Int.ofNat_lt] at hlt
                 obtain ⟨e, hx⟩ : ∃ e, (selE kT S2 c.f)[jw]? = some e := ⟨_, List.getElem?_eq_getElem hlt⟩
                 have hx' : ((selE kT S2 c.f).map vT)[jw]? = some (vT e) := at_map hx
                 obtain ⟨hsl, hbe⟩ := (tT e (List.mem_of_getElem? hx) hI.base)
                 have htk : (selE kT S2 c.f).take (jw + 1) = (selE kT S2 c.f).take jw ++ [e] := by rw [List.take_add_one, hx]; rfl
                 have hI2 := hI.way (p := (e.1, r.t)) hsl hbe
                 repeat (first | refine W.seq ?_ | refine W.block ?_ | refine W.skip ?_ | refine W.exit ?_ | refine W.g ?_ (by simp only [exb, Nat.reduceAdd, Nat.reduceLeDiff, Nat.reduceEqDiff, Nat.reduceMul, Int.reduceToNat, reduceIte, Int.reduceLE, Int.reduceNeg, EM_7, EM_8, EM_9, EM_12, EM_37, EM_38, EM_39, EM_40, EM_56, EM_57, EM_58, EM_60, EM_61, EM_16, EM_17, EM_23, EM_25, EM_26, xb_none, xb_some, nms, nm_small, nm_small', Nat.reduceLT, elem_nm, elem_60, elem_61, hx', vT, cP]; rfl))
                 refine W.regionK tab_ok 0 (by decide) ?_
                 refine runk_split 4 zb7q14 ?_
                 refine runk_callE (D := [nm 3 (r.t), 60]) rfl rfl rfl rfl rfl (fun j hj => nokeep hkeep) (by simp [EM_8, EM_9, EM_12]) (cvs_cons cv_refl (cvs_cons cv_refl (cvs_cons cv_refl (cvs_cons cv_refl (cvs_cons cv_refl cvs_nil))))) (way_ok n hn E hE S3 (F ++ [(c.f, r.t)]) L3 hI.base (e.1, r.t) hbe _) ?_
                 simp only [killL, putS, upd_upd]
                 refine xe0 ?_
                 repeat (first | refine W.seq ?_ | refine W.block ?_ | refine W.skip ?_ | refine W.exit ?_ | refine W.g ?_ zb7q16)
                 refine ⟨(jw + 1, wayS S3 (e.1, r.t), wayW S3 L3 (e.1, r.t)), ⟨hlt, hI2, ⟨wayS_sub hw1.1, wayS_new hw1.2⟩, fun e' he' => ?_, Nat.le_trans (hI.base.toDo_way hsl hbe) hm1⟩, by simp only; omega, ?_⟩
                 ·rw [htk] at he'
                  rcases List.mem_append.1 he' with he' | he'
                  ·exact wayS_sub (hd e' he')
                  ·rw [List.mem_singleton.1 he']; exact wayS_mem _ _
                 ·skip
                  refine le_mk ?sle ?mle ?swf ?mwf (kept_not hkeep) (by rfl)
                  case swf => repeat (first | exact swf_top _ | refine swf_upd ?_ zb7q21)
                  case sle => repeat (first | exact sle_top _ | exact sle_refl _ | refine sle_upd ?_ zb7q1)
                  case mwf => exact EM_wf hn hE hI2.base.bS hI2.base.bF
                  case mle => exact mle_refl _
                intro hge
                simp only [decide_eq_false_iff_not, Int.ofNat_lt] at hge
                obtain rfl : jw = (selE kT S2 c.f).length := by omega
                rw [List.take_length] at hd
                have hI6 := hI.over hw1.2 (fun q hq e => hd q (mem_selE.2 ⟨hq, by unfold kT; rw [e]⟩))
                have htd3 : toDo n S3 L3 < toDo n S (L' ++ [w]) := Nat.lt_of_le_of_lt hm1 htd2
                clear hI hm1 htd2 tT lT
                (repeat (first | refine W.seq ?_ | refine W.block ?_ | refine W.skip ?_ | refine W.exit ?_))
                repeat (first | refine W.seq ?_ | refine W.block ?_ | refine W.skip ?_ | refine W.exit ?_ | refine W.g ?_ zb7q16)
                refine ⟨(j + 1, S3, F ++ [(c.f, r.t)], L3), ⟨hltc, hI6, hw1.1, (fun r' hr' c' hc' hs' => List.mem_append_left _ (hR r' hr' c' hc' hs')), fun c' hc2 hs2 => ?_, htd3⟩, by simp only; omega, ?_⟩
                ·rw [htk6] at hc2
                 rcases List.mem_append.1 hc2 with hc2 | hc2
                 ·exact List.mem_append_left _ (hC c' hc2 hs2)
                 ·rw [List.mem_singleton.1 hc2]; simp
                ·skip
                 refine le_mk ?sle ?mle ?swf ?mwf (kept_not hkeep) (by rfl)
                 case swf => repeat (first | exact swf_top _ | refine swf_upd ?_ zb7q21)
                 case sle => repeat (first | exact sle_top _ | exact sle_refl _ | refine sle_upd ?_ zb7q3)
                 case mwf => exact EM_wf hn hE hI6.base.bS hI6.base.bF
                 case mle => exact EM_le (.inl rfl) (.inr rfl) (.inr rfl) (.inl rfl) (.inl rfl)
            ·have hsI : ¬ (c.s : Int) = (r.s : Int) := by omega
             repeat (first | refine W.seq ?_ | refine W.block ?_ | refine W.skip ?_ | refine W.exit ?_ | refine W.g ?_ (by simp only [exb, Nat.reduceAdd, Nat.reduceLeDiff, Nat.reduceEqDiff, Nat.reduceMul, Int.reduceToNat, reduceIte, Int.reduceLE, Int.reduceNeg, EM_7, EM_8, EM_9, EM_12, EM_37, EM_38, EM_39, EM_40, EM_56, EM_57, EM_58, EM_60, EM_61, EM_16, EM_17, EM_23, EM_25, EM_26, xb_none, xb_some, nms, nm_small, nm_small', Nat.reduceLT, elem_nm, elem_60, elem_61, hrv, hcv, cP, hsI]; rfl))
             refine W.cond rfl ?_ ?_
             ·intro _
              repeat (first | refine W.seq ?_ | refine W.block ?_ | refine W.skip ?_ | refine W.exit ?_ | refine W.g ?_ zb7q16)
              refine ⟨(j + 1, S2, F, L2), ⟨hltc, hI3, hw1, hR, fun c' hc2 hs2 => ?_, htd2⟩, by simp only; omega, ?_⟩
              ·rw [htk6] at hc2
               rcases List.mem_append.1 hc2 with hc2 | hc2
               ·exact hC c' hc2 hs2
               ·rw [List.mem_singleton.1 hc2] at hs2 ⊢; first | exact hin | exact absurd hs2 hs
              ·skip
               refine le_mk ?sle ?mle ?swf ?mwf (kept_not hkeep) (by rfl)
               case swf => repeat (first | exact swf_top _ | refine swf_upd ?_ zb7q21)
               case sle => repeat (first | exact sle_top _ | exact sle_refl _ | refine sle_upd ?_ zb7q3)
               case mwf => exact EM_wf hn hE hI3.base.bS hI3.base.bF
               case mle => exact EM_le (.inl rfl) (.inr rfl) (.inr rfl) (.inl rfl) (.inl rfl)
             ·intro h; simp at h
           ·intro hge
            simp only [decide_eq_false_iff_not, Int.ofNat_lt] at hge
            obtain rfl : j = (selE kC E w.1).length := by omega
            rw [List.take_length] at hC
            repeat (first | refine W.seq ?_ | refine W.block ?_ | refine W.skip ?_ | refine W.exit ?_ | refine W.g ?_ zb7q16)
            refine ⟨(i + 1, S2, F, L2), ⟨hlt, hI3, hw1, fun r' hr' => ?_, htd2⟩, by simp only; omega, ?_⟩
            ·rw [htk5] at hr'
             rcases List.mem_append.1 hr' with hr' | hr'
             ·exact hR r' hr'
             ·rw [List.mem_singleton.1 hr']; exact hC
            ·skip
             refine le_mk ?sle ?mle ?swf ?mwf (kept_not hkeep) (by rfl)
             case swf => repeat (first | exact swf_top _ | refine swf_upd ?_ zb7q21)
             case sle => repeat (first | exact sle_top _ | exact sle_refl _ | refine sle_upd ?_ (by first | (simp only [upd_app, killS_app, A.kill, entry_zero, entry_succ, Nat.reduceEqDiff, reduceIte, EM_7, EM_8, EM_9, EM_12, EM_37, EM_38, EM_39, EM_40, EM_56, EM_57, EM_58, EM_60, EM_61, EM_16, EM_17, EM_23, EM_25, EM_26, xb_none, xb_some, nms, nm_small, nm_small', Nat.reduceLT, elem_nm, elem_60, elem_61, Bool.false_eq_true, if_false, wrap_succ (show i + 1 < 9223372036854775808 by omega)]; done) | rfl))
             case mwf => exact EM_wf hn hE hI3.base.bS hI3.base.bF
             case mle => exact EM_le (.inl rfl) (.inr rfl) (.inl rfl) (.inl rfl) (.inl rfl)
         ·intro hge
          simp only [decide_eq_false_iff_not, Int.ofNat_lt] at hge
          obtain rfl : i = (selE kR E w.2).length := by omega
          rw [List.take_length] at hR
          have hI5 := hI3.done3 (fun c hc kc ec r hr kr er hs => hR r (mem_selE.2 ⟨hr, by unfold kR; rw [if_pos kr, er]⟩) c (mem_selE.2 ⟨hc, by unfold kC; rw [if_pos kc, ec]⟩) hs)
          repeat (first | refine W.seq ?_ | refine W.block ?_ | refine W.skip ?_ | refine W.exit ?_ | refine W.g ?_ zb7q16)
          refine ⟨(S2, F, L2), hI5, htd2, ?_⟩
          refine le_mk ?sle ?mle ?swf ?mwf (kept_not hkeep) (by rfl)
          case swf => repeat (first | exact swf_top _ | refine swf_upd ?_ zb7q21)
          case sle => repeat (first | exact sle_top _ | exact sle_refl _ | refine sle_upd ?_ zb7q15)
          case mwf => exact EM_wf hn hE hI5.base.bS hI5.base.bF
          case mle => exact EM_le (.inl rfl) (.inl rfl) (.inl rfl) (.inl rfl) (.inl rfl)
     ·intro h; cases h
end V
end Go.Proofs.Ytmhchhmhpoldhaa
end
section
namespace Go.Proofs.Ytmhchhmhpoldhaa
namespace V
open Go.RowKit G
theorem cE2 {K : List (Int × Int)} : ∀ x ∈ K.map cE, x.length = 2 := fun x hx => by obtain ⟨z, -, rfl⟩ := List.mem_map.1 hx; rfl
set_option maxHeartbeats 8000000 in
theorem refEdgesG_ok (n : Nat) (hn : n ≤ 100000) (E : List SE) (hlen : E.length ≤ 100000000) (hE : ∀ e ∈ E, e.f < n ∧ e.t < n) (hc : chkS n (E.map castS) = true) (m : Mem) :
  COk Try.prog 43 [.c (.int .i64 n), .c (.sl ((E.map castS).map cS))] m (.tup [(false, [.sl (((sumL E n).map castE).map cE)]), (false, [.int .i64 0])]) := by
 have hk := refCheck_ok n (E.map castS) (by rw [List.length_map]; omega)
 rw [hc] at hk
 have hnn : n * n ≤ 100000 * 100000 := Nat.mul_le_mul hn hn
 refine (ok_pure tab_ok Try.func43 (by kernel_rfl) rfl rfl (by rfl) (by rfl) (by rfl) (fun R hkeep => ?_) m)
 repeat (first | refine W.seq ?_ | refine W.block ?_ | refine W.skip ?_ | refine W.exit ?_ | refine W.g ?_)
 refine W.regionK tab_ok 0 (by decide) ?_
 refine xs0 2 ?_
 refine runk_call rfl rfl rfl rfl rfl (by simp) (cvs_cons cv_refl (cvs_cons cv_refl cvs_nil)) (hk _) ?_
 refine xe0 ?_
 repeat (first | refine W.seq ?_ | refine W.block ?_ | refine W.skip ?_ | refine W.exit ?_ | refine W.g ?_ zb7q32)
 refine W.cond rfl ?_ ?_
 ·intro h; cases h
 intro _
 repeat (first | refine W.seq ?_ | refine W.block ?_ | refine W.skip ?_ | refine W.exit ?_ | refine W.g ?_)
 refine W.asData 7 (x := .sl []) rfl ?_ (by decide)
 refine W.loop (ι := List (Nat × Nat)) (fun K => ⟨upd (upd (upd (fun _ => .top) 0 (.c (.int .i64 n))) 1 (.c (.sl ((E.map castS).map cS)))) 7 (.c (.sl ((K.map castE).map cE))), Mem.nil⟩)
  (fun K => K.Nodup ∧ (∀ p ∈ K, SL E true p.1 p.2) ∧ ∀ p ∈ K, p.1 < n ∧ p.2 < n) (fun K => n * n - K.length) [] ?start ⟨by simp, (fun p hp => by cases hp), (fun p hp => by cases hp)⟩ ?round
 case start =>
  refine le_mk ?sle ?mle ?swf ?mwf (kept_not hkeep) (by rfl)
  case swf => repeat (first | exact swf_top _ | refine swf_upd ?_ (by simp [A.ids, upd_app, List.map_nil]))
  case mwf => repeat (first | exact mwf_nil _ | refine mwf_upd ?_ (by simp [A.ids, O.ids, upd_app, List.map_nil]))
  case mle => repeat (first | exact mle_nil _ | exact mle_refl _ | refine mle_upd ?_ zb7q25)
  case sle => repeat (first | exact sle_top _ | exact sle_refl _ | refine sle_upd ?_ zb7q35)
 case round =>
  rintro K ⟨hnd, hs, hb⟩
  have hKl := pairs_len hnd hb
  have hInv := (roundN_inv (E := E) hnd).1
  have hlN := hInv.len hE hb
  repeat (first | refine W.seq ?_ | refine W.block ?_ | refine W.skip ?_ | refine W.exit ?_ | refine W.g ?_)
  refine W.regionK tab_ok 0 (by decide) ?_
  refine xs0 3 ?_
  refine runk_appendNil tab_ok 23 true rfl rfl rfl rfl rfl rfl rfl zb7q34 zb7q31 rfl rfl rfl rfl cE2 (by simp only [List.length_map]; omega) (by decide) ?_
  refine xs0 0 ?_
  refine runk_callE (D := [23]) rfl rfl rfl rfl rfl (fun j hj => nokeep hkeep) (by simp) (cvs_cons cv_refl (cvs_cons cv_refl (cvs_cons cv_refl cvs_nil))) (round_ok n hn E hlen hE K hnd hb) ?_
  simp only [killL, putS, upd_upd]
  refine xe0 ?_
  refine W.asData 8 (x := .sl (((K ++ roundN E K).map castE).map cE)) (by rfl) ?_ (by decide)
  by_cases h0 : roundN E K = []
  ·have hend := rounds_done hs hnd h0
   rw [h0, List.append_nil]
   repeat (first | refine W.seq ?_ | refine W.block ?_ | refine W.skip ?_ | refine W.exit ?_ | refine W.g ?_ (by simp only [exb, Nat.reduceAdd, Nat.reduceLeDiff, Nat.reduceEqDiff, Nat.reduceMul, Int.reduceToNat, reduceIte, Int.reduceLE, Int.reduceNeg, List.length_map, eq_self]; rfl))
   refine W.cond rfl ?_ ?_
   ·intro _
    repeat (first | refine W.seq ?_ | refine W.block ?_ | refine W.skip ?_ | refine W.exit ?_ | refine W.g ?_)
    refine W.asData 9 (x := .sl []) rfl ?_ (by decide)
    refine W.loop (ι := Nat × List (Nat × Nat)) (fun x => ⟨upd (upd (upd (upd (fun _ => .top) 9 (.c (.sl ((x.2.map castE).map cE)))) 30 (.c (.sl ((K.map castE).map cE)))) 31 (.c (.int .i64 K.length))) 32 (.c (.int .i64 x.1)), Mem.nil⟩)
     (fun x => x.1 ≤ K.length ∧ x.2.Pairwise lexLt ∧ ∀ p, p ∈ x.2 ↔ p ∈ K.take x.1) (fun x => K.length - x.1) (0, []) ?start2 ⟨Nat.zero_le _, .nil, fun p => by simp⟩ ?round2
    case start2 =>
     refine le_mk ?sle ?mle ?swf ?mwf (kept_not hkeep) (by rfl)
     case swf => repeat (first | exact swf_top _ | refine swf_upd ?_ (by simp [A.ids, upd_app, List.map_nil]))
     case mwf => repeat (first | exact mwf_nil _ | refine mwf_upd ?_ (by simp [A.ids, O.ids, upd_app, List.map_nil]))
     case mle => repeat (first | exact mle_nil _ | exact mle_refl _ | refine mle_upd ?_ zb7q25)
     case sle => repeat (first | exact sle_top _ | exact sle_refl _ | refine sle_upd ?_ zb7q35)
    case round2 =>
     rintro ⟨k, Z⟩ ⟨hk, hZ, hZm⟩
     simp only at hk hZ hZm
     have hZl : Z.length ≤ n * n := pairs_len (show Z.Nodup from hZ.imp fun {a b} h => fun e : a = b => lex_irrefl a (by rw [← e] at h; exact h)) (fun p hp => hb p (List.mem_of_mem_take ((hZm p).1 hp)))
     repeat (first | refine W.seq ?_ | refine W.block ?_ | refine W.skip ?_ | refine W.exit ?_ | refine W.g ?_)
     refine W.cond rfl ?_ ?_
     ·intro hlt
      simp only [decide_eq_true_eq, Int.ofNat_lt] at hlt
      obtain ⟨⟨p, q⟩, hx⟩ : ∃ e, K[k]? = some e := ⟨_, List.getElem?_eq_getElem hlt⟩
      have hx' : (K.map castE)[k]? = some (castE (p, q)) := at_map hx
      have hcx : cE (castE (p, q)) = [.int .i64 (p : Int), .int .i64 (q : Int)] := rfl
      repeat (first | refine W.seq ?_ | refine W.block ?_ | refine W.skip ?_ | refine W.exit ?_ | refine W.g ?_ (by simp only [exb, Nat.reduceAdd, Nat.reduceLeDiff, Nat.reduceEqDiff, Nat.reduceMul, Int.reduceToNat, reduceIte, Int.reduceLE, Int.reduceNeg, at_map hx', hcx]; rfl))
      refine W.loop (ι := Nat) (fun j => ⟨upd (upd (upd (upd (upd (upd (fun _ => .top) 9 (.c (.sl ((Z.map castE).map cE)))) 30 (.c (.sl ((K.map castE).map cE)))) 31 (.c (.int .i64 K.length))) 32 (.c (.int .i64 k))) 11 (.ptr 11 0)) 12 (.c (.int .i64 j)), upd Mem.nil 11 (some (.box 72 [.c (.int .i64 p), .c (.int .i64 q)]))⟩)
       (fun j => j ≤ Z.length ∧ ∀ x ∈ Z.take j, lexLt x (p, q)) (fun j => Z.length - j) 0 ?start3 ⟨Nat.zero_le _, fun x hx => by simp at hx⟩ ?round3
      case start3 =>
       refine le_L ?sle ?mle (kept_not hkeep)
       case mle => repeat (first | exact mle_nil _ | exact mle_refl _ | refine mle_upd ?_ zb7q30)
       case sle => repeat (first | exact sle_top _ | exact sle_refl _ | refine sle_upd ?_ zb7q38)
      case round3 =>
       rintro j ⟨hj, hjl⟩
       have hjL : (j : Int) ≤ (Z.length : Int) := by omega
       have hc2 : (∀ x ∈ (Z.map castE).map cE, x.length = 2) = True := eq_true cE2
       have htl : ((Z.map castE).map cE).take Z.length = (Z.map castE).map cE := List.take_of_length_le (by simp)
       have hpq : (p, q) ∉ Z := fun hm => by
        have hm := (hZm (p, q)).1 hm
        obtain ⟨i, hi⟩ := List.getElem?_of_mem hm
        rw [List.getElem?_take] at hi
        split at hi
        ·rename_i hik
         have h1 := List.getElem?_eq_some_iff.1 hi
         have h2 := List.getElem?_eq_some_iff.1 hx
         have h3 := List.pairwise_iff_getElem.1 hnd i k h1.1 h2.1 hik
         exact h3 (h1.2.trans h2.2.symm)
        ·cases hi
       have hins : ((Z.take j ++ [(p, q)] ++ Z.drop j).map castE).map cE = ((Z.map castE).map cE).take j ++ [[.int .i64 (p : Int), .int .i64 (q : Int)]] ++ ((Z.map castE).map cE).drop j := by
        simp only [List.map_append, List.map_take, List.map_drop]; rfl
       have hnext : (∀ x, Z[j]? = some x → ¬ lexLt x (p, q)) → (k + 1 ≤ K.length ∧ (Z.take j ++ [(p, q)] ++ Z.drop j).Pairwise lexLt ∧ ∀ r, r ∈ Z.take j ++ [(p, q)] ++ Z.drop j ↔ r ∈ K.take (k + 1)) := fun hno => by
        obtain ⟨h1, h2⟩ := insert_rising hZ hpq hjl hno
        refine ⟨hlt, h1, fun r => ?_⟩
        rw [h2, hZm, List.take_add_one, hx]
        simp
       by_cases hjl2 : j < Z.length
       ·obtain ⟨⟨a, b⟩, hy⟩ : ∃ e, Z[j]? = some e := ⟨_, List.getElem?_eq_getElem hjl2⟩
        have hy' : (Z.map castE)[j]? = some (castE (a, b)) := at_map hy
        have hcy : cE (castE (a, b)) = [.int .i64 (a : Int), .int .i64 (b : Int)] := rfl
        have hjI : ((j : Nat) : Int) < (Z.length : Int) := by omega
        have htk : Z.take (j + 1) = Z.take j ++ [(a, b)] := by rw [List.take_add_one, hy]; rfl
        have hadv : lexLt (a, b) (p, q) → ∀ x ∈ Z.take (j + 1), lexLt x (p, q) := fun hl x hx => by
         rw [htk] at hx
         rcases List.mem_append.1 hx with hx | hx
         ·exact hjl x hx
         ·rw [List.mem_singleton.1 hx]; exact hl
        by_cases h1 : (a : Int) < (p : Int)
        ·skip
         skip
         repeat (first | refine W.seq ?_ | refine W.block ?_ | refine W.skip ?_ | refine W.exit ?_ | refine W.g ?_)
         refine W.regionDK tab_ok 0 follows_mixed (by kernel_rfl) (by decide) ?_
         refine runk_exec (by simp only [exb, Nat.reduceAdd, Nat.reduceLeDiff, Nat.reduceEqDiff, Nat.reduceMul, Int.reduceToNat, reduceIte, Int.reduceLE, Int.reduceNeg, hjI, h1, at_map hy', hcy, Int.toNat_natCast, List.length_map]; rfl) ?_
         refine W.cond rfl ?_ ?_
         ·intro _
          repeat (first | refine W.seq ?_ | refine W.block ?_ | refine W.skip ?_ | refine W.exit ?_ | refine W.g ?_)
          refine ⟨j + 1, ⟨hjl2, hadv (.inl (by simp only; omega))⟩, by omega, ?_⟩
          refine le_mk ?sle ?mle ?swf ?mwf (kept_not hkeep) (by rfl)
          case swf => repeat (first | exact swf_top _ | refine swf_upd ?_ zb7q42)
          case mwf => repeat (first | exact mwf_nil _ | refine mwf_upd ?_ zb7q40)
          case mle => repeat (first | exact mle_nil _ | exact mle_refl _ | refine mle_upd ?_ zb7q23)
          case sle => repeat (first | exact sle_top _ | exact sle_refl _ | refine sle_upd ?_ zb7q26)
         ·intro h; cases h
        by_cases h2 : (a : Int) = (p : Int)
        ·by_cases h3 : (b : Int) < (q : Int)
         ·skip
          skip
          repeat (first | refine W.seq ?_ | refine W.block ?_ | refine W.skip ?_ | refine W.exit ?_ | refine W.g ?_)
          refine W.regionDK tab_ok 0 follows_mixed (by kernel_rfl) (by decide) ?_
          refine runk_exec zb7q20 ?_
          refine W.cond rfl ?_ ?_
          ·intro _
           repeat (first | refine W.seq ?_ | refine W.block ?_ | refine W.skip ?_ | refine W.exit ?_ | refine W.g ?_)
           refine ⟨j + 1, ⟨hjl2, hadv (.inr ⟨by simp only; omega, by simp only; omega⟩)⟩, by omega, ?_⟩
           refine le_mk ?sle ?mle ?swf ?mwf (kept_not hkeep) (by rfl)
           case swf => repeat (first | exact swf_top _ | refine swf_upd ?_ zb7q42)
           case mwf => repeat (first | exact mwf_nil _ | refine mwf_upd ?_ zb7q40)
           case mle => repeat (first | exact mle_nil _ | exact mle_refl _ | refine mle_upd ?_ zb7q23)
           case sle => repeat (first | exact sle_top _ | exact sle_refl _ | refine sle_upd ?_ zb7q26)
          ·intro h; cases h
         ·skip
          repeat (first | refine W.seq ?_ | refine W.block ?_ | refine W.skip ?_ | refine W.exit ?_ | refine W.g ?_)
          refine W.regionDK tab_ok 0 follows_mixed (by kernel_rfl) (by decide) ?_
          refine runk_exec zb7q20 ?_
          refine W.cond rfl ?_ ?_
          ·intro h; cases h
          intro _
          repeat (first | refine W.seq ?_ | refine W.block ?_ | refine W.skip ?_ | refine W.exit ?_ | refine W.g ?_)
          refine W.regionX tab_ok follows_mixed ⟨upd (upd (upd (upd (fun _ => .top) 9 (.own 23)) 30 (.c (.sl ((K.map castE).map cE)))) 31 (.c (.int .i64 K.length))) 32 (.c (.int .i64 k)),
           upd Mem.nil 23 (some (.arr 72 2 (((Z.take j ++ [(p, q)] ++ Z.drop j).map castE).map cE)))⟩ ?_ ?_
          ·skip
           refine rx_move (base := 0) tab_ok (by decide) (by decide +kernel) 0 rfl rfl rfl (by decide +kernel) (by decide +kernel) ⟨_, zb7q17, ?_⟩
           refine rx_move (base := 0) tab_ok (by decide) (by decide +kernel) 1 rfl rfl rfl (by decide +kernel) (by decide +kernel) ⟨_, zb7q17, ?_⟩
           refine rx_move (base := 0) tab_ok (by decide) (by decide +kernel) 7 rfl rfl rfl (by decide +kernel) (by decide +kernel) ⟨_, zb7q17, ?_⟩
           refine rx_move (base := 0) tab_ok (by decide) (by decide +kernel) 8 rfl rfl rfl (by decide +kernel) (by decide +kernel) ⟨_, zb7q17, ?_⟩
           refine rx_runs (base := 0) tab_ok (by decide) ?_
           repeat' (first
            | exact trivial
            | refine runsw_end (by decide +kernel) ?_
            | refine first_exec 2 (by decide +kernel) ⟨_, zb7q17, ?_⟩
            | refine first_exec 4 (by decide +kernel) ⟨_, zb7q17, ?_⟩
            | refine first_exec 5 (by decide +kernel) ⟨_, zb7q17, ?_⟩
            | refine first_exec 9 (by decide +kernel) ⟨_, zb7q17, ?_⟩
            | refine first_exec 11 (by decide +kernel) ⟨_, zb7q17, ?_⟩
            | refine runs_node [3, 4, 9] (by decide +kernel) (by decide) ?_
            | refine runs_node [3, 5, 9] (by decide +kernel) (by decide) ?_
            | refine runs_node [3, 9] (by decide +kernel) (by decide) ?_
            | refine runs_node [6, 9] (by decide +kernel) (by decide) ?_
            | refine runs_node [3, 4] (by decide +kernel) (by decide) ?_
            | refine runs_node [3, 5] (by decide +kernel) (by decide) ?_
            | refine runs_node [3] (by decide +kernel) (by decide) ?_
            | refine runs_node [6] (by decide +kernel) (by decide) ?_
            | refine runs_node [10] (by decide +kernel) (by decide) ?_
            | refine step_exec ⟨_, zb7q17, ?_⟩ ?_
            | refine step_appendNil tab_ok rfl 23 true rfl rfl rfl rfl rfl rfl zb7q18 zb7q18 zb7q19 rfl rfl rfl rfl (fun z hz => cE2 z (List.mem_of_mem_take hz)) zb7q45 (by decide) ?_ ?_
            | refine step_append tab_ok rfl 23 true rfl rfl rfl rfl rfl rfl zb7q18 zb7q19 zb7q19 rfl rfl rfl rfl (nokeep hkeep) (fun z hz => by simp at hz; subst hz; rfl) zb7q39 (by decide) ?_ ?_
            | refine step_append tab_ok rfl 23 true rfl rfl rfl rfl rfl rfl zb7q18 zb7q19 zb7q19 rfl rfl rfl rfl (nokeep hkeep) (fun z hz => cE2 z (List.mem_of_mem_drop hz)) zb7q36 (by decide) ?_ ?_)
           all_goals
            refine le_mk ?sle ?mle ?swf ?mwf (kept_not hkeep) (by rfl)
            case swf => repeat (first | exact swf_top _ | refine swf_upd ?_ (by simp [A.ids, upd_app, hins]))
            case mwf => repeat (first | exact mwf_nil _ | refine mwf_upd ?_ (by simp [A.ids, O.ids, upd_app, hins]))
            case mle => repeat (first | exact mle_nil _ | exact mle_refl _ | refine mle_upd ?_ zb7q28)
            case sle => repeat (first | exact sle_top _ | exact sle_refl _ | refine sle_upd ?_ zb7q37)
          ·intro st' hle
           refine W.weaken hle ?_
           refine W.asData 9 (x := .sl (((Z.take j ++ [(p, q)] ++ Z.drop j).map castE).map cE)) rfl ?_ (by decide)
           repeat (first | refine W.seq ?_ | refine W.block ?_ | refine W.skip ?_ | refine W.exit ?_ | refine W.g ?_)
           refine ⟨(k + 1, Z.take j ++ [(p, q)] ++ Z.drop j), hnext (fun x hx => by rw [hy] at hx; cases hx; unfold lexLt; simp only; omega), by simp only; omega, ?_⟩
           refine le_mk ?sle ?mle ?swf ?mwf (kept_not hkeep) (by rfl)
           case swf => repeat (first | exact swf_top _ | refine swf_upd ?_ zb7q43)
           case mwf => repeat (first | exact mwf_nil _ | refine mwf_upd ?_ zb7q41)
           case mle => repeat (first | exact mle_nil _ | exact mle_refl _ | refine mle_upd ?_ zb7q24)
           case sle => repeat (first | exact sle_top _ | exact sle_refl _ | refine sle_upd ?_ zb7q27)
        ·skip
         repeat (first | refine W.seq ?_ | refine W.block ?_ | refine W.skip ?_ | refine W.exit ?_ | refine W.g ?_)
         refine W.regionDK tab_ok 0 follows_mixed (by kernel_rfl) (by decide) ?_
         refine runk_exec (by simp only [exb, Nat.reduceAdd, Nat.reduceLeDiff, Nat.reduceEqDiff, Nat.reduceMul, Int.reduceToNat, reduceIte, Int.reduceLE, Int.reduceNeg, hjI, h1, h2, at_map hy', hcy, Int.toNat_natCast, List.length_map]; rfl) ?_
         refine W.cond rfl ?_ ?_
         ·intro h; cases h
         intro _
         repeat (first | refine W.seq ?_ | refine W.block ?_ | refine W.skip ?_ | refine W.exit ?_ | refine W.g ?_)
         refine W.regionX tab_ok follows_mixed ⟨upd (upd (upd (upd (fun _ => .top) 9 (.own 23)) 30 (.c (.sl ((K.map castE).map cE)))) 31 (.c (.int .i64 K.length))) 32 (.c (.int .i64 k)),
          upd Mem.nil 23 (some (.arr 72 2 (((Z.take j ++ [(p, q)] ++ Z.drop j).map castE).map cE)))⟩ ?_ ?_
         ·skip
          refine rx_move (base := 0) tab_ok (by decide) (by decide +kernel) 0 rfl rfl rfl (by decide +kernel) (by decide +kernel) ⟨_, zb7q17, ?_⟩
          refine rx_move (base := 0) tab_ok (by decide) (by decide +kernel) 1 rfl rfl rfl (by decide +kernel) (by decide +kernel) ⟨_, zb7q17, ?_⟩
          refine rx_move (base := 0) tab_ok (by decide) (by decide +kernel) 7 rfl rfl rfl (by decide +kernel) (by decide +kernel) ⟨_, zb7q17, ?_⟩
          refine rx_move (base := 0) tab_ok (by decide) (by decide +kernel) 8 rfl rfl rfl (by decide +kernel) (by decide +kernel) ⟨_, zb7q17, ?_⟩
          refine rx_runs (base := 0) tab_ok (by decide) ?_
          repeat' (first
           | exact trivial
           | refine runsw_end (by decide +kernel) ?_
           | refine first_exec 2 (by decide +kernel) ⟨_, zb7q17, ?_⟩
           | refine first_exec 4 (by decide +kernel) ⟨_, zb7q17, ?_⟩
           | refine first_exec 5 (by decide +kernel) ⟨_, zb7q17, ?_⟩
           | refine first_exec 9 (by decide +kernel) ⟨_, zb7q17, ?_⟩
           | refine first_exec 11 (by decide +kernel) ⟨_, zb7q17, ?_⟩
           | refine runs_node [3, 4, 9] (by decide +kernel) (by decide) ?_
           | refine runs_node [3, 5, 9] (by decide +kernel) (by decide) ?_
           | refine runs_node [3, 9] (by decide +kernel) (by decide) ?_
           | refine runs_node [6, 9] (by decide +kernel) (by decide) ?_
           | refine runs_node [3, 4] (by decide +kernel) (by decide) ?_
           | refine runs_node [3, 5] (by decide +kernel) (by decide) ?_
           | refine runs_node [3] (by decide +kernel) (by decide) ?_
           | refine runs_node [6] (by decide +kernel) (by decide) ?_
           | refine runs_node [10] (by decide +kernel) (by decide) ?_
           | refine step_exec ⟨_, zb7q17, ?_⟩ ?_
           | refine step_appendNil tab_ok rfl 23 true rfl rfl rfl rfl rfl rfl zb7q18 zb7q18 zb7q19 rfl rfl rfl rfl (fun z hz => cE2 z (List.mem_of_mem_take hz)) zb7q45 (by decide) ?_ ?_
           | refine step_append tab_ok rfl 23 true rfl rfl rfl rfl rfl rfl zb7q18 zb7q19 zb7q19 rfl rfl rfl rfl (nokeep hkeep) (fun z hz => by simp at hz; subst hz; rfl) zb7q39 (by decide) ?_ ?_
           | refine step_append tab_ok rfl 23 true rfl rfl rfl rfl rfl rfl zb7q18 zb7q19 zb7q19 rfl rfl rfl rfl (nokeep hkeep) (fun z hz => cE2 z (List.mem_of_mem_drop hz)) zb7q36 (by decide) ?_ ?_)
          all_goals
           refine le_mk ?sle ?mle ?swf ?mwf (kept_not hkeep) (by rfl)
           case swf => repeat (first | exact swf_top _ | refine swf_upd ?_ (by simp [A.ids, upd_app, hins]))
           case mwf => repeat (first | exact mwf_nil _ | refine mwf_upd ?_ (by simp [A.ids, O.ids, upd_app, hins]))
           case mle => repeat (first | exact mle_nil _ | exact mle_refl _ | refine mle_upd ?_ zb7q28)
           case sle => repeat (first | exact sle_top _ | exact sle_refl _ | refine sle_upd ?_ zb7q37)
         ·intro st' hle
          refine W.weaken hle ?_
          refine W.asData 9 (x := .sl (((Z.take j ++ [(p, q)] ++ Z.drop j).map castE).map cE)) rfl ?_ (by decide)
          repeat (first | refine W.seq ?_ | refine W.block ?_ | refine W.skip ?_ | refine W.exit ?_ | refine W.g ?_)
          refine ⟨(k + 1, Z.take j ++ [(p, q)] ++ Z.drop j), hnext (fun x hx => by rw [hy] at hx; cases hx; unfold lexLt; simp only; omega), by simp only; omega, ?_⟩
          refine le_mk ?sle ?mle ?swf ?mwf (kept_not hkeep) (by rfl)
          case swf => repeat (first | exact swf_top _ | refine swf_upd ?_ zb7q43)
          case mwf => repeat (first | exact mwf_nil _ | refine mwf_upd ?_ zb7q41)
          case mle => repeat (first | exact mle_nil _ | exact mle_refl _ | refine mle_upd ?_ zb7q24)
          case sle => repeat (first | exact sle_top _ | exact sle_refl _ | refine sle_upd ?_ zb7q27)
       ·have hjI : ¬ (((j : Nat) : Int) < (Z.length : Int)) := by omega
        repeat (first | refine W.seq ?_ | refine W.block ?_ | refine W.skip ?_ | refine W.exit ?_ | refine W.g ?_)
        refine W.regionDK tab_ok 0 follows_mixed (by kernel_rfl) (by decide) ?_
        refine runk_exec (by simp only [exb, Nat.reduceAdd, Nat.reduceLeDiff, Nat.reduceEqDiff, Nat.reduceMul, Int.reduceToNat, reduceIte, Int.reduceLE, Int.reduceNeg, hjI, List.length_map]; rfl) ?_
        refine W.cond rfl ?_ ?_
        ·intro h; cases h
        intro _
        repeat (first | refine W.seq ?_ | refine W.block ?_ | refine W.skip ?_ | refine W.exit ?_ | refine W.g ?_)
        refine W.regionX tab_ok follows_mixed ⟨upd (upd (upd (upd (fun _ => .top) 9 (.own 23)) 30 (.c (.sl ((K.map castE).map cE)))) 31 (.c (.int .i64 K.length))) 32 (.c (.int .i64 k)),
         upd Mem.nil 23 (some (.arr 72 2 (((Z.take j ++ [(p, q)] ++ Z.drop j).map castE).map cE)))⟩ ?_ ?_
        ·skip
         refine rx_move (base := 0) tab_ok (by decide) (by decide +kernel) 0 rfl rfl rfl (by decide +kernel) (by decide +kernel) ⟨_, zb7q17, ?_⟩
         refine rx_move (base := 0) tab_ok (by decide) (by decide +kernel) 1 rfl rfl rfl (by decide +kernel) (by decide +kernel) ⟨_, zb7q17, ?_⟩
         refine rx_move (base := 0) tab_ok (by decide) (by decide +kernel) 7 rfl rfl rfl (by decide +kernel) (by decide +kernel) ⟨_, zb7q17, ?_⟩
         refine rx_move (base := 0) tab_ok (by decide) (by decide +kernel) 8 rfl rfl rfl (by decide +kernel) (by decide +kernel) ⟨_, zb7q17, ?_⟩
         refine rx_runs (base := 0) tab_ok (by decide) ?_
         repeat' (first
          | exact trivial
          | refine runsw_end (by decide +kernel) ?_
          | refine first_exec 2 (by decide +kernel) ⟨_, zb7q17, ?_⟩
          | refine first_exec 4 (by decide +kernel) ⟨_, zb7q17, ?_⟩
          | refine first_exec 5 (by decide +kernel) ⟨_, zb7q17, ?_⟩
          | refine first_exec 9 (by decide +kernel) ⟨_, zb7q17, ?_⟩
          | refine first_exec 11 (by decide +kernel) ⟨_, zb7q17, ?_⟩
          | refine runs_node [3, 4, 9] (by decide +kernel) (by decide) ?_
          | refine runs_node [3, 5, 9] (by decide +kernel) (by decide) ?_
          | refine runs_node [3, 9] (by decide +kernel) (by decide) ?_
          | refine runs_node [6, 9] (by decide +kernel) (by decide) ?_
          | refine runs_node [3, 4] (by decide +kernel) (by decide) ?_
          | refine runs_node [3, 5] (by decide +kernel) (by decide) ?_
          | refine runs_node [3] (by decide +kernel) (by decide) ?_
          | refine runs_node [6] (by decide +kernel) (by decide) ?_
          | refine runs_node [10] (by decide +kernel) (by decide) ?_
          | refine step_exec ⟨_, zb7q17, ?_⟩ ?_
          | refine step_appendNil tab_ok rfl 23 true rfl rfl rfl rfl rfl rfl zb7q18 zb7q18 zb7q19 rfl rfl rfl rfl (fun z hz => cE2 z (List.mem_of_mem_take hz)) zb7q45 (by decide) ?_ ?_
          | refine step_append tab_ok rfl 23 true rfl rfl rfl rfl rfl rfl zb7q18 zb7q19 zb7q19 rfl rfl rfl rfl (nokeep hkeep) (fun z hz => by simp at hz; subst hz; rfl) zb7q39 (by decide) ?_ ?_
          | refine step_append tab_ok rfl 23 true rfl rfl rfl rfl rfl rfl zb7q18 zb7q19 zb7q19 rfl rfl rfl rfl (nokeep hkeep) (fun z hz => cE2 z (List.mem_of_mem_drop hz)) zb7q36 (by decide) ?_ ?_)
         all_goals
          refine le_mk ?sle ?mle ?swf ?mwf (kept_not hkeep) (by rfl)
          case swf => repeat (first | exact swf_top _ | refine swf_upd ?_ (by simp [A.ids, upd_app, hins]))
          case mwf => repeat (first | exact mwf_nil _ | refine mwf_upd ?_ (by simp [A.ids, O.ids, upd_app, hins]))
          case mle => repeat (first | exact mle_nil _ | exact mle_refl _ | refine mle_upd ?_ zb7q28)
          case sle => repeat (first | exact sle_top _ | exact sle_refl _ | refine sle_upd ?_ zb7q37)
        ·intro st' hle
         refine W.weaken hle ?_
         refine W.asData 9 (x := .sl (((Z.take j ++ [(p, q)] ++ Z.drop j).map castE).map cE)) rfl ?_ (by decide)
         repeat (first | refine W.seq ?_ | refine W.block ?_ | refine W.skip ?_ | refine W.exit ?_ | refine W.g ?_)
         refine ⟨(k + 1, Z.take j ++ [(p, q)] ++ Z.drop j), hnext (fun x hx => by rw [List.getElem?_eq_none (by omega)] at hx; cases hx), by simp only; omega, ?_⟩
         refine le_mk ?sle ?mle ?swf ?mwf (kept_not hkeep) (by rfl)
         case swf => repeat (first | exact swf_top _ | refine swf_upd ?_ zb7q43)
         case mwf => repeat (first | exact mwf_nil _ | refine mwf_upd ?_ zb7q41)
         case mle => repeat (first | exact mle_nil _ | exact mle_refl _ | refine mle_upd ?_ zb7q24)
         case sle => repeat (first | exact sle_top _ | exact sle_refl _ | refine sle_upd ?_ zb7q27)
     ·intro hge
      simp only [decide_eq_false_iff_not, Int.ofNat_lt] at hge
      obtain rfl : k = K.length := by omega
      rw [List.take_length] at hZm
      have hfin := sumL_ext hE hZ (fun a d => (hZm (a, d)).trans (hend a d))
      subst hfin
      repeat (first | refine W.seq ?_ | refine W.block ?_ | refine W.skip ?_ | refine W.exit ?_ | refine W.g ?_)
      refine W.ret ⟨.inr rfl, by rfl, ?_⟩
      simp only [Try.f43, resA, resOne, toT, fin, exb, Nat.reduceAdd, Nat.reduceLeDiff, Nat.reduceEqDiff, Nat.reduceMul, Int.reduceToNat, reduceIte, Int.reduceLE, Int.reduceNeg]
   ·intro h; cases h
  ·have hne : ¬ (((K ++ roundN E K).length : Int) = (K.length : Int)) := by
    have : (roundN E K).length ≠ 0 := fun h => h0 (List.length_eq_zero_iff.1 h)
    rw [List.length_append]; omega
   repeat (first | refine W.seq ?_ | refine W.block ?_ | refine W.skip ?_ | refine W.exit ?_ | refine W.g ?_ (by simp only [exb, Nat.reduceAdd, Nat.reduceLeDiff, Nat.reduceEqDiff, Nat.reduceMul, Int.reduceToNat, reduceIte, Int.reduceLE, Int.reduceNeg, rowK, List.length_map, hne]; rfl))
   refine W.cond rfl ?_ ?_
   ·intro h; cases h
   intro _
   repeat (first | refine W.seq ?_ | refine W.block ?_ | refine W.skip ?_ | refine W.exit ?_ | refine W.g ?_)
   refine ⟨K ++ roundN E K, ⟨hInv.nd, rounds_sound hs hnd, fun p hp => ?_⟩, ?_, ?_⟩
   ·have := (SL.lt hE (rounds_sound hs hnd p hp)).1 rfl
    exact this
   ·have : (roundN E K).length ≠ 0 := fun h => h0 (List.length_eq_zero_iff.1 h)
    rw [List.length_append] at hlN ⊢
    omega
   refine le_L ?sle ?mle (kept_not hkeep)
   case mle => repeat (first | exact mle_nil _ | exact mle_refl _ | refine mle_upd ?_ zb7q30)
   case sle => repeat (first | exact sle_top _ | exact sle_refl _ | refine sle_upd ?_ zb7q38)
end V
end Go.Proofs.Ytmhchhmhpoldhaa
end
section
namespace Go.Proofs.Ytmhchhmhpoldhaa
namespace V
open Go.RowKit G
theorem edgesB_ok (n : Int) (l : List Q) (hlen : l.length ≤ 100000000) (hc : chkS n l = false) (m : Mem) :
  COk Try.prog 39 [.c (.int .i64 n), .c (.sl (l.map cS))] m (.tup [(false, [.sl []]), (false, [.int .i64 150])]) := by
 have hk := check_ok n l (by omega)
 rw [hc] at hk
 refine (ok_pure tab_ok Try.func39 (by kernel_rfl) rfl rfl (by rfl) (by rfl) (by rfl) (fun R hkeep => ?_) m)
 (repeat (first | refine W.seq ?_ | refine W.block ?_ | refine W.skip ?_ | refine W.exit ?_))
 (repeat (first | refine W.seq ?_ | refine W.block ?_ | refine W.skip ?_ | refine W.exit ?_))
 refine W.g ?_
 (repeat (first | refine W.seq ?_ | refine W.block ?_ | refine W.skip ?_ | refine W.exit ?_))
 refine W.regionK tab_ok 0 (by decide) ?_
 refine xs0 2 ?_
 refine runk_call rfl rfl rfl rfl rfl (by simp) (cvs_cons cv_refl (cvs_cons cv_refl cvs_nil)) (hk _) ?_
 refine xe0 ?_
 (repeat (first | refine W.seq ?_ | refine W.block ?_ | refine W.skip ?_ | refine W.exit ?_))
 (repeat (first | refine W.seq ?_ | refine W.block ?_ | refine W.skip ?_ | refine W.exit ?_))
 refine W.g ?_ zb7q32
 (repeat (first | refine W.seq ?_ | refine W.block ?_ | refine W.skip ?_ | refine W.exit ?_))
 refine W.cond rfl ?_ ?_
 ·intro _
  repeat (first | refine W.seq ?_ | refine W.block ?_ | refine W.skip ?_ | refine W.exit ?_ | refine W.g ?_)
  refine W.ret ⟨.inr rfl, by rfl, ?_⟩
  simp only [Try.f39, resA, resOne, toT, fin, exb, Nat.reduceAdd, Nat.reduceLeDiff, Nat.reduceEqDiff, Nat.reduceMul, Int.reduceToNat, reduceIte, Int.reduceLE, Int.reduceNeg, errG]
  rfl
 ·intro h; cases h
theorem refEdgesB_ok (n : Int) (l : List Q) (hlen : l.length ≤ 100000000) (hc : chkS n l = false) (m : Mem) :
  COk Try.prog 43 [.c (.int .i64 n), .c (.sl (l.map cS))] m (.tup [(false, [.sl []]), (false, [.int .i64 150])]) := by
 have hk := refCheck_ok n l (by omega)
 rw [hc] at hk
 refine (ok_pure tab_ok Try.func43 (by kernel_rfl) rfl rfl (by rfl) (by rfl) (by rfl) (fun R hkeep => ?_) m)
 (repeat (first | refine W.seq ?_ | refine W.block ?_ | refine W.skip ?_ | refine W.exit ?_))
 (repeat (first | refine W.seq ?_ | refine W.block ?_ | refine W.skip ?_ | refine W.exit ?_))
 refine W.g ?_
 (repeat (first | refine W.seq ?_ | refine W.block ?_ | refine W.skip ?_ | refine W.exit ?_))
 refine W.regionK tab_ok 0 (by decide) ?_
 refine xs0 2 ?_
 refine runk_call rfl rfl rfl rfl rfl (by simp) (cvs_cons cv_refl (cvs_cons cv_refl cvs_nil)) (hk _) ?_
 refine xe0 ?_
 (repeat (first | refine W.seq ?_ | refine W.block ?_ | refine W.skip ?_ | refine W.exit ?_))
 (repeat (first | refine W.seq ?_ | refine W.block ?_ | refine W.skip ?_ | refine W.exit ?_))
 refine W.g ?_ zb7q32
 (repeat (first | refine W.seq ?_ | refine W.block ?_ | refine W.skip ?_ | refine W.exit ?_))
 refine W.cond rfl ?_ ?_
 ·intro _
  repeat (first | refine W.seq ?_ | refine W.block ?_ | refine W.skip ?_ | refine W.exit ?_ | refine W.g ?_)
  refine W.ret ⟨.inr rfl, by rfl, ?_⟩
  simp only [Try.f43, resA, resOne, toT, fin, exb, Nat.reduceAdd, Nat.reduceLeDiff, Nat.reduceEqDiff, Nat.reduceMul, Int.reduceToNat, reduceIte, Int.reduceLE, Int.reduceNeg, errG]
  rfl
 ·intro h; cases h
def natS (l : List Q) : List SE := l.map fun e => ⟨e.1.toNat, e.2.1.toNat, e.2.2.1.toNat, e.2.2.2.toNat⟩
theorem natS_back {n : Int} {l : List Q} (hc : chkS n l = true) : (natS l).map castS = l ∧ (0 ≤ n ∧ n ≤ 100000) ∧ ∀ e ∈ natS l, e.f < n.toNat ∧ e.t < n.toNat := by
 unfold chkS at hc
 simp only [Bool.not_eq_true', Bool.or_eq_false_iff, decide_eq_false_iff_not] at hc
 obtain ⟨⟨h1, h2⟩, h3⟩ := hc
 have hb : ∀ e ∈ l, 0 ≤ e.1 ∧ e.1 < n ∧ 0 ≤ e.2.1 ∧ e.2.1 < n ∧ 0 ≤ e.2.2.1 ∧ 0 ≤ e.2.2.2 := fun e he => by
  have := List.any_eq_false.1 h3 e he
  simp only [badS, Bool.or_eq_true, decide_eq_true_eq, not_or] at this
  omega
 refine ⟨?_, by omega, fun e he => ?_⟩
 ·unfold natS
  rw [List.map_map]
  refine (List.map_congr_left fun e he => ?_).trans (List.map_id _)
  have := hb e he
  obtain ⟨a, b, c, d⟩ := e
  simp only at this
  simp only [Function.comp, castS, Prod.mk.injEq, id]
  omega
 ·obtain ⟨x, hx, rfl⟩ := List.mem_map.1 he
  have := hb x hx
  simp only
  omega
noncomputable def sumI (n : Int) (l : List Q) : List (Int × Int) := (sumL (natS l) n.toNat).map castE
noncomputable def edgesR (n : Int) (l : List Q) : List (Bool × List C) := if chkS n l = true then [(false, [.sl ((sumI n l).map cE)]), (false, [.int .i64 0])] else [(false, [.sl []]), (false, [.int .i64 150])]
theorem sumI_len {n : Int} {l : List Q} (hc : chkS n l = true) : (sumI n l).length ≤ 100000 * 100000 := by
 obtain ⟨h1, h2, h3⟩ := natS_back hc
 unfold sumI
 rw [List.length_map]
 have hnd : (sumL (natS l) n.toNat).Nodup := (sumL_rising _ _).imp fun {a b} (h : lexLt a b) (e : a = b) => lex_irrefl a (by rw [← e] at h; exact h)
 refine Nat.le_trans (pairs_len (N := n.toNat) hnd fun p hp => ?_) (Nat.mul_le_mul (by omega) (by omega))
 have := mem_sumL.1 (show (p.1, p.2) ∈ sumL (natS l) n.toNat from hp)
 exact ⟨this.1, this.2.1⟩
theorem edgesR_ok (n : Int) (l : List Q) (hlen : l.length ≤ 100000000) (m : Mem) : COk Try.prog 39 [.c (.int .i64 n), .c (.sl (l.map cS))] m (.tup (edgesR n l)) := by
 by_cases hc : chkS n l = true
 ·obtain ⟨h1, h2, h3⟩ := natS_back hc
  have hn : ((n.toNat : Nat) : Int) = n := by omega
  have := edges_ok n.toNat (by omega) (natS l) (by unfold natS; rw [List.length_map]; exact hlen) h3 (by rw [h1, hn]; exact hc) m
  rw [h1, hn] at this
  unfold edgesR
  rw [if_pos hc]
  exact this
 ·unfold edgesR
  rw [if_neg hc]
  exact edgesB_ok n l hlen (by simpa using hc) m
theorem refEdgesR_ok (n : Int) (l : List Q) (hlen : l.length ≤ 100000000) (m : Mem) : COk Try.prog 43 [.c (.int .i64 n), .c (.sl (l.map cS))] m (.tup (edgesR n l)) := by
 by_cases hc : chkS n l = true
 ·obtain ⟨h1, h2, h3⟩ := natS_back hc
  have hn : ((n.toNat : Nat) : Int) = n := by omega
  have := refEdgesG_ok n.toNat (by omega) (natS l) (by unfold natS; rw [List.length_map]; exact hlen) h3 (by rw [h1, hn]; exact hc) m
  rw [h1, hn] at this
  unfold edgesR
  rw [if_pos hc]
  exact this
 ·unfold edgesR
  rw [if_neg hc]
  exact refEdgesB_ok n l hlen (by simpa using hc) m
end V
end Go.Proofs.Ytmhchhmhpoldhaa
end
section
namespace Go.Proofs.Ytmhchhmhpoldhaa
namespace G
namespace Ms
open Classical in
noncomputable def farF (E : List (Nat × Nat)) (T : List Nat) (i : Nat) : Nat := if h : ∃ v, Dst E T i v then Classical.choose h + 1 else 0
theorem farF_at {E : List (Nat × Nat)} {T : List Nat} {i v : Nat} : farF E T i = v + 1 ↔ Dst E T i v := by
 unfold farF
 constructor
 ·intro h
  split at h
  ·rename_i h2
   have := Classical.choose_spec h2
   rw [show Classical.choose h2 = v by omega] at this; exact this
  ·omega
 ·intro h
  rw [dif_pos ⟨v, h⟩]
  exact congrArg (· + 1) ((Classical.choose_spec (⟨v, h⟩ : ∃ v, Dst E T i v)).uniq h)
theorem farF_zero {E : List (Nat × Nat)} {T : List Nat} {i : Nat} : farF E T i = 0 ↔ ¬ ∃ v, Way E T i v := by
 constructor
 ·rintro h ⟨v, hv⟩
  obtain ⟨m, -, hm⟩ := dst_of hv
  rw [farF_at.2 hm] at h; cases h
 ·intro h
  unfold farF
  rw [dif_neg (fun ⟨v, hv⟩ => h ⟨v, hv.1⟩)]
theorem BInv.far {E : List (Nat × Nat)} {T : List Nat} {n : Nat} {F : Nat → Nat} (h : BInv E T n [] F) : F = farF E T := by
 funext i
 cases hF : F i with
 | zero => exact (farF_zero.2 ((h.none i).1 hF)).symm
 | succ v => exact (farF_at.2 ((h.done i v).1 hF)).symm
theorem farF_le {E : List (Nat × Nat)} {T : List Nat} {n : Nat} (hE : ∀ e ∈ E, e.1 < n ∧ e.2 < n) (ht : ∀ t ∈ T, t < n) (i : Nat) : farF E T i ≤ n := by
 cases h : farF E T i with
 | zero => exact Nat.zero_le _
 | succ v => have := dst_lt hE ht (farF_at.1 h); omega
end Ms
end G
namespace V
open Go.RowKit G
def rowF (n : Nat) (F : Nat → Nat) : List (List C) := (List.range n).map fun i => [.int .i64 (F i : Nat)]
theorem rowF_len (n : Nat) (F : Nat → Nat) : (rowF n F).length = n := by simp [rowF]
theorem rowF_at {n k : Nat} {F : Nat → Nat} (h : k < n) : (rowF n F)[k]? = some [.int .i64 (F k : Nat)] := by simp [rowF, h]
theorem rowF_set {n k v : Nat} {F : Nat → Nat} : (rowF n F).set k [.int .i64 (v : Int)] = rowF n (setF F k v) := by
 refine List.ext_getElem? fun i => ?_
 rw [List.getElem?_set, rowF_len]
 by_cases hi : i < n
 ·rw [rowF_at hi, rowF_at hi]
  by_cases e : k = i
  ·subst e; rw [if_pos rfl, if_pos hi]; simp [setF]
  ·rw [if_neg e]; simp [setF, Ne.symm e]
 ·have h1 : (rowF n F)[i]? = none := by rw [List.getElem?_eq_none]; rw [rowF_len]; omega
  have h2 : (rowF n (setF F k v))[i]? = none := by rw [List.getElem?_eq_none]; rw [rowF_len]; omega
  rw [h1, h2]
  split
  ·rw [if_neg (by omega)]
  ·rfl
theorem rowF_set1 {n k : Nat} {F : Nat → Nat} : (rowF n F).set k [.int .i64 1] = rowF n (setF F k 1) := rowF_set (v := 1)
theorem rep_rowF (n : Nat) : List.replicate n [C.int .i64 0] = rowF n (fun _ => 0) := by
 refine List.ext_getElem? fun i => ?_
 by_cases hi : i < n
 ·rw [rowF_at hi]; simp [hi]
 ·rw [List.getElem?_eq_none (by simpa using hi), List.getElem?_eq_none (by rw [rowF_len]; omega)]
def mF (F : Nat → Nat) : Nat → Bool := fun j => decide (F j ≠ 0)
theorem mF_set {F : Nat → Nat} {k v : Nat} (hv : v ≠ 0) : mF (setF F k v) = G.mark (mF F) k := by
 funext j
 simp only [mF, setF, G.mark]
 by_cases e : j = k
 ·subst e; simp [hv]
 ·simp [e]
theorem left_zero (k : Nat) : left (mF fun _ => 0) k = k := by
 induction k with
 | zero => rfl
 | succ k ih => simp only [left, ih]; simp [mF]
theorem mem_outs' {D : List (Nat × Nat)} {i k : Nat} : k ∈ outs D i ↔ (k, i) ∈ turnL D := by rw [mem_turn]; unfold outs; simp
def FT (T : List Nat) : Nat → Nat := fun x => if x ∈ T then 1 else 0
theorem FT_old {T : List Nat} {k x : Nat} (h : T[k]? = some x) (hx : FT (T.take k) x ≠ 0) : FT (T.take (k + 1)) = FT (T.take k) := by
 have hm : x ∈ T.take k := by
  unfold FT at hx
  split at hx
  ·assumption
  ·exact absurd rfl hx
 funext y
 unfold FT
 rw [List.take_add_one, h, Option.toList_some]
 by_cases e : y ∈ T.take k
 ·simp [e]
 ·have : y ≠ x := fun e' => e (e' ▸ hm)
  simp [e, this]
theorem FT_new {T : List Nat} {k x : Nat} (h : T[k]? = some x) : FT (T.take (k + 1)) = setF (FT (T.take k)) x 1 := by
 funext y
 unfold FT setF
 rw [List.take_add_one, h, Option.toList_some]
 by_cases e : y = x
 ·simp [e]
 ·simp [e]
set_option maxHeartbeats 4000000 in
theorem spread_ok (n : Nat) (hn : n ≤ 100000) (D : List (Nat × Nat)) (hlen : D.length ≤ 1000000) (hD : ∀ e ∈ D, e.1 < 2 * n ∧ e.2 < 2 * n) (T : List Nat) (hT : ∀ t ∈ T, t < 2 * n) (hTl : T.length ≤ 1000000000) (m : Mem) :
  COk Try.prog 21 [.c (.int .i64 n), .c (.sl (tabU D (2 * n))), .c (.sl (T.map cN))] m (.c (.sl (rowF (2 * n) (Ms.farF (turnL D) T)))) := by
 obtain ⟨N, hN⟩ : ∃ N, N = 2 * n := ⟨_, rfl⟩
 have hm1 : N * 8 ≤ 140737488355328 := by omega
 have hm2 : (N : Int) ≤ 9223372036854775807 := by omega
 have hn0 : (0 : Int) ≤ (N : Int) := by omega
 have hw : IntKind.i64.wrap (2 * (n : Int)) = (N : Int) := by rw [hN]; exact wrap_two (by omega)
 have hNl : N ≤ 200000 := by omega
 rw [← hN] at hD hT ⊢
 clear hN
 have hE : ∀ e ∈ turnL D, e.1 < N ∧ e.2 < N := fun ⟨a, b⟩ he => by have := hD _ (mem_turn.1 he); exact ⟨this.2, this.1⟩
 have hol : ∀ i, (outs D i).length ≤ D.length := fun i => outs_len D i
 refine (ok_pure tab_ok Try.func21 (by kernel_rfl) rfl rfl (by rfl) (by rfl) (by rfl) (fun R hkeep => ?_) m)
 repeat (first | refine W.seq ?_ | refine W.block ?_ | refine W.skip ?_ | refine W.exit ?_ | refine W.g ?_ (by simp only [exb, Nat.reduceAdd, Nat.reduceLeDiff, Nat.reduceEqDiff, Nat.reduceMul, Int.reduceToNat, reduceIte, Int.reduceLE, Int.reduceNeg, hw, hm1, hm2, hn0, Int.toNat_natCast, and_self, Bool.false_eq_true, rep_rowF]; rfl))
 refine W.newM 8 40 3 1 rfl rfl ?_
 refine W.loop (ι := Nat × List Nat) (fun x => ⟨upd (upd (upd (upd (upd (upd (fun _ => .top) 1 (.c (.sl (tabU D N)))) 7 (.own 15)) 8 (.own 40)) 16 (.c (.sl (T.map cN)))) 17 (.c (.int .i64 T.length))) 18 (.c (.int .i64 x.1)),
   upd (upd Mem.nil 15 (some (.mrow 3 1 (rowF N (FT (T.take x.1)))))) 40 (some (.mrow 3 1 (x.2.map cN)))⟩)
  (fun x => x.1 ≤ T.length ∧ (∀ y, y ∈ x.2 ↔ y ∈ T.take x.1) ∧ left (mF (FT (T.take x.1))) N + x.2.length ≤ N) (fun x => T.length - x.1) (0, []) ?start ⟨Nat.zero_le _, by simp, by
   have : FT (T.take 0) = fun _ => 0 := by funext y; simp [FT]
   simp only [this, left_zero]; simp⟩ ?round
 case start =>
  have : FT (T.take 0) = fun _ => 0 := by funext y; simp [FT]
  simp only [this]
  refine le_mk ?sle ?mle ?swf ?mwf (kept_not hkeep) (by rfl)
  case swf => repeat (first | exact swf_top _ | refine swf_upd ?_ (by simp [A.ids, upd_app, List.map_nil]))
  case mwf => repeat (first | exact mwf_nil _ | refine mwf_upd ?_ (by simp [A.ids, O.ids, upd_app, List.map_nil]))
  case mle => repeat (first | exact mle_nil _ | exact mle_refl _ | refine mle_upd ?_ zb7q25)
  case sle => repeat (first | exact sle_top _ | exact sle_refl _ | refine sle_upd ?_ zb7q35)
 case round =>
  rintro ⟨k, wk⟩ ⟨hk, hwk, hbd⟩
  simp only at hk hwk hbd
  repeat (first | refine W.seq ?_ | refine W.block ?_ | refine W.skip ?_ | refine W.exit ?_ | refine W.g ?_)
  refine W.cond rfl ?_ ?_
  ·intro hlt
   simp only [decide_eq_true_eq, Int.ofNat_lt] at hlt
   obtain ⟨x, hx⟩ : ∃ x, T[k]? = some x := ⟨_, List.getElem?_eq_getElem hlt⟩
   have hxn : x < N := hT x (List.mem_of_getElem? hx)
   have hx0 : (0 : Int) ≤ (x : Int) := by omega
   have htk : T.take (k + 1) = T.take k ++ [x] := by rw [List.take_add_one, hx]; rfl
   repeat (first | refine W.seq ?_ | refine W.block ?_ | refine W.skip ?_ | refine W.exit ?_ | refine W.g ?_ zb7q22)
   refine W.cond rfl ?_ ?_
   ·intro hq
    have hq : FT (T.take k) x = 0 := by simp only [decide_eq_true_eq] at hq; omega
    have hm := left_mark (mF (FT (T.take k))) x (by simp [mF, hq]) N
    rw [if_pos hxn] at hm
    (repeat (first | refine W.seq ?_ | refine W.block ?_ | refine W.skip ?_ | refine W.exit ?_))
    refine W.g ?_ (by simp only [exb, Nat.reduceAdd, Nat.reduceLeDiff, Nat.reduceEqDiff, Nat.reduceMul, Int.reduceToNat, reduceIte, Int.reduceLE, Int.reduceNeg, cN, rowF_at hxn, rowF_len, hxn, hx0, Int.toNat_natCast, and_self, rowF_set1]; rfl)
    (repeat (first | refine W.seq ?_ | refine W.block ?_ | refine W.skip ?_ | refine W.exit ?_))
    refine W.regionK tab_ok 0 (by decide) ?_
    refine xs0 3 ?_
    refine runk_appendM tab_ok 40 rfl rfl rfl rfl rfl rfl zb7q34 zb7q33 zb7q31 rfl rfl rfl rfl (nokeep hkeep) (fun z hz => by simp at hz; subst hz; rfl) zb7q44 (by decide) ?_
    refine xe0 ?_
    repeat (first | refine W.seq ?_ | refine W.block ?_ | refine W.skip ?_ | refine W.exit ?_ | refine W.g ?_)
    refine ⟨(k + 1, wk ++ [x]), ⟨hlt, fun y => ?_, ?_⟩, by simp only; omega, ?_⟩
    ·rw [htk]; simp [hwk y]
    ·rw [FT_new hx, mF_set (by decide)]
     simp only [List.length_append, List.length_cons, List.length_nil]; omega
    simp only [FT_new hx]
    refine le_mk ?sle ?mle ?swf ?mwf (kept_not hkeep) (by rfl)
    case swf => repeat (first | exact swf_top _ | refine swf_upd ?_ (by simp [A.ids, upd_app, wrap_succ (show k + 1 < 9223372036854775808 by omega), List.map_append, List.map_cons, cN]))
    case mwf => repeat (first | exact mwf_nil _ | refine mwf_upd ?_ (by simp [A.ids, O.ids, upd_app, wrap_succ (show k + 1 < 9223372036854775808 by omega), List.map_append, List.map_cons, cN]))
    case mle => repeat (first | exact mle_nil _ | exact mle_refl _ | refine mle_upd ?_ (by first | rfl | (simp only [upd_app, killM_app, O.kill, A.kill, Nat.reduceEqDiff, reduceIte, Option.map_some, Option.map_none, List.map_cons, List.map_nil, wrap_succ (show k + 1 < 9223372036854775808 by omega), List.map_append, List.map_cons, cN]; done)))
    case sle => repeat (first | exact sle_top _ | exact sle_refl _ | refine sle_upd ?_ (by first | rfl | (simp only [upd_app, killS_app, A.kill, entry_zero, entry_succ, Nat.reduceEqDiff, reduceIte, wrap_succ (show k + 1 < 9223372036854775808 by omega), List.map_append, List.map_cons, cN]; done)))
   ·intro hq
    have hq : FT (T.take k) x ≠ 0 := by simp only [decide_eq_false_iff_not] at hq; omega
    repeat (first | refine W.seq ?_ | refine W.block ?_ | refine W.skip ?_ | refine W.exit ?_ | refine W.g ?_)
    refine ⟨(k + 1, wk), ⟨hlt, fun y => ?_, ?_⟩, by simp only; omega, ?_⟩
    ·rw [htk, hwk y]
     have : x ∈ T.take k := by
      unfold FT at hq
      split at hq
      ·assumption
      ·exact absurd rfl hq
     simp only [List.mem_append, List.mem_singleton]
     exact ⟨.inl, fun h => h.elim id fun e => e ▸ this⟩
    ·rw [FT_old hx hq]; exact hbd
    simp only [FT_old hx hq]
    refine le_mk ?sle ?mle ?swf ?mwf (kept_not hkeep) (by rfl)
    case swf => repeat (first | exact swf_top _ | refine swf_upd ?_ zb7q43)
    case mwf => repeat (first | exact mwf_nil _ | refine mwf_upd ?_ zb7q41)
    case mle => repeat (first | exact mle_nil _ | exact mle_refl _ | refine mle_upd ?_ zb7q24)
    case sle => repeat (first | exact sle_top _ | exact sle_refl _ | refine sle_upd ?_ zb7q27)
  ·intro hge
   simp only [decide_eq_false_iff_not, Int.ofNat_lt] at hge
   obtain rfl : k = T.length := by omega
   rw [List.take_length] at *
   have hF1 : ∀ a, FT T a + left (mF (FT T)) N ≤ N := fun a => by
    unfold FT
    by_cases e : a ∈ T
    ·have : 0 < wk.length := List.length_pos_of_mem ((hwk a).2 e)
     have e' : (fun x => if x ∈ T then 1 else 0) = FT T := rfl
     rw [if_pos e, e']; omega
    ·have e' : (fun x => if x ∈ T then 1 else 0) = FT T := rfl
     rw [if_neg e, e']; have := left_le (mF (FT T)) N; omega
   (repeat (first | refine W.seq ?_ | refine W.block ?_ | refine W.skip ?_ | refine W.exit ?_))
   refine W.loop (ι := List Nat × (Nat → Nat)) (fun x => ⟨upd (upd (upd (fun _ => .top) 1 (.c (.sl (tabU D N)))) 7 (.own 15)) 8 (.own 40),
     upd (upd Mem.nil 15 (some (.mrow 3 1 (rowF N x.2)))) 40 (some (.mrow 3 1 (x.1.map cN)))⟩)
    (fun x => Ms.BInv (turnL D) T N x.1 x.2 ∧ (∀ a, x.2 a + left (mF x.2) N ≤ N) ∧ left (mF x.2) N + x.1.length ≤ N) (fun x => left (mF x.2) N + x.1.length) (wk, FT T) ?start2 ⟨Ms.BInv.first hwk (fun x => rfl) hT, hF1, hbd⟩ ?round2
   case start2 =>
    refine le_L ?sle ?mle (kept_not hkeep)
    case mle => repeat (first | exact mle_nil _ | exact mle_refl _ | refine mle_upd ?_ zb7q30)
    case sle => repeat (first | exact sle_top _ | exact sle_refl _ | refine sle_upd ?_ zb7q38)
   case round2 =>
    clear hbd hF1 hwk
    rintro ⟨ws, F⟩ ⟨hinv, hF, hbd⟩
    simp only at hinv hF hbd
    cases ws with
    | nil =>
     repeat (first | refine W.seq ?_ | refine W.block ?_ | refine W.skip ?_ | refine W.exit ?_ | refine W.g ?_)
     refine W.cond rfl ?_ ?_
     ·intro h; simp at h
     ·intro _
      repeat (first | refine W.seq ?_ | refine W.block ?_ | refine W.skip ?_ | refine W.exit ?_ | refine W.g ?_)
      refine W.freeze 6 15 rfl zb7q33 (nokeep hkeep) ?_
      refine W.ret ⟨.inr rfl, by rfl, ?_⟩
      simp only [Try.f21, resA, resOne, toT, fin, exb, Nat.reduceAdd, Nat.reduceLeDiff, Nat.reduceEqDiff, Nat.reduceMul, Int.reduceToNat, reduceIte, Int.reduceLE, Int.reduceNeg]
      rw [hinv.far]
    | cons i vs =>
     have hi : i < N := hinv.lt i (hinv.sub i (by simp))
     have hi0 : (0 : Int) ≤ (i : Int) := by omega
     have hb1 : vs.length + 1 ≤ N := by simp only [List.length_cons] at hbd; omega
     have hsn := hol i
     repeat (first | refine W.seq ?_ | refine W.block ?_ | refine W.skip ?_ | refine W.exit ?_ | refine W.g ?_ (by simp only [exb, Nat.reduceAdd, Nat.reduceLeDiff, Nat.reduceEqDiff, Nat.reduceMul, Int.reduceToNat, reduceIte, Int.reduceLE, Int.reduceNeg, List.length_map, List.length_cons]; rfl))
     refine W.cond rfl ?_ ?_
     ·intro _
      repeat (first | refine W.seq ?_ | refine W.block ?_ | refine W.skip ?_ | refine W.exit ?_ | refine W.g ?_ (by simp only [exb, Nat.reduceAdd, Nat.reduceLeDiff, Nat.reduceEqDiff, Nat.reduceMul, Int.reduceToNat, reduceIte, Int.reduceLE, Int.reduceNeg, List.map_cons, cN, tabU_at hi, hi, hi0, tabU_len, Int.toNat_natCast, and_self, Int.toNat_zero, Nat.zero_lt_succ, List.length_map]; rfl))
      refine W.loop (ι := Nat × List Nat × (Nat → Nat)) (fun x => ⟨upd (upd (upd (upd (upd (upd (fun _ => .top) 1 (.c (.sl (tabU D N)))) 7 (.own 15)) 8 (.own 40)) 45 (.c (.sl ((outs D i).map cN)))) 46 (.c (.int .i64 (outs D i).length))) 47 (.c (.int .i64 x.1)),
        upd (upd Mem.nil 15 (some (.mrow 3 1 (rowF N x.2.2)))) 40 (some (.mrow 3 1 ((i :: x.2.1).map cN)))⟩)
       (fun x => x.1 ≤ (outs D i).length ∧ Ms.BMid (turnL D) T N i x.2.1 x.2.2 ((outs D i).drop x.1) ∧ (∀ a, x.2.2 a + left (mF x.2.2) N ≤ N) ∧ left (mF x.2.2) N + x.2.1.length = left (mF F) N + vs.length) (fun x => (outs D i).length - x.1) (0, vs, F) ?start3 ⟨Nat.zero_le _, hinv.take (fun k hk => mem_outs'.2 hk), hF, rfl⟩ ?round3
      case start3 =>
       refine le_mk ?sle ?mle ?swf ?mwf (kept_not hkeep) (by rfl)
       case swf => repeat (first | exact swf_top _ | refine swf_upd ?_ (by simp [A.ids, upd_app, cN, List.map_cons]))
       case mwf => repeat (first | exact mwf_nil _ | refine mwf_upd ?_ (by simp [A.ids, O.ids, upd_app, cN, List.map_cons]))
       case mle => repeat (first | exact mle_nil _ | exact mle_refl _ | refine mle_upd ?_ (by first | rfl | (simp only [upd_app, killM_app, O.kill, A.kill, Nat.reduceEqDiff, reduceIte, Option.map_some, Option.map_none, List.map_cons, List.map_nil, cN, List.map_cons]; done)))
       case sle => repeat (first | exact sle_top _ | exact sle_refl _ | refine sle_upd ?_ (by first | rfl | (simp only [upd_app, killS_app, A.kill, entry_zero, entry_succ, Nat.reduceEqDiff, reduceIte, cN, List.map_cons]; done)))
      case round3 =>
       rintro ⟨j, us, F2⟩ ⟨hj, hmid, hF2, hcnt⟩
       simp only at hj hmid hF2 hcnt
       repeat (first | refine W.seq ?_ | refine W.block ?_ | refine W.skip ?_ | refine W.exit ?_ | refine W.g ?_)
       refine W.cond rfl ?_ ?_
       ·intro hlt
        simp only [decide_eq_true_eq, Int.ofNat_lt] at hlt
        obtain ⟨x, hx⟩ : ∃ x, (outs D i)[j]? = some x := ⟨_, List.getElem?_eq_getElem hlt⟩
        have hedge : (x, i) ∈ turnL D := mem_outs'.1 (List.mem_of_getElem? hx)
        have hxn : x < N := (hE _ hedge).1
        have hx0 : (0 : Int) ≤ (x : Int) := by omega
        have hdrop : (outs D i).drop j = x :: (outs D i).drop (j + 1) := by
         rw [List.drop_eq_getElem_cons hlt]
         congr 1
         rw [List.getElem?_eq_getElem hlt] at hx; exact Option.some.inj hx
        rw [hdrop] at hmid
        repeat (first | refine W.seq ?_ | refine W.block ?_ | refine W.skip ?_ | refine W.exit ?_ | refine W.g ?_ zb7q22)
        refine W.cond rfl ?_ ?_
        ·intro hq
         have hq : F2 x = 0 := by simp only [decide_eq_true_eq] at hq; omega
         have hFi := hF2 i
         have hm := left_mark (mF F2) x (by simp [mF, hq]) N
         rw [if_pos hxn] at hm
         have hwr : IntKind.i64.wrap ((F2 i : Int) + 1) = ((F2 i + 1 : Nat) : Int) := wrap_succ (by omega)
         (repeat (first | refine W.seq ?_ | refine W.block ?_ | refine W.skip ?_ | refine W.exit ?_))
         refine W.g ?_ (by simp only [exb, Nat.reduceAdd, Nat.reduceLeDiff, Nat.reduceEqDiff, Nat.reduceMul, Int.reduceToNat, reduceIte, Int.reduceLE, Int.reduceNeg, List.map_cons, cN, rowF_at hi, rowF_at hxn, rowF_len, hi, hi0, hxn, hx0, Int.toNat_natCast, and_self, Int.toNat_zero, Nat.zero_lt_succ, hwr, rowF_set, List.length_cons]; rfl)
         (repeat (first | refine W.seq ?_ | refine W.block ?_ | refine W.skip ?_ | refine W.exit ?_))
         refine W.regionK tab_ok 0 (by decide) ?_
         refine xs0 3 ?_
         refine runk_appendM tab_ok 40 rfl rfl rfl rfl rfl rfl zb7q34 zb7q33 zb7q31 rfl rfl rfl rfl (nokeep hkeep) (fun z hz => by simp at hz; subst hz; rfl) zb7q44 (by decide) ?_
         refine xe0 ?_
         repeat (first | refine W.seq ?_ | refine W.block ?_ | refine W.skip ?_ | refine W.exit ?_ | refine W.g ?_)
         refine ⟨(j + 1, us ++ [x], setF F2 x (F2 i + 1)), ⟨hlt, hmid.new hq hxn hedge, fun a => ?_, ?_⟩, by simp only; omega, ?_⟩
         ·rw [mF_set (by omega)]
          have := hF2 a
          simp only [setF]
          split <;> omega
         ·rw [mF_set (by omega)]
          simp only [List.length_append, List.length_cons, List.length_nil]; omega
         refine le_mk ?sle ?mle ?swf ?mwf (kept_not hkeep) (by rfl)
         case swf => repeat (first | exact swf_top _ | refine swf_upd ?_ (by simp [A.ids, upd_app, wrap_succ (show j + 1 < 9223372036854775808 by omega), List.map_append, List.map_cons, cN, List.cons_append]))
         case mwf => repeat (first | exact mwf_nil _ | refine mwf_upd ?_ (by simp [A.ids, O.ids, upd_app, wrap_succ (show j + 1 < 9223372036854775808 by omega), List.map_append, List.map_cons, cN, List.cons_append]))
         case mle => repeat (first | exact mle_nil _ | exact mle_refl _ | refine mle_upd ?_ (by first | rfl | (simp only [upd_app, killM_app, O.kill, A.kill, Nat.reduceEqDiff, reduceIte, Option.map_some, Option.map_none, List.map_cons, List.map_nil, wrap_succ (show j + 1 < 9223372036854775808 by omega), List.map_append, List.map_cons, cN, List.cons_append]; done)))
         case sle => repeat (first | exact sle_top _ | exact sle_refl _ | refine sle_upd ?_ (by first | rfl | (simp only [upd_app, killS_app, A.kill, entry_zero, entry_succ, Nat.reduceEqDiff, reduceIte, wrap_succ (show j + 1 < 9223372036854775808 by omega), List.map_append, List.map_cons, cN, List.cons_append]; done)))
        ·intro hq
         have hq : F2 x ≠ 0 := by simp only [decide_eq_false_iff_not] at hq; omega
         repeat (first | refine W.seq ?_ | refine W.block ?_ | refine W.skip ?_ | refine W.exit ?_ | refine W.g ?_)
         refine ⟨(j + 1, us, F2), ⟨hlt, hmid.old hq, hF2, hcnt⟩, by simp only; omega, ?_⟩
         refine le_mk ?sle ?mle ?swf ?mwf (kept_not hkeep) (by rfl)
         case swf => repeat (first | exact swf_top _ | refine swf_upd ?_ zb7q42)
         case mwf => repeat (first | exact mwf_nil _ | refine mwf_upd ?_ zb7q40)
         case mle => repeat (first | exact mle_nil _ | exact mle_refl _ | refine mle_upd ?_ zb7q23)
         case sle => repeat (first | exact sle_top _ | exact sle_refl _ | refine sle_upd ?_ zb7q26)
       ·intro hge
        simp only [decide_eq_false_iff_not, Int.ofNat_lt] at hge
        rw [List.drop_of_length_le (by omega)] at hmid
        (repeat (first | refine W.seq ?_ | refine W.block ?_ | refine W.skip ?_ | refine W.exit ?_))
        refine W.thenRewin 8 40 (by decide) (nokeep hkeep) ?_
        have hlu : us.length ≤ us.length := Nat.le_refl _
        (repeat (first | refine W.seq ?_ | refine W.block ?_ | refine W.skip ?_ | refine W.exit ?_))
        refine W.g ?_ (by simp only [exb, Nat.reduceAdd, Nat.reduceLeDiff, Nat.reduceEqDiff, Nat.reduceMul, Int.reduceToNat, reduceIte, Int.reduceLE, Int.reduceNeg, List.length_map, List.length_cons, hlu]; rfl)
        refine ⟨_, _, _, _, _, rfl, by simp only [exb, Nat.reduceAdd, Nat.reduceLeDiff, Nat.reduceEqDiff, Nat.reduceMul, Int.reduceToNat, reduceIte, Int.reduceLE, Int.reduceNeg]; rfl, by simp, ?_⟩
        refine ⟨(us, F2), ⟨hmid.done, hF2, by simp only [List.length_cons] at hbd; simp only; omega⟩, by simp only [List.length_cons]; omega, ?_⟩
        have htk : ((cN i :: us.map cN).take (us.length + 1)).tail = us.map cN := by rw [List.take_of_length_le (by simp)]; rfl
        refine le_mk ?sle ?mle ?swf ?mwf (kept_not hkeep) (by rfl)
        case swf => repeat (first | exact swf_top _ | refine swf_upd ?_ (by simp [A.ids, upd_app, List.drop_one, htk]))
        case mwf => repeat (first | exact mwf_nil _ | refine mwf_upd ?_ (by simp [A.ids, O.ids, upd_app, List.drop_one, htk]))
        case mle => repeat (first | exact mle_nil _ | exact mle_refl _ | refine mle_upd ?_ (by first | rfl | (simp only [upd_app, killM_app, O.kill, A.kill, Nat.reduceEqDiff, reduceIte, Option.map_some, Option.map_none, List.map_cons, List.map_nil, List.drop_one, htk]; done)))
        case sle => repeat (first | exact sle_top _ | exact sle_refl _ | refine sle_upd ?_ (by first | rfl | (simp only [upd_app, killS_app, A.kill, entry_zero, entry_succ, Nat.reduceEqDiff, reduceIte, List.drop_one, htk]; done)))
     ·intro h; simp at h
end V
end Go.Proofs.Ytmhchhmhpoldhaa
end
