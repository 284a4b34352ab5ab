/- Joined by my own program, in build order: Hd, Ow, Lev, Wa, Vnp, Rnd, Kf, So, Em, Wy, Ex. -/
import Derived.Test.YtmhchhmhpoldhaaB4
import Derived.Test.YtmhchhmhpoldhaaB1
set_option linter.unusedVariables false
set_option linter.unusedSimpArgs false
namespace Go.Proofs.Ytmhchhmhpoldhaa
theorem zb5q1 {p : Prop} (h : p := by (first | rfl | (simp only [exb, Nat.reduceAdd, Nat.reduceLeDiff, Nat.reduceEqDiff, Nat.reduceMul, Int.reduceToNat, reduceIte, Int.reduceLE, Int.reduceNeg, hD, tabR_set hu, Option.map_some, Option.map_none, wrap_succ (show p + 1 + 1 < 9223372036854775808 by omega), O.kill, A.kill, List.map_cons, List.map_nil]; done))) : p := h
theorem zb5q2 {p : Prop} (h : p := by (simp only [exb, Nat.reduceAdd, Nat.reduceLeDiff, Nat.reduceEqDiff, Nat.reduceMul, Int.reduceToNat, reduceIte, Int.reduceLE, Int.reduceNeg, hD, tabR_set hu, Option.map_some, Option.map_none, wrap_succ (show p + 1 + 1 < 9223372036854775808 by omega), O.kill, A.kill, List.map_cons, List.map_nil]; done)) : p := h
theorem zb5q3 {p : Prop} (h : p := by (simp only [exb, Nat.reduceAdd, Nat.reduceLeDiff, Nat.reduceEqDiff, Nat.reduceMul, Int.reduceToNat, reduceIte, Int.reduceLE, Int.reduceNeg, at_map hx', hcx, k1, k2, eq_self, Int.reduceEq, rowB_at hfn, rowB_at hy, rowB_len, hfn, hy, hf, ht, Bool.not_false, Int.toNat_natCast, and_self]; rfl)) : p := h
theorem zb5q4 {p : Prop} (h : p := by (simp only [exec1, exb, Nat.reduceAdd, Nat.reduceLeDiff, Nat.reduceEqDiff, Nat.reduceMul, Int.reduceToNat, reduceIte, Int.reduceLE, Int.reduceNeg, stO, hf0, hf, Int.toNat_natCast, tabR_len, and_self, tabR_at hf, fam_at hf, List.length_map, tabR_set hf, Option.map_some, Option.map_none]; rfl)) : p := h
theorem zb5q5 {p : Prop} (h : p := by (simp only [exb, Nat.reduceAdd, Nat.reduceLeDiff, Nat.reduceEqDiff, Nat.reduceMul, Int.reduceToNat, reduceIte, Int.reduceLE, Int.reduceNeg, stO, hf0, hf, Int.toNat_natCast, tabR_len, and_self, tabR_at hf, fam_at hf, List.length_map, tabR_set hf, Option.map_some, Option.map_none]; done)) : p := h
theorem zb5q6 {p : Prop} (h : p := by (simp only [exb, Nat.reduceAdd, Nat.reduceLeDiff, Nat.reduceEqDiff, Nat.reduceMul, Int.reduceToNat, reduceIte, Int.reduceLE, Int.reduceNeg, stO, hf0, hf, Int.toNat_natCast, tabR_len, and_self, tabR_at hf, fam_at hf, List.length_map, tabR_set hf, Option.map_some, Option.map_none]; rfl)) : p := h
theorem zb5q7 {p : Prop} (h : p := by (simp only [exb, Nat.reduceAdd, Nat.reduceLeDiff, Nat.reduceEqDiff, Nat.reduceMul, Int.reduceToNat, reduceIte, Int.reduceLE, Int.reduceNeg, hf0, hu, Int.toNat_natCast, tabR_len, and_self, tabR_at hu, fam_at hu, tabR_set hu, List.length_map, Option.map_some, Option.map_none]; rfl)) : p := h
theorem zb5q8 {p : Prop} (h : p := by (simp only [exb, Nat.reduceAdd, Nat.reduceLeDiff, Nat.reduceEqDiff, Nat.reduceMul, Int.reduceToNat, reduceIte, Int.reduceLE, Int.reduceNeg, at_map hx', hcx, k1, eq_self, rowB_at hfn, rowB_at hy, rowB_len, hfn, hy, hf, ht, Bool.not_false, Int.toNat_natCast, and_self]; rfl)) : p := h
theorem zb5q9 {p : Prop} (h : p := by (first | rfl | (simp only [upd_app, killS_app, A.kill, entry_zero, entry_succ, Nat.reduceEqDiff, reduceIte, hD, tabR_set hu, Option.map_some, Option.map_none, wrap_succ (show p + 1 + 1 < 9223372036854775808 by omega), O.kill, A.kill, List.map_cons, List.map_nil]; done))) : p := h
theorem zb5q10 {p : Prop} (h : p := by (simp only [exec1, exb, Nat.reduceAdd, Nat.reduceLeDiff, Nat.reduceEqDiff, Nat.reduceMul, Int.reduceToNat, reduceIte, Int.reduceLE, Int.reduceNeg, EM_8, EM_9, EM_12, EM_37, EM_38, EM_60, hfree, nms, nm_small, nm_small', Nat.reduceLT, q1, hrow, Bool.false_eq_true]; rfl)) : p := h
theorem zb5q11 {p : Prop} (h : p := by (simp only [exb, Nat.reduceAdd, Nat.reduceLeDiff, Nat.reduceEqDiff, Nat.reduceMul, Int.reduceToNat, reduceIte, Int.reduceLE, Int.reduceNeg, EM_8, EM_9, EM_12, EM_37, EM_38, EM_60, hfree, nms, nm_small, nm_small', Nat.reduceLT, q1, hrow, Bool.false_eq_true] <;> rfl)) : p := h
theorem zb5q12 {p : Prop} (h : p := by (simp only [exb, Nat.reduceAdd, Nat.reduceLeDiff, Nat.reduceEqDiff, Nat.reduceMul, Int.reduceToNat, reduceIte, Int.reduceLE, Int.reduceNeg, EM_8, EM_9, EM_12, EM_37, EM_38, EM_60, hfree, nms, nm_small, nm_small', Nat.reduceLT, q1, hrow, Bool.false_eq_true]; done)) : p := h
theorem zb5q13 {p : Prop} (h : p := by (simp only [exb, Nat.reduceAdd, Nat.reduceLeDiff, Nat.reduceEqDiff, Nat.reduceMul, Int.reduceToNat, reduceIte, Int.reduceLE, Int.reduceNeg, EM_8, EM_9, EM_12, EM_37, EM_38, EM_60, hfree, nms, nm_small, nm_small', Nat.reduceLT, q1, hrow, Bool.false_eq_true]; rfl)) : p := h
theorem zb5q14 {p : Prop} (h : p := by (simp only [exb, Nat.reduceAdd, Nat.reduceLeDiff, Nat.reduceEqDiff, Nat.reduceMul, Int.reduceToNat, reduceIte, Int.reduceLE, Int.reduceNeg, at_map hx', hcx, rowB_at hfn, rowB_at hy, rowB_len, hfn, hy, hf, ht, Bool.not_false, Int.toNat_natCast, and_self]; rfl)) : p := h
theorem zb5q15 {p : Prop} (h : p := by (first | rfl | (simp only [exb, Nat.reduceAdd, Nat.reduceLeDiff, Nat.reduceEqDiff, Nat.reduceMul, Int.reduceToNat, reduceIte, Int.reduceLE, Int.reduceNeg, EM_8, EM_9, EM_12, EM_37, EM_38, EM_60, hfree, nms, nm_small, nm_small', Nat.reduceLT]; rfl))) : p := h
theorem zb5q16 {p : Prop} (h : p := by (simp only [exb, Nat.reduceAdd, Nat.reduceLeDiff, Nat.reduceEqDiff, Nat.reduceMul, Int.reduceToNat, reduceIte, Int.reduceLE, Int.reduceNeg, EM_8, EM_9, EM_12, EM_37, EM_38, EM_60, hfree', nms, nm_small, nm_small', Nat.reduceLT, cP]; rfl)) : p := h
theorem zb5q17 {p : Prop} (h : p := by (simp only [exb, Nat.reduceAdd, Nat.reduceLeDiff, Nat.reduceEqDiff, Nat.reduceMul, Int.reduceToNat, reduceIte, Int.reduceLE, Int.reduceNeg, at_map hy', hcy, k5, ks, eq_self, rowB_at hrf, rowB_len, hrf, hb, Int.toNat_natCast]; rfl)) : p := h
theorem zb5q18 {p : Prop} (h : p := by (first | rfl | (simp only [upd_app, killM_app, O.kill, A.kill, Nat.reduceEqDiff, reduceIte, Option.map_some, Option.map_none, List.map_cons, List.map_nil, rowB_set, wrap_succ (show k + 1 < 9223372036854775808 by omega)]; done))) : p := h
theorem zb5q19 {p : Prop} (h : p := by (first | rfl | (simp only [upd_app, killM_app, O.kill, A.kill, Nat.reduceEqDiff, reduceIte, Option.map_some, Option.map_none, List.map_cons, List.map_nil, wrap_succ (show k + 1 < 9223372036854775808 by omega)]; done))) : p := h
theorem zb5q20 {p : Prop} (h : p := by (first | rfl | (simp only [upd_app, killM_app, O.kill, A.kill, Nat.reduceEqDiff, reduceIte, Option.map_some, Option.map_none, List.map_cons, List.map_nil, wrap_succ (show j + 1 < 9223372036854775808 by omega)]; done))) : p := h
theorem zb5q21 {p : Prop} (h : p := by (simp only [exb, Nat.reduceAdd, Nat.reduceLeDiff, Nat.reduceEqDiff, Nat.reduceMul, Int.reduceToNat, reduceIte, Int.reduceLE, Int.reduceNeg, hf0, hu, Int.toNat_natCast, tabR_len, and_self, tabR_at hu, fam_at hu]; rfl)) : p := h
theorem zb5q22 {p : Prop} (h : p := by (simp only [exb, Nat.reduceAdd, Nat.reduceLeDiff, Nat.reduceEqDiff, Nat.reduceMul, Int.reduceToNat, reduceIte, Int.reduceLE, Int.reduceNeg, k5, ks, eq_self, rowB_at hrf, rowB_len, hrf, hb, Int.toNat_natCast]; rfl)) : p := h
theorem zb5q23 {p : Prop} (h : p := by (simp only [exec1, exb, Nat.reduceAdd, Nat.reduceLeDiff, Nat.reduceEqDiff, Nat.reduceMul, Int.reduceToNat, reduceIte, Int.reduceLE, Int.reduceNeg, hf0, hf, Int.toNat_natCast, tabR_len, and_self, tabR_at hf]; rfl)) : p := h
theorem zb5q24 {p : Prop} (h : p := by (simp only [exb, Nat.reduceAdd, Nat.reduceLeDiff, Nat.reduceEqDiff, Nat.reduceMul, Int.reduceToNat, reduceIte, Int.reduceLE, Int.reduceNeg, wrap_succ (show k + 1 < 9223372036854775808 by omega)]; done)) : p := h
theorem zb5q25 {p : Prop} (h : p := by (simp only [exec1, exb, Nat.reduceAdd, Nat.reduceLeDiff, Nat.reduceEqDiff, Nat.reduceMul, Int.reduceToNat, reduceIte, Int.reduceLE, Int.reduceNeg, hf0, hf, Int.toNat_natCast, tabR_len, and_self]; rfl)) : p := h
theorem zb5q26 {p : Prop} (h : p := by (simp only [exb, Nat.reduceAdd, Nat.reduceLeDiff, Nat.reduceEqDiff, Nat.reduceMul, Int.reduceToNat, reduceIte, Int.reduceLE, Int.reduceNeg, hw, Int.toNat_natCast, hm1, hm2, hn0, and_self]; rfl)) : p := h
theorem zb5q27 {p : Prop} (h : p := by (simp only [exb, Nat.reduceAdd, Nat.reduceLeDiff, Nat.reduceEqDiff, Nat.reduceMul, Int.reduceToNat, reduceIte, Int.reduceLE, Int.reduceNeg, tabR_set hf, Option.map_some, Option.map_none]; done)) : p := h
theorem zb5q28 {p : Prop} (h : p := by (first | rfl | (simp only [upd_app, killS_app, A.kill, entry_zero, entry_succ, Nat.reduceEqDiff, reduceIte, rowB_set, wrap_succ (show k + 1 < 9223372036854775808 by omega)]; done))) : p := h
theorem zb5q29 {p : Prop} (h : p := by (first | rfl | (simp only [upd_app, killS_app, A.kill, entry_zero, entry_succ, Nat.reduceEqDiff, reduceIte, wrap_succ (show k + 1 < 9223372036854775808 by omega)]; done))) : p := h
theorem zb5q30 {p : Prop} (h : p := by (first | rfl | (simp only [upd_app, killS_app, A.kill, entry_zero, entry_succ, Nat.reduceEqDiff, reduceIte, wrap_succ (show j + 1 < 9223372036854775808 by omega)]; done))) : p := h
theorem zb5q31 {p : Prop} (h : p := by (first | rfl | (simp only [upd_app, killS_app, A.kill, entry_zero, entry_succ, Nat.reduceEqDiff, reduceIte, tabR_set hf, Option.map_some, Option.map_none]; done))) : p := h
theorem zb5q32 {p : Prop} (h : p := by (simp only [exb, Nat.reduceAdd, Nat.reduceLeDiff, Nat.reduceEqDiff, Nat.reduceMul, Int.reduceToNat, reduceIte, Int.reduceLE, Int.reduceNeg, Bool.not_false]; rfl)) : p := h
theorem zb5q33 {p : Prop} (h : p := by (first | rfl | (simp only [exb, Nat.reduceAdd, Nat.reduceLeDiff, Nat.reduceEqDiff, Nat.reduceMul, Int.reduceToNat, reduceIte, Int.reduceLE, Int.reduceNeg]; rfl))) : p := h
theorem zb5q34 {p : Prop} (h : p := by (simp only [exb, Nat.reduceAdd, Nat.reduceLeDiff, Nat.reduceEqDiff, Nat.reduceMul, Int.reduceToNat, reduceIte, Int.reduceLE, Int.reduceNeg, Bool.not_true]; rfl)) : p := h
theorem zb5q35 {p : Prop} (h : p := by (simp only [exb, Nat.reduceAdd, Nat.reduceLeDiff, Nat.reduceEqDiff, Nat.reduceMul, Int.reduceToNat, reduceIte, Int.reduceLE, Int.reduceNeg, fam_at hu]; rfl)) : p := h
theorem zb5q36 {p : Prop} (h : p := by (simp only [exb, Nat.reduceAdd, Nat.reduceLeDiff, Nat.reduceEqDiff, Nat.reduceMul, Int.reduceToNat, reduceIte, Int.reduceLE, Int.reduceNeg, tabR_len]; rfl)) : p := h
theorem zb5q37 {p : Prop} (h : p := by (simp only [exb, Nat.reduceAdd, Nat.reduceLeDiff, Nat.reduceEqDiff, Nat.reduceMul, Int.reduceToNat, reduceIte, Int.reduceLE, Int.reduceNeg, cEd]; rfl)) : p := h
theorem zb5q38 {p : Prop} (h : p := by (simp only [exb, Nat.reduceAdd, Nat.reduceLeDiff, Nat.reduceEqDiff, Nat.reduceMul, Int.reduceToNat, reduceIte, Int.reduceLE, Int.reduceNeg]; done)) : p := h
theorem zb5q39 {p : Prop} (h : p := by (simp only [exb, Nat.reduceAdd, Nat.reduceLeDiff, Nat.reduceEqDiff, Nat.reduceMul, Int.reduceToNat, reduceIte, Int.reduceLE, Int.reduceNeg])) : p := h
theorem zb5q40 {p : Prop} (h : p := by (first | rfl | (simp only [upd_app, killS_app, A.kill, entry_zero, entry_succ, Nat.reduceEqDiff, reduceIte]; done))) : p := h
theorem zb5q41 {p : Prop} (h : p := by (simp [A.ids, O.ids, upd_app, rowB_set, wrap_succ (show k + 1 < 9223372036854775808 by omega)])) : p := h
theorem zb5q42 {p : Prop} (h : p := by (simp [A.ids, upd_app, rowB_set, wrap_succ (show k + 1 < 9223372036854775808 by omega)])) : p := h
theorem zb5q43 {p : Prop} (h : p := by (simp [A.ids, O.ids, upd_app, wrap_succ (show k + 1 < 9223372036854775808 by omega)])) : p := h
theorem zb5q44 {p : Prop} (h : p := by (simp [A.ids, O.ids, upd_app, wrap_succ (show j + 1 < 9223372036854775808 by omega)])) : p := h
theorem zb5q45 {p : Prop} (h : p := by (simp [A.ids, upd_app, wrap_succ (show k + 1 < 9223372036854775808 by omega)])) : p := h
theorem zb5q46 {p : Prop} (h : p := by (simp [A.ids, upd_app, wrap_succ (show j + 1 < 9223372036854775808 by omega)])) : p := h
end Go.Proofs.Ytmhchhmhpoldhaa
section
namespace Go.Proofs.Ytmhchhmhpoldhaa
namespace V
open Go.RowKit G
def cEd (e : Nat × Nat) : List C := [.int .i64 (e.1 : Int), .int .i64 (e.2 : Int)]
def adjL (E : List (Nat × Nat)) (i : Nat) : List (List C) := (outs E i).map cN
theorem adjL_next {E : List (Nat × Nat)} {k f t : Nat} (h : E[k]? = some (f, t)) (i : Nat) : adjL (E.take (k + 1)) i = if i = f then adjL (E.take k) i ++ [cN t] else adjL (E.take k) i := by
 unfold adjL
 rw [List.take_add_one, h, Option.toList_some, outs_snoc]
 split <;> simp [cI, cN]
theorem adjL_len (E : List (Nat × Nat)) (k i : Nat) : (adjL (E.take k) i).length ≤ E.length := by
 have := outs_len (E.take k) i; have := List.length_take_le' k E; simp only [adjL, List.length_map]; omega
def tabU (E : List (Nat × Nat)) (n : Nat) : List (List C) := (List.range n).map fun i => [.sl (adjL E i)]
theorem tabU_at {E : List (Nat × Nat)} {n i : Nat} (h : i < n) : (tabU E n)[i]? = some [.sl ((outs E i).map cN)] := by simp [tabU, h, adjL]
theorem tabU_len (E : List (Nat × Nat)) (n : Nat) : (tabU E n).length = n := by simp [tabU]
def tnL (tn : Bool) (E : List (Nat × Nat)) : List (Nat × Nat) := if tn = true then turnL E else E
theorem tnL_len (tn : Bool) (E : List (Nat × Nat)) : (tnL tn E).length = E.length := by cases tn <;> simp [tnL, turnL]
set_option maxHeartbeats 8000000 in
theorem heads_ok (n : Nat) (hn : n ≤ 100000) (E0 : List (Nat × Nat)) (hlen : E0.length ≤ 1000000) (hE0 : ∀ e ∈ E0, e.1 < 2 * n ∧ e.2 < 2 * n) (tn : Bool) (m : Mem) :
  COk Try.prog 22 [.c (.int .i64 n), .c (.sl (E0.map cEd)), .c (.bool tn)] m (.c (.sl (tabU (tnL tn E0) (2 * n)))) := by
 obtain ⟨N, hN⟩ : ∃ N, N = 2 * n := ⟨_, rfl⟩
 obtain ⟨E, hEq⟩ : ∃ E, E = tnL tn E0 := ⟨_, rfl⟩
 have hEl : E.length = E0.length := by rw [hEq, tnL_len]
 have hm1 : N * 24 ≤ 140737488355328 := by omega
 have hm2 : (N : Int) ≤ 9223372036854775807 := by omega
 have hn0 : (0 : Int) ≤ (N : Int) := by omega
 have hw : IntKind.i64.wrap (2 * (n : Int)) = (N : Int) := by rw [hN]; exact wrap_two (by omega)
 rw [← hN, ← hEq]
 rw [← hN] at hE0
 refine (ok_pure tab_ok Try.func22 (by kernel_rfl) rfl rfl (by rfl) (by rfl) (by rfl) (fun R hkeep => ?_) m)
 repeat (first | refine W.seq ?_ | refine W.block ?_ | refine W.skip ?_ | refine W.exit ?_ | refine W.g ?_ zb5q26)
 refine W.famStart false 12 1000 N 23 3 1 rfl (by decide) (fun i _ => ?_) ?_
 ·simp only [upd_app, mem_nil_app, Nat.reduceEqDiff, reduceIte]
 refine W.loop (ι := Nat) (fun k => ⟨upd (upd (upd (upd (upd (upd (fun _ => .top) 0 (.c (.int .i64 n))) 2 (.c (.bool tn))) 7 (.own 12)) 13 (.c (.sl (E0.map cEd)))) 14 (.c (.int .i64 E0.length))) 15 (.c (.int .i64 k)),
  upd (famM 1000 N (fun i => rowO false 3 1 (adjL (E.take k) i)) Mem.nil) 12 (some (.rows 23 (tabR 1000 N)))⟩) (fun k => k ≤ E0.length) (fun k => E0.length - k) 0 ?start (Nat.zero_le _) ?round
 case start =>
  refine le_mk ?sle ?_ ?swf ?mwf (kept_not hkeep) (by rfl)
  case swf => repeat (first | exact swf_top _ | refine swf_upd ?_ (by simp [A.ids, upd_app]))
  case sle => repeat (first | exact sle_top _ | exact sle_refl _ | refine sle_upd ?_ zb5q40)
  case mwf =>
   refine mwf_upd (mwf_fam (mwf_nil _) (fun i hi => by first | exact rowO_ids | rfl)) (fun j hj => ?_)
   obtain ⟨q, hq, rfl⟩ := tabR_ids.1 hj
   simp only [upd_app, Nat.reduceEqDiff, reduceIte, fam_at hq, Option.isSome_some]
  refine mle_upd (mle_fam fun i hi => ?_) zb5q38
  simp only [exb, Nat.reduceAdd, Nat.reduceLeDiff, Nat.reduceEqDiff, Nat.reduceMul, Int.reduceToNat, reduceIte, Int.reduceLE, Int.reduceNeg, fam_at hi, adjL]
  rfl
 case round =>
  intro k hk
  repeat (first | refine W.seq ?_ | refine W.block ?_ | refine W.skip ?_ | refine W.exit ?_ | refine W.g ?_)
  refine W.cond rfl ?_ ?_
  ·intro hlt
   simp only [decide_eq_true_eq, Int.ofNat_lt] at hlt
   obtain ⟨⟨f, t⟩, hx⟩ : ∃ x, E0[k]? = some x := ⟨_, List.getElem?_eq_getElem hlt⟩
   obtain ⟨hf, ht⟩ := hE0 _ (List.mem_of_getElem? hx)
   replace hf : f < N := hf
   replace ht : t < N := ht
   repeat (first | refine W.seq ?_ | refine W.block ?_ | refine W.skip ?_ | refine W.exit ?_ | refine W.g ?_ (by simp only [exb, Nat.reduceAdd, Nat.reduceLeDiff, Nat.reduceEqDiff, Nat.reduceMul, Int.reduceToNat, reduceIte, Int.reduceLE, Int.reduceNeg, at_map hx, cEd]; rfl))
   refine W.cond rfl ?_ ?_
   ·intro htn
    have hxE : E[k]? = some (t, f) := by rw [hEq, htn]; simp [tnL, turnL, hx]
    repeat (first | refine W.seq ?_ | refine W.block ?_ | refine W.skip ?_ | refine W.exit ?_ | refine W.g ?_ zb5q37)
    obtain ⟨g, rfl⟩ : ∃ g, g = f := ⟨_, rfl⟩
    obtain ⟨f, rfl⟩ : ∃ f, f = t := ⟨_, rfl⟩
    obtain ⟨t, rfl⟩ : ∃ t, t = g := ⟨_, rfl⟩
    replace hf := ht
    have hf0 : (0 : Int) ≤ (f : Int) := by omega
    refine W.regionPC tab_ok 0 follows_mixed (by decide) ⟨upd (upd (upd (upd (upd (upd (fun _ => .top) 0 (.c (.int .i64 n))) 2 (.c (.bool tn))) 7 (.own 12)) 13 (.c (.sl (E0.map cEd)))) 14 (.c (.int .i64 E0.length))) 15 (.c (.int .i64 k)),
     upd (famM 1000 N (fun i => rowO false 3 1 (adjL (E.take (k + 1)) i)) Mem.nil) 12 (some (.rows 23 (tabR 1000 N)))⟩ ?_ ?_
    ·refine first_exec 3 (by decide +kernel) ⟨_, zb5q25, ?_⟩
     refine first_exec 4 (by decide +kernel) ⟨_, zb5q25, ?_⟩
     refine first_exec 5 (by decide +kernel) ⟨_, zb5q25, ?_⟩
     refine first_exec 6 (by decide +kernel) ⟨_, zb5q25, ?_⟩
     refine first_exec 7 (by decide +kernel) ⟨_, zb5q23, ?_⟩
     refine first_exec 8 (by decide +kernel) ⟨_, zb5q25, ?_⟩
     refine first_exec 9 (by decide +kernel) ⟨_, zb5q25, ?_⟩
     refine first_exec 10 (by decide +kernel) ⟨_, zb5q25, ?_⟩
     repeat' (first
      | exact trivial
      | refine runsw_end (by decide +kernel) ?_
      | refine first_exec 12 (by decide +kernel) ⟨_, zb5q4, ?_⟩
      | refine first_exec 13 (by decide +kernel) ⟨_, zb5q4, ?_⟩
      | refine first_exec 0 (by decide +kernel) ⟨_, zb5q4, ?_⟩
      | refine first_exec 1 (by decide +kernel) ⟨_, zb5q4, ?_⟩
      | refine first_exec 2 (by decide +kernel) ⟨_, zb5q4, ?_⟩
      | refine runs_node [0, 1, 11] (by decide +kernel) (by decide) ?_
      | refine runs_node [1, 11] (by decide +kernel) (by decide) ?_
      | refine runs_node [0, 2, 11] (by decide +kernel) (by decide) ?_
      | refine runs_node [2, 11] (by decide +kernel) (by decide) ?_
      | refine runs_node [0, 11] (by decide +kernel) (by decide) ?_
      | refine runs_node [11] (by decide +kernel) (by decide) ?_
      | refine step_exec ⟨_, zb5q4, ?_⟩ ?_
      | refine step_append tab_ok rfl (f + 1000) false rfl rfl rfl rfl rfl rfl zb5q5 zb5q6 zb5q6 rfl rfl rfl rfl (nokeep hkeep) (by simp) (by have := adjL_len E k f; simp only [List.length_cons, List.length_nil]; omega) (by decide) ?_ ?_)
     all_goals
      refine le_mk ?sle ?_ ?swf ?mwf (kept_not hkeep) (by rfl)
      case swf => repeat (first | exact swf_top _ | refine swf_upd ?_ (by simp [A.ids, upd_app]))
      case sle => repeat (first | exact sle_top _ | exact sle_refl _ | refine sle_upd ?_ zb5q31)
      case mwf =>
       refine mwf_upd (mwf_fam (mwf_nil _) (fun i hi => by first | exact rowO_ids | rfl)) (fun j hj => ?_)
       obtain ⟨q, hq, rfl⟩ := tabR_ids.1 hj
       simp only [upd_app, Nat.reduceEqDiff, reduceIte, fam_at hq, Option.isSome_some]
      refine mle_upd (mle_fam fun i hi => ?_) zb5q27
      rw [adjL_next hxE]
      by_cases e : i = f
      ·subst e
       simp only [exb, Nat.reduceAdd, Nat.reduceLeDiff, Nat.reduceEqDiff, Nat.reduceMul, Int.reduceToNat, reduceIte, Int.reduceLE, Int.reduceNeg, fam_at hi, Option.map_some, Option.map_none]
       rfl
      ·simp only [exb, Nat.reduceAdd, Nat.reduceLeDiff, Nat.reduceEqDiff, Nat.reduceMul, Int.reduceToNat, reduceIte, Int.reduceLE, Int.reduceNeg, fam_at hi, e, Nat.add_right_cancel_iff, Option.map_some, kill_rowO]
       rfl
    ·intro st' hle
     refine W.weaken hle ?_
     repeat (first | refine W.seq ?_ | refine W.block ?_ | refine W.skip ?_ | refine W.exit ?_ | refine W.g ?_)
     refine ⟨k + 1, hlt, by omega, ?_⟩
     refine le_mk ?sle ?_ ?swf ?mwf (kept_not hkeep) (by rfl)
     case swf => repeat (first | exact swf_top _ | refine swf_upd ?_ (by simp [A.ids, upd_app]))
     case sle => repeat (first | exact sle_top _ | exact sle_refl _ | refine sle_upd ?_ zb5q29)
     case mwf =>
      refine mwf_upd (mwf_fam (mwf_nil _) (fun i hi => by first | exact rowO_ids | rfl)) (fun j hj => ?_)
      obtain ⟨q, hq, rfl⟩ := tabR_ids.1 hj
      simp only [upd_app, Nat.reduceEqDiff, reduceIte, fam_at hq, Option.isSome_some]
     refine mle_upd (mle_fam fun i hi => ?_) zb5q24
     simp only [exb, Nat.reduceAdd, Nat.reduceLeDiff, Nat.reduceEqDiff, Nat.reduceMul, Int.reduceToNat, reduceIte, Int.reduceLE, Int.reduceNeg, fam_at hi]
   ·intro htn
    have hxE : E[k]? = some (f, t) := by rw [hEq, htn]; simp [tnL, hx]
    have hf0 : (0 : Int) ≤ (f : Int) := by omega
    repeat (first | refine W.seq ?_ | refine W.block ?_ | refine W.skip ?_ | refine W.exit ?_ | refine W.g ?_ zb5q37)
    refine W.regionPC tab_ok 0 follows_mixed (by decide) ⟨upd (upd (upd (upd (upd (upd (fun _ => .top) 0 (.c (.int .i64 n))) 2 (.c (.bool tn))) 7 (.own 12)) 13 (.c (.sl (E0.map cEd)))) 14 (.c (.int .i64 E0.length))) 15 (.c (.int .i64 k)),
     upd (famM 1000 N (fun i => rowO false 3 1 (adjL (E.take (k + 1)) i)) Mem.nil) 12 (some (.rows 23 (tabR 1000 N)))⟩ ?_ ?_
    ·refine first_exec 3 (by decide +kernel) ⟨_, zb5q25, ?_⟩
     refine first_exec 4 (by decide +kernel) ⟨_, zb5q25, ?_⟩
     refine first_exec 5 (by decide +kernel) ⟨_, zb5q25, ?_⟩
     refine first_exec 6 (by decide +kernel) ⟨_, zb5q25, ?_⟩
     refine first_exec 7 (by decide +kernel) ⟨_, zb5q23, ?_⟩
     refine first_exec 8 (by decide +kernel) ⟨_, zb5q25, ?_⟩
     refine first_exec 9 (by decide +kernel) ⟨_, zb5q25, ?_⟩
     refine first_exec 10 (by decide +kernel) ⟨_, zb5q25, ?_⟩
     repeat' (first
      | exact trivial
      | refine runsw_end (by decide +kernel) ?_
      | refine first_exec 12 (by decide +kernel) ⟨_, zb5q4, ?_⟩
      | refine first_exec 13 (by decide +kernel) ⟨_, zb5q4, ?_⟩
      | refine first_exec 0 (by decide +kernel) ⟨_, zb5q4, ?_⟩
      | refine first_exec 1 (by decide +kernel) ⟨_, zb5q4, ?_⟩
      | refine first_exec 2 (by decide +kernel) ⟨_, zb5q4, ?_⟩
      | refine runs_node [0, 1, 11] (by decide +kernel) (by decide) ?_
      | refine runs_node [1, 11] (by decide +kernel) (by decide) ?_
      | refine runs_node [0, 2, 11] (by decide +kernel) (by decide) ?_
      | refine runs_node [2, 11] (by decide +kernel) (by decide) ?_
      | refine runs_node [0, 11] (by decide +kernel) (by decide) ?_
      | refine runs_node [11] (by decide +kernel) (by decide) ?_
      | refine step_exec ⟨_, zb5q4, ?_⟩ ?_
      | refine step_append tab_ok rfl (f + 1000) false rfl rfl rfl rfl rfl rfl zb5q5 zb5q6 zb5q6 rfl rfl rfl rfl (nokeep hkeep) (by simp) (by have := adjL_len E k f; simp only [List.length_cons, List.length_nil]; omega) (by decide) ?_ ?_)
     all_goals
      refine le_mk ?sle ?_ ?swf ?mwf (kept_not hkeep) (by rfl)
      case swf => repeat (first | exact swf_top _ | refine swf_upd ?_ (by simp [A.ids, upd_app]))
      case sle => repeat (first | exact sle_top _ | exact sle_refl _ | refine sle_upd ?_ zb5q31)
      case mwf =>
       refine mwf_upd (mwf_fam (mwf_nil _) (fun i hi => by first | exact rowO_ids | rfl)) (fun j hj => ?_)
       obtain ⟨q, hq, rfl⟩ := tabR_ids.1 hj
       simp only [upd_app, Nat.reduceEqDiff, reduceIte, fam_at hq, Option.isSome_some]
      refine mle_upd (mle_fam fun i hi => ?_) zb5q27
      rw [adjL_next hxE]
      by_cases e : i = f
      ·subst e
       simp only [exb, Nat.reduceAdd, Nat.reduceLeDiff, Nat.reduceEqDiff, Nat.reduceMul, Int.reduceToNat, reduceIte, Int.reduceLE, Int.reduceNeg, fam_at hi, Option.map_some, Option.map_none]
       rfl
      ·simp only [exb, Nat.reduceAdd, Nat.reduceLeDiff, Nat.reduceEqDiff, Nat.reduceMul, Int.reduceToNat, reduceIte, Int.reduceLE, Int.reduceNeg, fam_at hi, e, Nat.add_right_cancel_iff, Option.map_some, kill_rowO]
       rfl
    ·intro st' hle
     refine W.weaken hle ?_
     repeat (first | refine W.seq ?_ | refine W.block ?_ | refine W.skip ?_ | refine W.exit ?_ | refine W.g ?_)
     refine ⟨k + 1, hlt, by omega, ?_⟩
     refine le_mk ?sle ?_ ?swf ?mwf (kept_not hkeep) (by rfl)
     case swf => repeat (first | exact swf_top _ | refine swf_upd ?_ (by simp [A.ids, upd_app]))
     case sle => repeat (first | exact sle_top _ | exact sle_refl _ | refine sle_upd ?_ zb5q29)
     case mwf =>
      refine mwf_upd (mwf_fam (mwf_nil _) (fun i hi => by first | exact rowO_ids | rfl)) (fun j hj => ?_)
      obtain ⟨q, hq, rfl⟩ := tabR_ids.1 hj
      simp only [upd_app, Nat.reduceEqDiff, reduceIte, fam_at hq, Option.isSome_some]
     refine mle_upd (mle_fam fun i hi => ?_) zb5q24
     simp only [exb, Nat.reduceAdd, Nat.reduceLeDiff, Nat.reduceEqDiff, Nat.reduceMul, Int.reduceToNat, reduceIte, Int.reduceLE, Int.reduceNeg, fam_at hi]
  ·intro hge
   simp only [decide_eq_false_iff_not, Int.ofNat_lt] at hge
   obtain rfl : k = E0.length := by omega
   rw [← hEl, List.take_length]
   repeat (first | refine W.seq ?_ | refine W.block ?_ | refine W.skip ?_ | refine W.exit ?_ | refine W.g ?_ zb5q36)
   refine W.tabData 6 12 1000 N (e := 3) (ce := 1) (L := fun i => adjL E i) (fun _ => .top) hkeep rfl rfl (fun i hi => ?_) (fun _ => .inl rfl) rfl (by decide) ?_
   ·simp only [exb, Nat.reduceAdd, Nat.reduceLeDiff, Nat.reduceEqDiff, Nat.reduceMul, Int.reduceToNat, reduceIte, Int.reduceLE, Int.reduceNeg, fam_at hi]
    rfl
   refine W.ret ⟨.inr rfl, by rfl, ?_⟩
   simp only [Try.f22, resA, resOne, toT, fin, exb, Nat.reduceAdd, Nat.reduceLeDiff, Nat.reduceEqDiff, Nat.reduceMul, Int.reduceToNat, reduceIte, Int.reduceLE, Int.reduceNeg]
   rfl
end V
end Go.Proofs.Ytmhchhmhpoldhaa
end
section
namespace Go.Proofs.Ytmhchhmhpoldhaa
namespace V
open Go.RowKit G
theorem has_ok (l : List (Int × Int)) (e : Int × Int) (hlen : l.length ≤ 1000000000000) (m : Mem) : COk Try.prog 69 [.c (.sl (l.map cE)), .agg (cE e)] m (.c (.bool (decide (e ∈ l)))) := by
 obtain ⟨p, q⟩ := e
 refine (ok_pure tab_ok Try.func69 (by kernel_rfl) rfl rfl (by rfl) (by rfl) (by rfl) (fun R hkeep => ?_) m)
 repeat (first | refine W.seq ?_ | refine W.block ?_ | refine W.skip ?_ | refine W.exit ?_ | refine W.g ?_ (by simp only [exb, Nat.reduceAdd, Nat.reduceLeDiff, Nat.reduceEqDiff, Nat.reduceMul, Int.reduceToNat, reduceIte, Int.reduceLE, Int.reduceNeg, cE]; rfl))
 refine W.loop (ι := Nat) (fun k => ⟨upd (upd (upd (upd (fun _ => .top) 3 (.ptr 3 0)) 7 (.c (.sl (l.map cE)))) 8 (.c (.int .i64 l.length))) 9 (.c (.int .i64 k)), upd Mem.nil 3 (some (.box 72 [.c (.int .i64 p), .c (.int .i64 q)]))⟩) (fun k => k ≤ l.length ∧ (p, q) ∉ l.take k) (fun k => l.length - k) 0 ?start ⟨Nat.zero_le _, by simp⟩ ?round
 case start =>
  refine le_L ?sle ?mle (kept_not hkeep)
  case mle => repeat (first | exact mle_nil _ | exact mle_refl _ | refine mle_upd ?_ (by first | rfl | (simp only [upd_app, killM_app, Nat.reduceEqDiff, reduceIte]; done)))
  case sle => repeat (first | exact sle_top _ | exact sle_refl _ | refine sle_upd ?_ (by first | rfl | (simp only [upd_app, entry_zero, entry_succ, Nat.reduceEqDiff, reduceIte]; done)))
 case round =>
  rintro k ⟨hkl, hno⟩
  repeat (first | refine W.seq ?_ | refine W.block ?_ | refine W.skip ?_ | refine W.exit ?_ | refine W.g ?_)
  refine W.cond rfl ?_ ?_
  ·intro hlt
   simp only [decide_eq_true_eq, Int.ofNat_lt] at hlt
   obtain ⟨⟨x, y⟩, hx⟩ : ∃ x, l[k]? = some x := ⟨_, List.getElem?_eq_getElem hlt⟩
   have hcx : cE (x, y) = [.int .i64 x, .int .i64 y] := rfl
   have htk : l.take (k + 1) = l.take k ++ [(x, y)] := by rw [List.take_add_one, hx]; rfl
   repeat (first | refine W.seq ?_ | refine W.block ?_ | refine W.skip ?_ | refine W.exit ?_ | refine W.g ?_ (by simp only [exb, Nat.reduceAdd, Nat.reduceLeDiff, Nat.reduceEqDiff, Nat.reduceMul, Int.reduceToNat, reduceIte, Int.reduceLE, Int.reduceNeg, at_map hx, hcx]; rfl))
   refine W.cond rfl ?_ ?_
   ·intro hp
    repeat (first | refine W.seq ?_ | refine W.block ?_ | refine W.skip ?_ | refine W.exit ?_ | refine W.g ?_)
    refine W.ret ⟨.inr rfl, by rfl, ?_⟩
    simp only [Try.f69, resA, resOne, toT, fin, exb, Nat.reduceAdd, Nat.reduceLeDiff, Nat.reduceEqDiff, Nat.reduceMul, Int.reduceToNat, reduceIte, Int.reduceLE, Int.reduceNeg]
    have hxy : (x, y) = (p, q) := by simpa [Prod.mk.injEq] using hp
    have : (p, q) ∈ l := hxy ▸ List.mem_of_getElem? hx
    simp [this]
   ·intro hp
    repeat (first | refine W.seq ?_ | refine W.block ?_ | refine W.skip ?_ | refine W.exit ?_ | refine W.g ?_)
    refine ⟨k + 1, ⟨hlt, ?_⟩, by omega, ?_⟩
    ·rw [htk, List.mem_append, List.mem_singleton]
     rintro (h | h)
     ·exact hno h
     ·simp only [Prod.mk.injEq] at h
      simp [h.1, h.2] at hp
    refine le_L ?sle ?mle (kept_not hkeep)
    case mle => repeat (first | exact mle_nil _ | exact mle_refl _ | refine mle_upd ?_ (by first | rfl | (simp only [upd_app, killM_app, Nat.reduceEqDiff, reduceIte, wrap_succ (show k + 1 < 9223372036854775808 by omega)]; done)))
    case sle => repeat (first | exact sle_top _ | exact sle_refl _ | refine sle_upd ?_ (by first | rfl | (simp only [upd_app, entry_zero, entry_succ, Nat.reduceEqDiff, reduceIte, wrap_succ (show k + 1 < 9223372036854775808 by omega)]; done)))
  ·intro hge
   simp only [decide_eq_false_iff_not, Int.ofNat_lt] at hge
   obtain rfl : k = l.length := by omega
   rw [List.take_length] at hno
   repeat (first | refine W.seq ?_ | refine W.block ?_ | refine W.skip ?_ | refine W.exit ?_ | refine W.g ?_)
   refine W.ret ⟨.inr rfl, by rfl, ?_⟩
   simp only [Try.f69, resA, resOne, toT, fin, exb, Nat.reduceAdd, Nat.reduceLeDiff, Nat.reduceEqDiff, Nat.reduceMul, Int.reduceToNat, reduceIte, Int.reduceLE, Int.reduceNeg]
   simp [hno]
end V
end Go.Proofs.Ytmhchhmhpoldhaa
end
section
namespace Go.Proofs.Ytmhchhmhpoldhaa
namespace V
open Go.RowKit G
def castE (e : Nat × Nat) : Int × Int := (e.1, e.2)
def castS (e : SE) : Q := (e.f, e.t, e.k, e.s)
def rowB (n : Nat) (R : Nat → Bool) : List (List C) := (List.range n).map fun i => [.bool (R i)]
theorem rowB_len (n : Nat) (R : Nat → Bool) : (rowB n R).length = n := by simp [rowB]
theorem rowB_at {n k : Nat} {R : Nat → Bool} (h : k < n) : (rowB n R)[k]? = some [.bool (R k)] := by simp [rowB, h]
theorem rowB_set {n k : Nat} {R : Nat → Bool} : (rowB n R).set k [.bool true] = rowB n (G.mark R k) := by
 refine List.ext_getElem? fun i => ?_
 rw [List.getElem?_set, rowB_len]
 by_cases hi : i < n
 ·rw [rowB_at hi, rowB_at hi]
  by_cases e : k = i
  ·subst e; rw [if_pos rfl, if_pos hi]; simp [G.mark]
  ·rw [if_neg e]; simp [G.mark, Ne.symm e]
 ·have h1 : (rowB n R)[i]? = none := by rw [List.getElem?_eq_none]; rw [rowB_len]; omega
  have h2 : (rowB n (G.mark R k))[i]? = none := by rw [List.getElem?_eq_none]; rw [rowB_len]; omega
  rw [h1, h2]
  split
  ·rw [if_neg (by omega)]
  ·rfl
theorem rep_rowB (n : Nat) : List.replicate n [C.bool false] = rowB n (fun _ => false) := by
 refine List.ext_getElem? fun i => ?_
 by_cases hi : i < n
 ·rw [rowB_at hi]; simp [hi]
 ·rw [List.getElem?_eq_none (by simpa using hi), List.getElem?_eq_none (by rw [rowB_len]; omega)]
theorem closed_marks {F : List (Nat × Nat)} {a n : Nat} {R : Nat → Bool} (ha : R a = true) (hs : ∀ i, R i = true → Rch F [a] i) (hc : ∀ e ∈ F, R e.1 = true → R e.2 = true) : rowB n R = rowB n (reachB F [a]) := by
 have key : ∀ i, Rch F [a] i → R i = true := fun i h => by
  induction h with
  | here h => simp at h; subst h; exact ha
  | step _ e ih => exact hc _ e ih
 refine List.map_congr_left fun i _ => ?_
 have : R i = reachB F [a] i := by
  rw [Bool.eq_iff_iff, reachB_iff]
  exact ⟨hs i, key i⟩
 rw [this]
structure Pass (F : List (Nat × Nat)) (a n : Nat) (R0 R : Nat → Bool) (more : Bool) (pre : List (Nat × Nat)) : Prop where
 start : R a = true
 sound : ∀ i, R i = true → Rch F [a] i
 less : more = true → left R n < left R0 n
 same : more = false → R = R0 ∧ ∀ e ∈ pre, R e.1 = true → R e.2 = true
theorem Pass.mark {F : List (Nat × Nat)} {a n : Nat} {R0 R : Nat → Bool} {more : Bool} {pre pre' : List (Nat × Nat)} {x y : Nat} (h : Pass F a n R0 R more pre) (he : (x, y) ∈ F) (hx : R x = true) (hy : R y = false) (hn : y < n) : Pass F a n R0 (G.mark R y) true pre' := by
 refine ⟨?_, fun i hi => ?_, fun _ => ?_, fun h => by cases h⟩
 ·exact mark_true.2 (.inl h.start)
 ·rcases mark_true.1 hi with hi | rfl
  ·exact h.sound i hi
  ·exact .step (h.sound _ hx) he
 ·have := left_mark R y hy n
  rw [if_pos hn] at this
  cases hm : more with
  | true => have := h.less hm; omega
  | false => rw [(h.same hm).1] at this ⊢; omega
theorem Pass.skip {F : List (Nat × Nat)} {a n : Nat} {R0 R : Nat → Bool} {more : Bool} {pre pre' : List (Nat × Nat)} (h : Pass F a n R0 R more pre) (hp : ∀ e ∈ pre', e ∈ pre ∨ (R e.1 = true → R e.2 = true)) : Pass F a n R0 R more pre' :=
 ⟨h.start, h.sound, h.less, fun hm => ⟨(h.same hm).1, fun e he => (hp e he).elim (fun h' => (h.same hm).2 e h') id⟩⟩
theorem plE_snoc (E : List SE) (e : SE) : plE (E ++ [e]) = plE E ++ (if e.k = 1 ∨ e.k = 2 then [(e.f, e.t)] else []) := by
 unfold plE
 rw [List.filter_append, List.map_append]
 congr 1
 by_cases h : e.k = 1 ∨ e.k = 2
 ·rw [if_pos h]
  have : (e.k == 1 || e.k == 2) = true := by simpa using h
  simp [this]
 ·rw [if_neg h]
  have : (e.k == 1 || e.k == 2) = false := by simpa using h
  simp [this]
set_option maxHeartbeats 4000000 in
theorem level_ok (n : Nat) (hn : n ≤ 100000) (E : List SE) (hlen : E.length ≤ 100000000) (hE : ∀ e ∈ E, e.f < n ∧ e.t < n) (K : List (Nat × Nat)) (hKl : K.length ≤ 100000000000) (hK : ∀ e ∈ K, e.1 < n ∧ e.2 < n) (a : Nat) (ha : a < n) (m : Mem) :
  COk Try.prog 68 [.c (.int .i64 n), .c (.sl ((E.map castS).map cS)), .c (.sl ((K.map castE).map cE)), .c (.int .i64 a)] m (.c (.sl (rowB n (reachB (plE E ++ K) [a])))) := by
 have hm1' : n ≤ 140737488355328 := by omega
 have hm2 : (n : Int) ≤ 9223372036854775807 := by omega
 have hn0 : (0 : Int) ≤ (n : Int) := by omega
 have hlE : (E.map castS).length = E.length := List.length_map _
 have hlK : (K.map castE).length = K.length := List.length_map _
 refine (ok_pure tab_ok Try.func68 (by kernel_rfl) rfl rfl (by rfl) (by rfl) (by rfl) (fun R hkeep => ?_) m)
 repeat (first | refine W.seq ?_ | refine W.block ?_ | refine W.skip ?_ | refine W.exit ?_ | refine W.g ?_ (by simp only [exb, Nat.reduceAdd, Nat.reduceLeDiff, Nat.reduceEqDiff, Nat.reduceMul, Int.reduceToNat, reduceIte, Int.reduceLE, Int.reduceNeg, Int.toNat_natCast, hm1', hm2, hn0, and_self, Bool.false_eq_true, rep_rowB, Nat.mul_one, rowB_len, ha, rowB_at ha, rowB_set]; rfl))
 refine W.loop (ι := Nat → Bool) (fun R => ⟨upd (upd (upd (upd (fun _ => .top) 0 (.c (.int .i64 n))) 1 (.c (.sl ((E.map castS).map cS)))) 2 (.c (.sl ((K.map castE).map cE)))) 9 (.own 16), upd Mem.nil 16 (some (.mrow 4 1 (rowB n R)))⟩) (fun R => R a = true ∧ ∀ i, R i = true → Rch (plE E ++ K) [a] i) (fun R => left R n) (G.mark (fun _ => false) a) ?start ⟨by simp [G.mark], fun i hi => by rcases mark_true.1 hi with h | rfl; cases h; exact .here (by simp)⟩ ?round
 case start =>
  refine le_mk ?sle ?mle ?swf ?mwf (kept_not hkeep) (by rfl)
  case swf => repeat (first | exact swf_top _ | refine swf_upd ?_ (by simp [A.ids, upd_app, rowB_set]))
  case mwf => repeat (first | exact mwf_nil _ | refine mwf_upd ?_ (by simp [A.ids, O.ids, upd_app, rowB_set]))
  case mle => repeat (first | exact mle_nil _ | exact mle_refl _ | refine mle_upd ?_ (by first | rfl | (simp only [upd_app, killM_app, O.kill, A.kill, Nat.reduceEqDiff, reduceIte, Option.map_some, Option.map_none, List.map_cons, List.map_nil, rowB_set]; done)))
  case sle => repeat (first | exact sle_top _ | exact sle_refl _ | refine sle_upd ?_ (by first | rfl | (simp only [upd_app, killS_app, A.kill, entry_zero, entry_succ, Nat.reduceEqDiff, reduceIte, rowB_set]; done)))
 case round =>
  rintro R0 ⟨hR0a, hR0s⟩
  repeat (first | refine W.seq ?_ | refine W.block ?_ | refine W.skip ?_ | refine W.exit ?_ | refine W.g ?_)
  refine W.loop (ι := Nat × (Nat → Bool) × Bool) (fun x => ⟨upd (upd (upd (upd (upd (upd (upd (upd (fun _ => .top) 0 (.c (.int .i64 n))) 1 (.c (.sl ((E.map castS).map cS)))) 2 (.c (.sl ((K.map castE).map cE)))) 9 (.own 16)) 10 (.c (.bool x.2.2))) 20 (.c (.sl ((E.map castS).map cS)))) 21 (.c (.int .i64 E.length))) 22 (.c (.int .i64 x.1)), upd Mem.nil 16 (some (.mrow 4 1 (rowB n x.2.1)))⟩)
   (fun x => x.1 ≤ E.length ∧ Pass (plE E ++ K) a n R0 x.2.1 x.2.2 (plE (E.take x.1))) (fun x => E.length - x.1) (0, R0, false) ?start1 ⟨Nat.zero_le _, ⟨hR0a, hR0s, (fun h => by cases h), fun _ => ⟨rfl, fun e he => by simp [plE] at he⟩⟩⟩ ?round1
  case start1 =>
   refine le_mk ?sle ?mle ?swf ?mwf (kept_not hkeep) (by rfl)
   case swf => repeat (first | exact swf_top _ | refine swf_upd ?_ (by simp [A.ids, upd_app, hlE]))
   case mwf => repeat (first | exact mwf_nil _ | refine mwf_upd ?_ (by simp [A.ids, O.ids, upd_app, hlE]))
   case mle => repeat (first | exact mle_nil _ | exact mle_refl _ | refine mle_upd ?_ (by first | rfl | (simp only [upd_app, killM_app, O.kill, A.kill, Nat.reduceEqDiff, reduceIte, Option.map_some, Option.map_none, List.map_cons, List.map_nil, hlE]; done)))
   case sle => repeat (first | exact sle_top _ | exact sle_refl _ | refine sle_upd ?_ (by first | rfl | (simp only [upd_app, killS_app, A.kill, entry_zero, entry_succ, Nat.reduceEqDiff, reduceIte, hlE]; done)))
  case round1 =>
   rintro ⟨k, R, more⟩ ⟨hkl, hP⟩
   simp only at hkl hP
   repeat (first | refine W.seq ?_ | refine W.block ?_ | refine W.skip ?_ | refine W.exit ?_ | refine W.g ?_)
   refine W.cond rfl ?_ ?_
   ·intro hlt
    simp only [decide_eq_true_eq, Int.ofNat_lt] at hlt
    obtain ⟨e, hx⟩ : ∃ e, E[k]? = some e := ⟨_, List.getElem?_eq_getElem hlt⟩
    have hmem := List.mem_of_getElem? hx
    have hx' : (E.map castS)[k]? = some (castS e) := at_map hx
    have htk : E.take (k + 1) = E.take k ++ [e] := by rw [List.take_add_one, hx]; rfl
    have hfn := (hE e hmem).1
    have hy := (hE e hmem).2
    obtain ⟨y, hye⟩ : ∃ y, y = e.t := ⟨_, rfl⟩
    rw [← hye] at hy
    have hcx : cS (castS e) = [.int .i64 (e.f : Int), .int .i64 (y : Int), .int .i64 (e.k : Int), .int .i64 (e.s : Int)] := by rw [hye]; rfl
    have hpre : ∀ x ∈ plE (E.take (k + 1)), x ∈ plE (E.take k) ∨ ((e.k = 1 ∨ e.k = 2) ∧ x = (e.f, y)) := fun x hx => by
     rw [htk, plE_snoc] at hx
     rcases List.mem_append.1 hx with hx | hx
     ·exact .inl hx
     ·split at hx
      ·rename_i hk
       exact .inr ⟨hk, by rw [hye]; exact List.mem_singleton.1 hx⟩
      ·cases hx
    have hin : (e.k = 1 ∨ e.k = 2) → (e.f, y) ∈ plE E ++ K := fun hk => List.mem_append_left _ (mem_plE.2 ⟨e, hmem, hk, rfl, hye.symm⟩)
    by_cases k1 : (e.k : Int) = 1
    ·cases hf : R e.f with
     | false =>
      skip
      repeat (first | refine W.seq ?_ | refine W.block ?_ | refine W.skip ?_ | refine W.exit ?_ | refine W.g ?_ (by simp only [exb, Nat.reduceAdd, Nat.reduceLeDiff, Nat.reduceEqDiff, Nat.reduceMul, Int.reduceToNat, reduceIte, Int.reduceLE, Int.reduceNeg, at_map hx', hcx, k1, eq_self, rowB_at hfn, rowB_at hy, rowB_len, hfn, hf, Int.toNat_natCast]; rfl))
      refine W.cond rfl ?_ ?_
      ·intro h; cases h
      intro _
      repeat (first | refine W.seq ?_ | refine W.block ?_ | refine W.skip ?_ | refine W.exit ?_ | refine W.g ?_)
      refine ⟨(k + 1, R, more), ⟨hlt, hP.skip fun x hx => ?_⟩, by simp only; omega, ?_⟩
      ·have hx := hpre x hx
       rcases hx with hx | ⟨hkk, rfl⟩
       ·exact .inl hx
       ·exact .inr fun _ => by simp_all
      refine le_mk ?sle ?mle ?swf ?mwf (kept_not hkeep) (by rfl)
      case swf => repeat (first | exact swf_top _ | refine swf_upd ?_ zb5q45)
      case mwf => repeat (first | exact mwf_nil _ | refine mwf_upd ?_ zb5q43)
      case mle => repeat (first | exact mle_nil _ | exact mle_refl _ | refine mle_upd ?_ zb5q19)
      case sle => repeat (first | exact sle_top _ | exact sle_refl _ | refine sle_upd ?_ zb5q29)
     | true =>
      cases ht : R y with
      | true =>
       skip
       repeat (first | refine W.seq ?_ | refine W.block ?_ | refine W.skip ?_ | refine W.exit ?_ | refine W.g ?_ (by simp only [exb, Nat.reduceAdd, Nat.reduceLeDiff, Nat.reduceEqDiff, Nat.reduceMul, Int.reduceToNat, reduceIte, Int.reduceLE, Int.reduceNeg, at_map hx', hcx, k1, eq_self, rowB_at hfn, rowB_at hy, rowB_len, hfn, hy, hf, ht, Int.toNat_natCast, and_self, Bool.not_true]; rfl))
       refine W.cond rfl ?_ ?_
       ·intro h; cases h
       intro _
       repeat (first | refine W.seq ?_ | refine W.block ?_ | refine W.skip ?_ | refine W.exit ?_ | refine W.g ?_)
       refine ⟨(k + 1, R, more), ⟨hlt, hP.skip fun x hx => ?_⟩, by simp only; omega, ?_⟩
       ·have hx := hpre x hx
        rcases hx with hx | ⟨hkk, rfl⟩
        ·exact .inl hx
        ·exact .inr fun _ => by simp_all
       refine le_mk ?sle ?mle ?swf ?mwf (kept_not hkeep) (by rfl)
       case swf => repeat (first | exact swf_top _ | refine swf_upd ?_ zb5q45)
       case mwf => repeat (first | exact mwf_nil _ | refine mwf_upd ?_ zb5q43)
       case mle => repeat (first | exact mle_nil _ | exact mle_refl _ | refine mle_upd ?_ zb5q19)
       case sle => repeat (first | exact sle_top _ | exact sle_refl _ | refine sle_upd ?_ zb5q29)
      | false =>
       skip
       repeat (first | refine W.seq ?_ | refine W.block ?_ | refine W.skip ?_ | refine W.exit ?_ | refine W.g ?_ zb5q8)
       refine W.cond rfl ?_ ?_
       ·intro _
        repeat (first | refine W.seq ?_ | refine W.block ?_ | refine W.skip ?_ | refine W.exit ?_ | refine W.g ?_ zb5q8)
        refine ⟨(k + 1, G.mark R y, true), ⟨hlt, hP.mark (hin (by omega)) hf ht hy⟩, by simp only; omega, ?_⟩
        refine le_mk ?sle ?mle ?swf ?mwf (kept_not hkeep) (by rfl)
        case swf => repeat (first | exact swf_top _ | refine swf_upd ?_ zb5q42)
        case mwf => repeat (first | exact mwf_nil _ | refine mwf_upd ?_ zb5q41)
        case mle => repeat (first | exact mle_nil _ | exact mle_refl _ | refine mle_upd ?_ zb5q18)
        case sle => repeat (first | exact sle_top _ | exact sle_refl _ | refine sle_upd ?_ zb5q28)
       ·intro h; cases h
    ·by_cases k2 : (e.k : Int) = 2
     ·cases hf : R e.f with
      | false =>
       skip
       repeat (first | refine W.seq ?_ | refine W.block ?_ | refine W.skip ?_ | refine W.exit ?_ | refine W.g ?_ (by simp only [exb, Nat.reduceAdd, Nat.reduceLeDiff, Nat.reduceEqDiff, Nat.reduceMul, Int.reduceToNat, reduceIte, Int.reduceLE, Int.reduceNeg, at_map hx', hcx, k1, k2, eq_self, Int.reduceEq, rowB_at hfn, rowB_at hy, rowB_len, hfn, hf, Int.toNat_natCast]; rfl))
       refine W.cond rfl ?_ ?_
       ·intro h; cases h
       intro _
       repeat (first | refine W.seq ?_ | refine W.block ?_ | refine W.skip ?_ | refine W.exit ?_ | refine W.g ?_)
       refine ⟨(k + 1, R, more), ⟨hlt, hP.skip fun x hx => ?_⟩, by simp only; omega, ?_⟩
       ·have hx := hpre x hx
        rcases hx with hx | ⟨hkk, rfl⟩
        ·exact .inl hx
        ·exact .inr fun _ => by simp_all
       refine le_mk ?sle ?mle ?swf ?mwf (kept_not hkeep) (by rfl)
       case swf => repeat (first | exact swf_top _ | refine swf_upd ?_ zb5q45)
       case mwf => repeat (first | exact mwf_nil _ | refine mwf_upd ?_ zb5q43)
       case mle => repeat (first | exact mle_nil _ | exact mle_refl _ | refine mle_upd ?_ zb5q19)
       case sle => repeat (first | exact sle_top _ | exact sle_refl _ | refine sle_upd ?_ zb5q29)
      | true =>
       cases ht : R y with
       | true =>
        skip
        repeat (first | refine W.seq ?_ | refine W.block ?_ | refine W.skip ?_ | refine W.exit ?_ | refine W.g ?_ (by simp only [exb, Nat.reduceAdd, Nat.reduceLeDiff, Nat.reduceEqDiff, Nat.reduceMul, Int.reduceToNat, reduceIte, Int.reduceLE, Int.reduceNeg, at_map hx', hcx, k1, k2, eq_self, Int.reduceEq, rowB_at hfn, rowB_at hy, rowB_len, hfn, hy, hf, ht, Int.toNat_natCast, and_self, Bool.not_true]; rfl))
        refine W.cond rfl ?_ ?_
        ·intro h; cases h
        intro _
        repeat (first | refine W.seq ?_ | refine W.block ?_ | refine W.skip ?_ | refine W.exit ?_ | refine W.g ?_)
        refine ⟨(k + 1, R, more), ⟨hlt, hP.skip fun x hx => ?_⟩, by simp only; omega, ?_⟩
        ·have hx := hpre x hx
         rcases hx with hx | ⟨hkk, rfl⟩
         ·exact .inl hx
         ·exact .inr fun _ => by simp_all
        refine le_mk ?sle ?mle ?swf ?mwf (kept_not hkeep) (by rfl)
        case swf => repeat (first | exact swf_top _ | refine swf_upd ?_ zb5q45)
        case mwf => repeat (first | exact mwf_nil _ | refine mwf_upd ?_ zb5q43)
        case mle => repeat (first | exact mle_nil _ | exact mle_refl _ | refine mle_upd ?_ zb5q19)
        case sle => repeat (first | exact sle_top _ | exact sle_refl _ | refine sle_upd ?_ zb5q29)
       | false =>
        skip
        repeat (first | refine W.seq ?_ | refine W.block ?_ | refine W.skip ?_ | refine W.exit ?_ | refine W.g ?_ zb5q3)
        refine W.cond rfl ?_ ?_
        ·intro _
         repeat (first | refine W.seq ?_ | refine W.block ?_ | refine W.skip ?_ | refine W.exit ?_ | refine W.g ?_ zb5q3)
         refine ⟨(k + 1, G.mark R y, true), ⟨hlt, hP.mark (hin (by omega)) hf ht hy⟩, by simp only; omega, ?_⟩
         refine le_mk ?sle ?mle ?swf ?mwf (kept_not hkeep) (by rfl)
         case swf => repeat (first | exact swf_top _ | refine swf_upd ?_ zb5q42)
         case mwf => repeat (first | exact mwf_nil _ | refine mwf_upd ?_ zb5q41)
         case mle => repeat (first | exact mle_nil _ | exact mle_refl _ | refine mle_upd ?_ zb5q18)
         case sle => repeat (first | exact sle_top _ | exact sle_refl _ | refine sle_upd ?_ zb5q28)
        ·intro h; cases h
     ·have k3 : ¬ (e.k = 1 ∨ e.k = 2) := by omega
      skip
      repeat (first | refine W.seq ?_ | refine W.block ?_ | refine W.skip ?_ | refine W.exit ?_ | refine W.g ?_ (by simp only [exb, Nat.reduceAdd, Nat.reduceLeDiff, Nat.reduceEqDiff, Nat.reduceMul, Int.reduceToNat, reduceIte, Int.reduceLE, Int.reduceNeg, at_map hx', hcx, k1, k2]; rfl))
      refine W.cond rfl ?_ ?_
      ·intro h; cases h
      intro _
      repeat (first | refine W.seq ?_ | refine W.block ?_ | refine W.skip ?_ | refine W.exit ?_ | refine W.g ?_)
      refine ⟨(k + 1, R, more), ⟨hlt, hP.skip fun x hx => ?_⟩, by simp only; omega, ?_⟩
      ·have hx := hpre x hx
       rcases hx with hx | ⟨hkk, rfl⟩
       ·exact .inl hx
       ·exact .inr fun _ => by simp_all
      refine le_mk ?sle ?mle ?swf ?mwf (kept_not hkeep) (by rfl)
      case swf => repeat (first | exact swf_top _ | refine swf_upd ?_ zb5q45)
      case mwf => repeat (first | exact mwf_nil _ | refine mwf_upd ?_ zb5q43)
      case mle => repeat (first | exact mle_nil _ | exact mle_refl _ | refine mle_upd ?_ zb5q19)
      case sle => repeat (first | exact sle_top _ | exact sle_refl _ | refine sle_upd ?_ zb5q29)
   ·intro hge
    simp only [decide_eq_false_iff_not, Int.ofNat_lt] at hge
    obtain rfl : k = E.length := by omega
    rw [List.take_length] at hP
    repeat (first | refine W.seq ?_ | refine W.block ?_ | refine W.skip ?_ | refine W.exit ?_ | refine W.g ?_)
    refine W.loop (ι := Nat × (Nat → Bool) × Bool) (fun x => ⟨upd (upd (upd (upd (upd (upd (upd (upd (fun _ => .top) 0 (.c (.int .i64 n))) 1 (.c (.sl ((E.map castS).map cS)))) 2 (.c (.sl ((K.map castE).map cE)))) 9 (.own 16)) 10 (.c (.bool x.2.2))) 54 (.c (.sl ((K.map castE).map cE)))) 55 (.c (.int .i64 K.length))) 56 (.c (.int .i64 x.1)), upd Mem.nil 16 (some (.mrow 4 1 (rowB n x.2.1)))⟩)
     (fun x => x.1 ≤ K.length ∧ Pass (plE E ++ K) a n R0 x.2.1 x.2.2 (plE E ++ K.take x.1)) (fun x => K.length - x.1) (0, R, more) ?start2 ⟨Nat.zero_le _, by rw [List.take_zero, List.append_nil]; exact hP⟩ ?round2
    case start2 =>
     refine le_mk ?sle ?mle ?swf ?mwf (kept_not hkeep) (by rfl)
     case swf => repeat (first | exact swf_top _ | refine swf_upd ?_ (by simp [A.ids, upd_app, hlK]))
     case mwf => repeat (first | exact mwf_nil _ | refine mwf_upd ?_ (by simp [A.ids, O.ids, upd_app, hlK]))
     case mle => repeat (first | exact mle_nil _ | exact mle_refl _ | refine mle_upd ?_ (by first | rfl | (simp only [upd_app, killM_app, O.kill, A.kill, Nat.reduceEqDiff, reduceIte, Option.map_some, Option.map_none, List.map_cons, List.map_nil, hlK]; done)))
     case sle => repeat (first | exact sle_top _ | exact sle_refl _ | refine sle_upd ?_ (by first | rfl | (simp only [upd_app, killS_app, A.kill, entry_zero, entry_succ, Nat.reduceEqDiff, reduceIte, hlK]; done)))
    case round2 =>
     clear hP
     rintro ⟨k, R, more⟩ ⟨hkl, hP⟩
     simp only at hkl hP
     repeat (first | refine W.seq ?_ | refine W.block ?_ | refine W.skip ?_ | refine W.exit ?_ | refine W.g ?_)
     refine W.cond rfl ?_ ?_
     ·intro hlt
      simp only [decide_eq_true_eq, Int.ofNat_lt] at hlt
      obtain ⟨⟨p, y⟩, hx⟩ : ∃ e, K[k]? = some e := ⟨_, List.getElem?_eq_getElem hlt⟩
      have hmem := List.mem_of_getElem? hx
      have hx' : (K.map castE)[k]? = some (castE (p, y)) := at_map hx
      have htk : K.take (k + 1) = K.take k ++ [(p, y)] := by rw [List.take_add_one, hx]; rfl
      have hfn : p < n := (hK _ hmem).1
      have hy : y < n := (hK _ hmem).2
      have hcx : cE (castE (p, y)) = [.int .i64 (p : Int), .int .i64 (y : Int)] := rfl
      have hpre : ∀ x ∈ plE E ++ K.take (k + 1), x ∈ plE E ++ K.take k ∨ (True ∧ x = (p, y)) := fun x hx => by
       rw [htk, ← List.append_assoc] at hx
       rcases List.mem_append.1 hx with hx | hx
       ·exact .inl hx
       ·exact .inr ⟨trivial, List.mem_singleton.1 hx⟩
      have hin : (p, y) ∈ plE E ++ K := List.mem_append_right _ hmem
      cases hf : R p with
      | false =>
       skip
       repeat (first | refine W.seq ?_ | refine W.block ?_ | refine W.skip ?_ | refine W.exit ?_ | refine W.g ?_ (by simp only [exb, Nat.reduceAdd, Nat.reduceLeDiff, Nat.reduceEqDiff, Nat.reduceMul, Int.reduceToNat, reduceIte, Int.reduceLE, Int.reduceNeg, at_map hx', hcx, rowB_at hfn, rowB_at hy, rowB_len, hfn, hf, Int.toNat_natCast]; rfl))
       refine W.cond rfl ?_ ?_
       ·intro h; cases h
       intro _
       repeat (first | refine W.seq ?_ | refine W.block ?_ | refine W.skip ?_ | refine W.exit ?_ | refine W.g ?_)
       refine ⟨(k + 1, R, more), ⟨hlt, hP.skip fun x hx => ?_⟩, by simp only; omega, ?_⟩
       ·have hx := hpre x hx
        rcases hx with hx | ⟨hkk, rfl⟩
        ·exact .inl hx
        ·exact .inr fun _ => by simp_all
       refine le_mk ?sle ?mle ?swf ?mwf (kept_not hkeep) (by rfl)
       case swf => repeat (first | exact swf_top _ | refine swf_upd ?_ zb5q45)
       case mwf => repeat (first | exact mwf_nil _ | refine mwf_upd ?_ zb5q43)
       case mle => repeat (first | exact mle_nil _ | exact mle_refl _ | refine mle_upd ?_ zb5q19)
       case sle => repeat (first | exact sle_top _ | exact sle_refl _ | refine sle_upd ?_ zb5q29)
      | true =>
       cases ht : R y with
       | true =>
        skip
        repeat (first | refine W.seq ?_ | refine W.block ?_ | refine W.skip ?_ | refine W.exit ?_ | refine W.g ?_ (by simp only [exb, Nat.reduceAdd, Nat.reduceLeDiff, Nat.reduceEqDiff, Nat.reduceMul, Int.reduceToNat, reduceIte, Int.reduceLE, Int.reduceNeg, at_map hx', hcx, rowB_at hfn, rowB_at hy, rowB_len, hfn, hy, hf, ht, Int.toNat_natCast, and_self, Bool.not_true]; rfl))
        refine W.cond rfl ?_ ?_
        ·intro h; cases h
        intro _
        repeat (first | refine W.seq ?_ | refine W.block ?_ | refine W.skip ?_ | refine W.exit ?_ | refine W.g ?_)
        refine ⟨(k + 1, R, more), ⟨hlt, hP.skip fun x hx => ?_⟩, by simp only; omega, ?_⟩
        ·have hx := hpre x hx
         rcases hx with hx | ⟨hkk, rfl⟩
         ·exact .inl hx
         ·exact .inr fun _ => by simp_all
        refine le_mk ?sle ?mle ?swf ?mwf (kept_not hkeep) (by rfl)
        case swf => repeat (first | exact swf_top _ | refine swf_upd ?_ zb5q45)
        case mwf => repeat (first | exact mwf_nil _ | refine mwf_upd ?_ zb5q43)
        case mle => repeat (first | exact mle_nil _ | exact mle_refl _ | refine mle_upd ?_ zb5q19)
        case sle => repeat (first | exact sle_top _ | exact sle_refl _ | refine sle_upd ?_ zb5q29)
       | false =>
        skip
        repeat (first | refine W.seq ?_ | refine W.block ?_ | refine W.skip ?_ | refine W.exit ?_ | refine W.g ?_ zb5q14)
        refine W.cond rfl ?_ ?_
        ·intro _
         repeat (first | refine W.seq ?_ | refine W.block ?_ | refine W.skip ?_ | refine W.exit ?_ | refine W.g ?_ zb5q14)
         refine ⟨(k + 1, G.mark R y, true), ⟨hlt, hP.mark hin hf ht hy⟩, by simp only; omega, ?_⟩
         refine le_mk ?sle ?mle ?swf ?mwf (kept_not hkeep) (by rfl)
         case swf => repeat (first | exact swf_top _ | refine swf_upd ?_ zb5q42)
         case mwf => repeat (first | exact mwf_nil _ | refine mwf_upd ?_ zb5q41)
         case mle => repeat (first | exact mle_nil _ | exact mle_refl _ | refine mle_upd ?_ zb5q18)
         case sle => repeat (first | exact sle_top _ | exact sle_refl _ | refine sle_upd ?_ zb5q28)
        ·intro h; cases h
     ·intro hge
      simp only [decide_eq_false_iff_not, Int.ofNat_lt] at hge
      obtain rfl : k = K.length := by omega
      rw [List.take_length] at hP
      cases more with
      | false =>
       repeat (first | refine W.seq ?_ | refine W.block ?_ | refine W.skip ?_ | refine W.exit ?_ | refine W.g ?_ zb5q32)
       refine W.cond rfl ?_ ?_
       ·intro _
        repeat (first | refine W.seq ?_ | refine W.block ?_ | refine W.skip ?_ | refine W.exit ?_ | refine W.g ?_)
        refine W.freeze 8 16 rfl rfl (nokeep hkeep) ?_
        refine W.ret ⟨.inr rfl, by rfl, ?_⟩
        simp only [Try.f68, resA, resOne, toT, fin, exb, Nat.reduceAdd, Nat.reduceLeDiff, Nat.reduceEqDiff, Nat.reduceMul, Int.reduceToNat, reduceIte, Int.reduceLE, Int.reduceNeg]
        rw [closed_marks hP.start hP.sound (hP.same rfl).2]
       ·intro h; cases h
      | true =>
       repeat (first | refine W.seq ?_ | refine W.block ?_ | refine W.skip ?_ | refine W.exit ?_ | refine W.g ?_ zb5q34)
       refine W.cond rfl ?_ ?_
       ·intro h; cases h
       intro _
       repeat (first | refine W.seq ?_ | refine W.block ?_ | refine W.skip ?_ | refine W.exit ?_ | refine W.g ?_)
       refine ⟨R, ⟨hP.start, hP.sound⟩, hP.less rfl, ?_⟩
       refine le_L ?sle ?mle (kept_not hkeep)
       case mle => repeat (first | exact mle_nil _ | exact mle_refl _ | refine mle_upd ?_ (by first | rfl | (simp only [upd_app, killM_app, O.kill, A.kill, Nat.reduceEqDiff, reduceIte, Option.map_some, Option.map_none, List.map_cons, List.map_nil]; done)))
       case sle => repeat (first | exact sle_top _ | exact sle_refl _ | refine sle_upd ?_ zb5q40)
end V
end Go.Proofs.Ytmhchhmhpoldhaa
end
section
namespace Go.Proofs.Ytmhchhmhpoldhaa
namespace V
open Go.RowKit G
def aft (k p : Nat) : Nat := if k = 1 ∨ k = 2 then p else if k = 5 then (if p = 1 then 1 else 0) else if k = 4 then 2 else 1
theorem aft_le (k p : Nat) (hp : p ≤ 2) : aft k p ≤ 2 := by unfold aft; split <;> (try split) <;> (try split) <;> omega
theorem after_ok (k p : Nat) (m : Mem) : COk Try.prog 34 [.c (.int .i64 k), .c (.int .i64 p)] m (.c (.int .i64 (aft k p : Nat))) := by
 refine (ok_pure tab_ok Try.func34 (by kernel_rfl) rfl rfl (by rfl) (by rfl) (by rfl) (fun R hkeep => ?_) m)
 repeat (first | refine W.seq ?_ | refine W.block ?_ | refine W.skip ?_ | refine W.exit ?_ | refine W.g ?_)
 by_cases h1 : k = 1
 ·refine W.cond rfl (fun _ => ?_) (fun h => absurd h (by simp; omega))
  repeat (first | refine W.seq ?_ | refine W.block ?_ | refine W.skip ?_ | refine W.exit ?_ | refine W.g ?_)
  refine W.cond rfl (fun _ => ?_) (fun h => absurd h (by simp; omega))
  repeat (first | refine W.seq ?_ | refine W.block ?_ | refine W.skip ?_ | refine W.exit ?_ | refine W.g ?_)
  refine W.ret ⟨.inr rfl, by rfl, ?_⟩
  simp only [Try.f34, resA, resOne, toT, fin, exb, Nat.reduceAdd, Nat.reduceLeDiff, Nat.reduceEqDiff, Nat.reduceMul, Int.reduceToNat, reduceIte, Int.reduceLE, Int.reduceNeg]
  simp [aft, h1]
 refine W.cond rfl (fun h => absurd h (by simp; omega)) (fun _ => ?_)
 repeat (first | refine W.seq ?_ | refine W.block ?_ | refine W.skip ?_ | refine W.exit ?_ | refine W.g ?_)
 by_cases h2 : k = 2
 ·refine W.cond rfl (fun _ => ?_) (fun h => absurd h (by simp; omega))
  repeat (first | refine W.seq ?_ | refine W.block ?_ | refine W.skip ?_ | refine W.exit ?_ | refine W.g ?_)
  refine W.ret ⟨.inr rfl, by rfl, ?_⟩
  simp only [Try.f34, resA, resOne, toT, fin, exb, Nat.reduceAdd, Nat.reduceLeDiff, Nat.reduceEqDiff, Nat.reduceMul, Int.reduceToNat, reduceIte, Int.reduceLE, Int.reduceNeg]
  simp [aft, h2]
 refine W.cond rfl (fun h => absurd h (by simp; omega)) (fun _ => ?_)
 repeat (first | refine W.seq ?_ | refine W.block ?_ | refine W.skip ?_ | refine W.exit ?_ | refine W.g ?_)
 by_cases h5 : k = 5
 ·refine W.cond rfl (fun _ => ?_) (fun h => absurd h (by simp; omega))
  repeat (first | refine W.seq ?_ | refine W.block ?_ | refine W.skip ?_ | refine W.exit ?_ | refine W.g ?_)
  by_cases q : p = 1
  ·refine W.cond rfl (fun _ => ?_) (fun h => absurd h (by simp; omega))
   repeat (first | refine W.seq ?_ | refine W.block ?_ | refine W.skip ?_ | refine W.exit ?_ | refine W.g ?_)
   refine W.ret ⟨.inr rfl, by rfl, ?_⟩
   simp only [Try.f34, resA, resOne, toT, fin, exb, Nat.reduceAdd, Nat.reduceLeDiff, Nat.reduceEqDiff, Nat.reduceMul, Int.reduceToNat, reduceIte, Int.reduceLE, Int.reduceNeg]
   simp [aft, h5, q]
  ·refine W.cond rfl (fun h => absurd h (by simp; omega)) (fun _ => ?_)
   repeat (first | refine W.seq ?_ | refine W.block ?_ | refine W.skip ?_ | refine W.exit ?_ | refine W.g ?_)
   refine W.ret ⟨.inr rfl, by rfl, ?_⟩
   simp only [Try.f34, resA, resOne, toT, fin, exb, Nat.reduceAdd, Nat.reduceLeDiff, Nat.reduceEqDiff, Nat.reduceMul, Int.reduceToNat, reduceIte, Int.reduceLE, Int.reduceNeg]
   simp [aft, h5, q]
 refine W.cond rfl (fun h => absurd h (by simp; omega)) (fun _ => ?_)
 repeat (first | refine W.seq ?_ | refine W.block ?_ | refine W.skip ?_ | refine W.exit ?_ | refine W.g ?_)
 by_cases h4 : k = 4
 ·refine W.cond rfl (fun _ => ?_) (fun h => absurd h (by simp; omega))
  repeat (first | refine W.seq ?_ | refine W.block ?_ | refine W.skip ?_ | refine W.exit ?_ | refine W.g ?_)
  refine W.ret ⟨.inr rfl, by rfl, ?_⟩
  simp only [Try.f34, resA, resOne, toT, fin, exb, Nat.reduceAdd, Nat.reduceLeDiff, Nat.reduceEqDiff, Nat.reduceMul, Int.reduceToNat, reduceIte, Int.reduceLE, Int.reduceNeg]
  simp [aft, h4]
 refine W.cond rfl (fun h => absurd h (by simp; omega)) (fun _ => ?_)
 repeat (first | refine W.seq ?_ | refine W.block ?_ | refine W.skip ?_ | refine W.exit ?_ | refine W.g ?_)
 refine W.ret ⟨.inr rfl, by rfl, ?_⟩
 simp only [Try.f34, resA, resOne, toT, fin, exb, Nat.reduceAdd, Nat.reduceLeDiff, Nat.reduceEqDiff, Nat.reduceMul, Int.reduceToNat, reduceIte, Int.reduceLE, Int.reduceNeg]
 simp [aft, h1, h2, h5, h4]
def stepP (e : SE) (p : Nat) : List (Nat × Nat) := if aft e.k (p + 1) = 0 then [] else [(2 * e.f + p, 2 * e.t + (aft e.k (p + 1) - 1))]
def stepsTo (e : SE) (p : Nat) : List (Nat × Nat) := (List.range p).flatMap (stepP e)
theorem stepsTo_succ (e : SE) (p : Nat) : stepsTo e (p + 1) = stepsTo e p ++ stepP e p := by simp [stepsTo, List.range_succ]
theorem stepsTo_two (e : SE) : stepsTo e 2 = stepE e := by
 obtain ⟨f, t, k, s⟩ := e
 show stepP _ 0 ++ (stepP _ 1 ++ []) = _
 unfold stepP stepE aft
 by_cases h1 : k = 1 ∨ k = 2
 ·rcases h1 with rfl | rfl <;> simp
 ·by_cases h5 : k = 5
  ·subst h5; simp
  ·by_cases h4 : k = 4
   ·subst h4; simp
   ·simp [h1, h5, h4]
theorem stepsTo_len (e : SE) (p : Nat) (hp : p ≤ 2) : (stepsTo e p).length ≤ 2 := by
 have h1 : ∀ p, (stepP e p).length ≤ 1 := fun p => by unfold stepP; split <;> simp
 match p, hp with
 | 0, _ => simp [stepsTo]
 | 1, _ => have := h1 0; simp [stepsTo]; omega
 | 2, _ =>
  have := h1 0; have := h1 1
  rw [stepsTo_succ, stepsTo_succ, List.length_append, List.length_append]; simp [stepsTo]; omega
theorem tnL_app (tn : Bool) (A B : List (Nat × Nat)) : tnL tn (A ++ B) = tnL tn A ++ tnL tn B := by cases tn <;> simp [tnL, turnL]
theorem adjL_snoc (D : List (Nat × Nat)) (f t i : Nat) : adjL (D ++ [(f, t)]) i = if i = f then adjL D i ++ [cN t] else adjL D i := by
 unfold adjL
 rw [outs_snoc]
 split <;> simp [cN]
theorem adjL_len' (D : List (Nat × Nat)) (i : Nat) : (adjL D i).length ≤ D.length := by
 have := outs_len D i; simp only [adjL, List.length_map]; omega
theorem stp_next {E : List SE} {k : Nat} {e : SE} (h : E[k]? = some e) : stp (E.take (k + 1)) = stp (E.take k) ++ stepE e := by
 rw [List.take_add_one, h, Option.toList_some]; simp [stp]
set_option maxHeartbeats 8000000 in
theorem ways_ok (n : Nat) (hn : n ≤ 100000) (E : List SE) (hlen : E.length ≤ 1000000) (hE : ∀ e ∈ E, e.f < n ∧ e.t < n) (tn : Bool) (m : Mem) :
  COk Try.prog 27 [.c (.int .i64 n), .c (.sl ((E.map castS).map cS)), .c (.bool tn)] m (.c (.sl (tabU (tnL tn (stp E)) (2 * n)))) := by
 obtain ⟨N, hN⟩ : ∃ N, N = 2 * n := ⟨_, rfl⟩
 have hm1 : N * 24 ≤ 140737488355328 := by omega
 have hm2 : (N : Int) ≤ 9223372036854775807 := by omega
 have hn0 : (0 : Int) ≤ (N : Int) := by omega
 have hw : IntKind.i64.wrap (2 * (n : Int)) = (N : Int) := by rw [hN]; exact wrap_two (by omega)
 rw [← hN]
 have hcl : ((E.map castS).map cS).length = E.length := by simp
 refine (ok_pure tab_ok Try.func27 (by kernel_rfl) rfl rfl (by rfl) (by rfl) (by rfl) (fun R hkeep => ?_) m)
 repeat (first | refine W.seq ?_ | refine W.block ?_ | refine W.skip ?_ | refine W.exit ?_ | refine W.g ?_ zb5q26)
 refine W.famStart false 16 1000 N 23 3 1 rfl (by decide) (fun i _ => ?_) ?_
 ·simp only [upd_app, mem_nil_app, Nat.reduceEqDiff, reduceIte]
 refine W.loop (ι := Nat) (fun k => ⟨upd (upd (upd (upd (upd (fun _ => .top) 2 (.c (.bool tn))) 7 (.own 16)) 17 (.c (.sl ((E.map castS).map cS)))) 18 (.c (.int .i64 E.length))) 19 (.c (.int .i64 k)),
  upd (famM 1000 N (fun i => rowO false 3 1 (adjL (tnL tn (stp (E.take k))) i)) Mem.nil) 16 (some (.rows 23 (tabR 1000 N)))⟩) (fun k => k ≤ E.length) (fun k => E.length - k) 0 ?start (Nat.zero_le _) ?round
 case start =>
  refine le_mk ?sle ?_ ?swf ?mwf (kept_not hkeep) (by rfl)
  case swf => repeat (first | exact swf_top _ | refine swf_upd ?_ (by simp [A.ids, upd_app]))
  case sle => repeat (first | exact sle_top _ | exact sle_refl _ | refine sle_upd ?_ (by first | rfl | (simp only [upd_app, killS_app, A.kill, entry_zero, entry_succ, Nat.reduceEqDiff, reduceIte, hcl]; done)))
  case mwf =>
   refine mwf_upd (mwf_fam (mwf_nil _) (fun i hi => by first | exact rowO_ids | rfl)) (fun j hj => ?_)
   obtain ⟨q, hq, rfl⟩ := tabR_ids.1 hj
   simp only [upd_app, Nat.reduceEqDiff, reduceIte, fam_at hq, Option.isSome_some]
  refine mle_upd (mle_fam fun i hi => ?_) (by simp only [exb, Nat.reduceAdd, Nat.reduceLeDiff, Nat.reduceEqDiff, Nat.reduceMul, Int.reduceToNat, reduceIte, Int.reduceLE, Int.reduceNeg, hcl]; done)
  simp only [exb, Nat.reduceAdd, Nat.reduceLeDiff, Nat.reduceEqDiff, Nat.reduceMul, Int.reduceToNat, reduceIte, Int.reduceLE, Int.reduceNeg, fam_at hi, adjL]
  cases tn <;> rfl
 case round =>
  intro k hk
  repeat (first | refine W.seq ?_ | refine W.block ?_ | refine W.skip ?_ | refine W.exit ?_ | refine W.g ?_)
  refine W.cond rfl ?_ ?_
  ·intro hlt
   simp only [decide_eq_true_eq, Int.ofNat_lt] at hlt
   obtain ⟨⟨f, t, kk, s⟩, hx⟩ : ∃ x, E[k]? = some x := ⟨_, List.getElem?_eq_getElem hlt⟩
   obtain ⟨hf, ht⟩ := hE _ (List.mem_of_getElem? hx)
   replace hf : f < n := hf
   replace ht : t < n := ht
   have hxc : (E.map castS)[k]? = some ((f : Int), (t : Int), (kk : Int), (s : Int)) := by rw [List.getElem?_map, hx]; rfl
   repeat (first | refine W.seq ?_ | refine W.block ?_ | refine W.skip ?_ | refine W.exit ?_ | refine W.g ?_ (by simp only [exb, Nat.reduceAdd, Nat.reduceLeDiff, Nat.reduceEqDiff, Nat.reduceMul, Int.reduceToNat, reduceIte, Int.reduceLE, Int.reduceNeg, at_map hxc, cS]; rfl))
   refine W.loop (ι := Nat) (fun p => ⟨upd (upd (upd (upd (upd (upd (upd (fun _ => .top) 2 (.c (.bool tn))) 7 (.own 16)) 17 (.c (.sl ((E.map castS).map cS)))) 18 (.c (.int .i64 E.length))) 19 (.c (.int .i64 k))) 9 (.ptr 9 0)) 10 (.c (.int .i64 ((p + 1 : Nat) : Int))),
    upd (upd (famM 1000 N (fun i => rowO false 3 1 (adjL (tnL tn (stp (E.take k) ++ stepsTo ⟨f, t, kk, s⟩ p)) i)) Mem.nil) 16 (some (.rows 23 (tabR 1000 N)))) 9 (some (.box 55 [.c (.int .i64 f), .c (.int .i64 t), .c (.int .i64 kk), .c (.int .i64 s)]))⟩) (fun p => p ≤ 2) (fun p => 2 - p) 0 ?start2 (by omega) ?round2
   case start2 =>
    refine le_mk ?sle ?_ ?swf ?mwf (kept_not hkeep) (by rfl)
    case swf => repeat (first | exact swf_top _ | refine swf_upd ?_ (by simp [A.ids, upd_app]))
    case sle => repeat (first | exact sle_top _ | exact sle_refl _ | refine sle_upd ?_ zb5q40)
    case mwf =>
     refine mwf_upd (mwf_upd (mwf_fam (mwf_nil _) (fun i hi => by first | exact rowO_ids | rfl)) (fun j hj => ?_)) (by simp [A.ids, O.ids])
     obtain ⟨q, hq, rfl⟩ := tabR_ids.1 hj
     simp only [upd_app, Nat.reduceEqDiff, reduceIte, fam_at hq, Option.isSome_some]
    refine mle_upd (mle_upd (mle_fam fun i hi => ?_) zb5q38) (by first | rfl | (simp only [exb, Nat.reduceAdd, Nat.reduceLeDiff, Nat.reduceEqDiff, Nat.reduceMul, Int.reduceToNat, reduceIte, Int.reduceLE, Int.reduceNeg]; done))
    simp only [exb, Nat.reduceAdd, Nat.reduceLeDiff, Nat.reduceEqDiff, Nat.reduceMul, Int.reduceToNat, reduceIte, Int.reduceLE, Int.reduceNeg, fam_at hi]
    rw [show stepsTo ⟨f, t, kk, s⟩ 0 = [] from rfl, List.append_nil]
   case round2 =>
    intro p hp
    repeat (first | refine W.seq ?_ | refine W.block ?_ | refine W.skip ?_ | refine W.exit ?_ | refine W.g ?_)
    refine W.cond rfl ?_ ?_
    ·intro hlt2
     have hp2 : p < 2 := by simp at hlt2; omega
     repeat (first | refine W.seq ?_ | refine W.block ?_ | refine W.skip ?_ | refine W.exit ?_ | refine W.g ?_)
     refine W.regionK tab_ok 0 (by decide) ?_
     refine xs0 3 ?_
     refine runk_call rfl rfl rfl rfl rfl (by simp) (cvs_cons cv_refl (cvs_cons cv_refl cvs_nil)) (after_ok kk (p + 1) _) ?_
     refine xe0 ?_
     repeat (first | refine W.seq ?_ | refine W.block ?_ | refine W.skip ?_ | refine W.exit ?_ | refine W.g ?_)
     have hal := aft_le kk (p + 1) (by omega)
     refine W.cond rfl ?_ ?_
     ·intro hz
      have hz : aft kk (p + 1) = 0 := by simpa using hz
      repeat (first | refine W.seq ?_ | refine W.block ?_ | refine W.skip ?_ | refine W.exit ?_ | refine W.g ?_)
      refine ⟨p + 1, by omega, by omega, ?_⟩
      have hs : stepsTo ⟨f, t, kk, s⟩ (p + 1) = stepsTo ⟨f, t, kk, s⟩ p := by rw [stepsTo_succ]; simp [stepP, hz]
      refine le_mk ?sle ?_ ?swf ?mwf (kept_not hkeep) (by rfl)
      case swf => repeat (first | exact swf_top _ | refine swf_upd ?_ (by simp [A.ids, upd_app]))
      case sle => repeat (first | exact sle_top _ | exact sle_refl _ | refine sle_upd ?_ (by first | rfl | (simp only [upd_app, killS_app, A.kill, entry_zero, entry_succ, Nat.reduceEqDiff, reduceIte, wrap_succ (show p + 1 + 1 < 9223372036854775808 by omega)]; done)))
      case mwf =>
       refine mwf_upd (mwf_upd (mwf_fam (mwf_nil _) (fun i hi => by first | exact rowO_ids | rfl)) (fun j hj => ?_)) (by simp [A.ids, O.ids])
       obtain ⟨q, hq, rfl⟩ := tabR_ids.1 hj
       simp only [upd_app, Nat.reduceEqDiff, reduceIte, fam_at hq, Option.isSome_some]
      refine mle_upd (mle_upd (mle_fam fun i hi => ?_) (by simp only [exb, Nat.reduceAdd, Nat.reduceLeDiff, Nat.reduceEqDiff, Nat.reduceMul, Int.reduceToNat, reduceIte, Int.reduceLE, Int.reduceNeg, wrap_succ (show p + 1 + 1 < 9223372036854775808 by omega)]; done)) (by first | rfl | (simp only [exb, Nat.reduceAdd, Nat.reduceLeDiff, Nat.reduceEqDiff, Nat.reduceMul, Int.reduceToNat, reduceIte, Int.reduceLE, Int.reduceNeg, wrap_succ (show p + 1 + 1 < 9223372036854775808 by omega)]; done))
      simp only [exb, Nat.reduceAdd, Nat.reduceLeDiff, Nat.reduceEqDiff, Nat.reduceMul, Int.reduceToNat, reduceIte, Int.reduceLE, Int.reduceNeg, fam_at hi, hs]
     ·intro hz
      have hz : ¬ aft kk (p + 1) = 0 := by simpa using hz
      have hs : stepsTo ⟨f, t, kk, s⟩ (p + 1) = stepsTo ⟨f, t, kk, s⟩ p ++ [(2 * f + p, 2 * t + (aft kk (p + 1) - 1))] := by rw [stepsTo_succ]; simp [stepP, hz]
      obtain ⟨D, hDD⟩ : ∃ D, D = tnL tn (stp (E.take k) ++ stepsTo ⟨f, t, kk, s⟩ p) := ⟨_, rfl⟩
      have hDl : D.length ≤ 10000000 := by
       have := stepsTo_len ⟨f, t, kk, s⟩ p hp
       have := stp_len (E.take k)
       have := List.length_take_le' k E
       rw [hDD, tnL_len, List.length_append]; omega
      rw [← hDD]
      obtain ⟨u, hu⟩ : ∃ u, u = 2 * f + p := ⟨_, rfl⟩
      obtain ⟨v, hv⟩ : ∃ v, v = 2 * t + (aft kk (p + 1) - 1) := ⟨_, rfl⟩
      have hD : tnL tn (stp (E.take k) ++ stepsTo ⟨f, t, kk, s⟩ (p + 1)) = D ++ tnL tn [(u, v)] := by rw [hs, ← List.append_assoc, tnL_app, ← hDD, ← hu, ← hv]
      have w1 := wrap_two (x := f) (by omega)
      have w2 : IntKind.i64.wrap (((2 * f : Nat) : Int) + ((p + 1 : Nat) : Int)) = ((u + 1 : Nat) : Int) := by
       rw [← wrap_nat (k := u + 1) (by omega), hu]; congr 1
      have w3 : IntKind.i64.wrap (((u + 1 : Nat) : Int) - 1) = (u : Int) := by rw [int_pred]; exact wrap_nat (by omega)
      have y1 := wrap_two (x := t) (by omega)
      have y2 : IntKind.i64.wrap (((2 * t : Nat) : Int) + ((aft kk (p + 1) : Nat) : Int)) = ((v + 1 : Nat) : Int) := by
       rw [← wrap_nat (k := v + 1) (by omega), hv]; congr 1; omega
      have y3 : IntKind.i64.wrap (((v + 1 : Nat) : Int) - 1) = (v : Int) := by rw [int_pred]; exact wrap_nat (by omega)
      replace hu : u < N := by omega
      replace hv : v < N := by omega
      clear hs hDD hE hxc
      repeat (first | refine W.seq ?_ | refine W.block ?_ | refine W.skip ?_ | refine W.exit ?_ | refine W.g ?_ (by simp only [exb, Nat.reduceAdd, Nat.reduceLeDiff, Nat.reduceEqDiff, Nat.reduceMul, Int.reduceToNat, reduceIte, Int.reduceLE, Int.reduceNeg, w1, w2, w3, y1, y2, y3]; rfl))
      refine W.cond rfl ?_ ?_
      ·intro htn
       have hD : tnL tn (stp (E.take k) ++ stepsTo ⟨f, t, kk, s⟩ (p + 1)) = D ++ [(v, u)] := by rw [hD]; simp [tnL, turnL, htn]
       repeat (first | refine W.seq ?_ | refine W.block ?_ | refine W.skip ?_ | refine W.exit ?_ | refine W.g ?_)
       obtain ⟨g, rfl⟩ : ∃ g, g = u := ⟨_, rfl⟩
       obtain ⟨u, rfl⟩ : ∃ u, u = v := ⟨_, rfl⟩
       obtain ⟨v, rfl⟩ : ∃ v, v = g := ⟨_, rfl⟩
       replace hu := hv
       have hf0 : (0 : Int) ≤ (u : Int) := by omega
       repeat (first | refine W.seq ?_ | refine W.block ?_ | refine W.skip ?_ | refine W.exit ?_ | refine W.g ?_)
       refine W.regionK tab_ok 0 (by decide) ?_
       refine runk_split 8 zb5q21 ?_
       refine runk_appendM tab_ok (u + 1000) rfl rfl rfl rfl rfl rfl zb5q39 zb5q35 zb5q33 rfl rfl rfl rfl (by rw [hkeep]; simp) (fun z hz => by simp at hz; subst hz; rfl) (by have := adjL_len' D u; simp only [List.length_cons, List.length_nil]; omega) (by decide) ?_
       refine runk_exec zb5q7 ?_
       repeat (first | refine W.seq ?_ | refine W.block ?_ | refine W.skip ?_ | refine W.exit ?_ | refine W.g ?_)
       refine ⟨p + 1, by omega, by omega, ?_⟩
       refine le_mk ?sle ?_ ?swf ?mwf (kept_not hkeep) (by rfl)
       case swf => repeat (first | exact swf_top _ | refine swf_upd ?_ (by simp [A.ids, upd_app]))
       case sle => repeat (first | exact sle_top _ | exact sle_refl _ | refine sle_upd ?_ zb5q9)
       case mwf =>
        refine mwf_upd (mwf_upd (mwf_fam (mwf_nil _) (fun i hi => by first | exact rowO_ids | rfl)) (fun j hj => ?_)) (by simp [A.ids, O.ids])
        obtain ⟨q, hq, rfl⟩ := tabR_ids.1 hj
        simp only [upd_app, Nat.reduceEqDiff, reduceIte, fam_at hq, Option.isSome_some]
       refine mle_upd (mle_upd (mle_fam fun i hi => ?_) zb5q2) zb5q1
       rw [hD, adjL_snoc]
       by_cases e : i = u
       ·subst e
        simp only [exb, Nat.reduceAdd, Nat.reduceLeDiff, Nat.reduceEqDiff, Nat.reduceMul, Int.reduceToNat, reduceIte, Int.reduceLE, Int.reduceNeg, fam_at hi, Option.map_some, Option.map_none]
        rfl
       ·simp only [exb, Nat.reduceAdd, Nat.reduceLeDiff, Nat.reduceEqDiff, Nat.reduceMul, Int.reduceToNat, reduceIte, Int.reduceLE, Int.reduceNeg, fam_at hi, e, Nat.add_right_cancel_iff, Option.map_some, kill_rowO]
        rfl
      ·intro htn
       have hD : tnL tn (stp (E.take k) ++ stepsTo ⟨f, t, kk, s⟩ (p + 1)) = D ++ [(u, v)] := by rw [hD]; simp [tnL, htn]
       have hf0 : (0 : Int) ≤ (u : Int) := by omega
       repeat (first | refine W.seq ?_ | refine W.block ?_ | refine W.skip ?_ | refine W.exit ?_ | refine W.g ?_)
       refine W.regionK tab_ok 0 (by decide) ?_
       refine runk_split 8 zb5q21 ?_
       refine runk_appendM tab_ok (u + 1000) rfl rfl rfl rfl rfl rfl zb5q39 zb5q35 zb5q33 rfl rfl rfl rfl (by rw [hkeep]; simp) (fun z hz => by simp at hz; subst hz; rfl) (by have := adjL_len' D u; simp only [List.length_cons, List.length_nil]; omega) (by decide) ?_
       refine runk_exec zb5q7 ?_
       repeat (first | refine W.seq ?_ | refine W.block ?_ | refine W.skip ?_ | refine W.exit ?_ | refine W.g ?_)
       refine ⟨p + 1, by omega, by omega, ?_⟩
       refine le_mk ?sle ?_ ?swf ?mwf (kept_not hkeep) (by rfl)
       case swf => repeat (first | exact swf_top _ | refine swf_upd ?_ (by simp [A.ids, upd_app]))
       case sle => repeat (first | exact sle_top _ | exact sle_refl _ | refine sle_upd ?_ zb5q9)
       case mwf =>
        refine mwf_upd (mwf_upd (mwf_fam (mwf_nil _) (fun i hi => by first | exact rowO_ids | rfl)) (fun j hj => ?_)) (by simp [A.ids, O.ids])
        obtain ⟨q, hq, rfl⟩ := tabR_ids.1 hj
        simp only [upd_app, Nat.reduceEqDiff, reduceIte, fam_at hq, Option.isSome_some]
       refine mle_upd (mle_upd (mle_fam fun i hi => ?_) zb5q2) zb5q1
       rw [hD, adjL_snoc]
       by_cases e : i = u
       ·subst e
        simp only [exb, Nat.reduceAdd, Nat.reduceLeDiff, Nat.reduceEqDiff, Nat.reduceMul, Int.reduceToNat, reduceIte, Int.reduceLE, Int.reduceNeg, fam_at hi, Option.map_some, Option.map_none]
        rfl
       ·simp only [exb, Nat.reduceAdd, Nat.reduceLeDiff, Nat.reduceEqDiff, Nat.reduceMul, Int.reduceToNat, reduceIte, Int.reduceLE, Int.reduceNeg, fam_at hi, e, Nat.add_right_cancel_iff, Option.map_some, kill_rowO]
        rfl
    ·intro hge2
     have hp2 : p = 2 := by simp at hge2; omega
     subst hp2
     repeat (first | refine W.seq ?_ | refine W.block ?_ | refine W.skip ?_ | refine W.exit ?_ | refine W.g ?_)
     refine ⟨k + 1, hlt, by omega, ?_⟩
     refine le_mk ?sle ?_ ?swf ?mwf (kept_not hkeep) (by rfl)
     case swf => repeat (first | exact swf_top _ | refine swf_upd ?_ (by simp [A.ids, upd_app]))
     case sle => repeat (first | exact sle_top _ | exact sle_refl _ | refine sle_upd ?_ zb5q29)
     case mwf =>
      refine mwf_upd (mwf_fam (mwf_nil _) (fun i hi => by first | exact rowO_ids | rfl)) (fun j hj => ?_)
      obtain ⟨q, hq, rfl⟩ := tabR_ids.1 hj
      simp only [upd_app, Nat.reduceEqDiff, reduceIte, fam_at hq, Option.isSome_some]
     refine mle_upd (mle_fam fun i hi => ?_) zb5q24
     simp only [exb, Nat.reduceAdd, Nat.reduceLeDiff, Nat.reduceEqDiff, Nat.reduceMul, Int.reduceToNat, reduceIte, Int.reduceLE, Int.reduceNeg, fam_at hi]
     rw [stepsTo_two, ← stp_next hx]
  ·intro hge
   simp only [decide_eq_false_iff_not, Int.ofNat_lt] at hge
   obtain rfl : k = E.length := by omega
   rw [List.take_length]
   repeat (first | refine W.seq ?_ | refine W.block ?_ | refine W.skip ?_ | refine W.exit ?_ | refine W.g ?_ zb5q36)
   refine W.tabData 6 16 1000 N (e := 3) (ce := 1) (L := fun i => adjL (tnL tn (stp E)) i) (fun _ => .top) hkeep rfl rfl (fun i hi => ?_) (fun _ => .inl rfl) rfl (by decide) ?_
   ·simp only [exb, Nat.reduceAdd, Nat.reduceLeDiff, Nat.reduceEqDiff, Nat.reduceMul, Int.reduceToNat, reduceIte, Int.reduceLE, Int.reduceNeg, fam_at hi]
    rfl
   refine W.ret ⟨.inr rfl, by rfl, ?_⟩
   simp only [Try.f27, resA, resOne, toT, fin, exb, Nat.reduceAdd, Nat.reduceLeDiff, Nat.reduceEqDiff, Nat.reduceMul, Int.reduceToNat, reduceIte, Int.reduceLE, Int.reduceNeg]
   rfl
end V
end Go.Proofs.Ytmhchhmhpoldhaa
end
section
namespace Go.Proofs.Ytmhchhmhpoldhaa
namespace V
open Go.RowKit
section
variable {P : Go.Program} {T : Tab} {kp : Nat → Prop} {base : Nat} {ops : Array Oper} {K : St → Prop}
theorem step_appendNil (hT : T.Ok P) {f i : Nat} {listed : Array Bool} {st : St} {rl : List Nat} {o : Oper} (ho : ops[i]? = some o) {c : Call} {x y : Operand} {t d : Nat} (id : Nat) {e n b : Nat} (fz : Bool) {zs : List Value} {ys : List (List C)} (h : wantA ops o st.s = some true) (hop : o.op = .call c) (hc : c.callee = .builtin .append) (ha : c.args = #[x, y]) (ht : c.argTypes = #[t, t]) (hd : o.dst = some d)
  (hx : ev st.s x = .nil) (hm : st.m id = none) (hy : asC st.m (ev st.s y) = some (.sl ys)) (h1 : T.elem t = some (e, n)) (h2 : T.bytes e = some b) (h3 : T.zero e = some zs) (h4 : zs.length = n) (hl : ∀ z ∈ ys, z.length = n) (hb : ys.length * b ≤ 140737488355328) (hb0 : 0 < b)
  (hr : RunsW P T kp base ops K f (listed.setIfInBounds i true) ⟨upd st.s d (.own id), upd st.m id (some (rowO fz e n ys))⟩) (tl : Steps P T kp base ops K f listed st rl) : Steps P T kp base ops K f listed st (i :: rl) :=
 ⟨⟨o, _, ho, .eff (eff_appendNil hT fz ⟨h, hop, hc, ha, ht, hd, hx, hm, hy, h1, h2, h3, h4, hl, hb, app_small hb hb0⟩), hr⟩, tl⟩
theorem step_put (hT : T.Ok P) {f i : Nat} {listed : Array Bool} {st : St} {rl : List Nat} {o : Oper} (ho : ops[i]? = some o) {t : Nat} {x kx v : Operand} {j kt e : Nat} {key y : A1} {ents : List (A1 × A1)} {r : Option (Nat × A1)} (h : wantA ops o st.s = some true) (hop : o.op = .mapUpdate t x kx v ∨ o.op = .insert t x kx v) (hd : o.dst = none)
  (hx : ev st.s x = .map j) (hm : st.m j = some (.map ents)) (h1 : T.map t = some (kt, e)) (hk : toKey (ev st.s kx) = some key) (hkt : keyTy T kt key = true) (hv : valA (ev st.s v) = some y) (hf : findE key ents = some r)
  (hr : RunsW P T kp base ops K f (listed.setIfInBounds i true) ⟨st.s, upd st.m j (some (.map (putE key y ents r)))⟩) (tl : Steps P T kp base ops K f listed st rl) : Steps P T kp base ops K f listed st (i :: rl) :=
 ⟨⟨o, _, ho, .eff (eff_put hT ⟨h, hop, hd, hx, hm, h1, hk, hkt, hv, hf⟩), hr⟩, tl⟩
end
def apartB (ops : Array Oper) (listed : Array Bool) (i : Nat) : Bool := match ops[i]? with
 | some oi => (List.range ops.size).all fun j => j == i || listed.getD j true || (match ops[j]? with | some oj => (oj.after.any fun e => Region.binds .any e && e.on == i) || oi.apart ops oj | none => true)
 | none => false
def noSelB (ops : Array Oper) : Bool := ops.all fun o => match o.op with | .select _ _ => false | _ => true
def RX (P : Go.Program) (R : Ref) (n : Nat) (ds : List Deferred) (ops : Array Oper) (K : St → Prop) (f : Nat) (listed : Array Bool) (st : St) : Prop :=
 listed.size = ops.size → ClosedL ops listed → ∀ a w, SR R n ds st a w → wpAny P .any ops (fun e a w => ∃ st', (e = Exit.normal ∧ K st') ∧ SR R n ds st' a w) f listed a w
section
variable {P : Go.Program} {T : Tab} {R : Ref} {n : Nat} {ds : List Deferred} {base : Nat} {ops : Array Oper} {K : St → Prop}
theorem rx_runs (hT : T.Ok P) (hd : dstOk n ops = true) {f : Nat} {listed : Array Bool} {st : St} (h : RunsW P T R.keep base ops K f listed st) : RX P R n ds ops K f listed st := fun h1 h2 a w hr =>
 runs_snd hT (dstOk_spec hd) (fun st' a w hk hr' => ⟨st', ⟨rfl, hk⟩, hr'⟩) _ _ st a _ (h h1 h2 hr.wf) hr
theorem rx_pure (hT : T.Ok P) (hd : dstOk n ops = true) (hns : noSelB ops = true) {f : Nat} {listed : Array Bool} {st : St} (i : Nat) {o : Oper} (ho : ops[i]? = some o) (hpu : ∀ a w, SR R n ds st a w → ∃ v, ∀ w', (execOp a.eval o).run P w' = .ok (.value v) w') (hg : o.guard = none) (hi : (Region.ready .any ops listed).contains i = true) (hap : apartB ops listed i = true)
  (h : ∃ st1, exec1 T base ops i st = some st1 ∧ RX P R n ds ops K f (listed.setIfInBounds i true) st1) : RX P R n ds ops K (f + 1) listed st := by
 intro hsz hc a w hr
 obtain ⟨st1, h1, h2⟩ := h
 have hi : i ∈ Region.ready .any ops listed := by simpa using hi
 obtain ⟨o', ho', hs⟩ := exec1_hs (P := P) (kp := R.keep) h1
 rw [ho] at ho'; cases ho'
 have hwant : ∀ a : Act, Region.wanted o (yielded ops a.tmps) = true := fun a => by simp [Region.wanted, hg]
 obtain ⟨v, hrun⟩ := hpu a w hr
 have hgo := hs.snd hT hr (hd := fun d e => dstOk_spec hd o (Array.mem_of_getElem? ho) d e) (K := fun a' w' => SR R n ds st1 a' w') (Q := fun _ _ _ => False) (fun a' w' hr' => hr')
 rw [if_pos (hwant a)] at hgo
 unfold Oper.wp at hgo
 rw [hrun] at hgo
 refine wpAny_first (oi := o) (v := v) ho (fun j oj cs b hj e => ?_) (fun c a w hq => by obtain ⟨_, ⟨hq, -⟩, -⟩ := hq; cases hq) f listed a w (fun j oj hj hji hl hne => ?_) hi (.inl ⟨hwant a, hrun⟩) (h2 (by simpa using hsz) (closed_set hsz hc hi) _ _ hgo)
 ·have := Array.all_eq_true.1 hns j (Array.getElem?_eq_some_iff.1 hj).1
  rw [(Array.getElem?_eq_some_iff.1 hj).2, e] at this
  cases this
 ·unfold apartB at hap
  rw [ho] at hap
  have hlt := (Array.getElem?_eq_some_iff.1 hj).1
  have := List.all_eq_true.1 hap j (List.mem_range.2 hlt)
  simp only [Bool.or_eq_true, beq_iff_eq, hj] at this
  rcases this with (z | z) | z | z
  ·exact absurd z hji
  ·rw [Array.getD_eq_getD_getElem?] at z hl
   rw [hl] at z; cases z
  ·obtain ⟨q, hq, hz⟩ := Array.any_eq_true'.1 z
   simp only [Bool.and_eq_true, beq_iff_eq] at hz
   exact absurd hz.2 (hne q hq hz.1)
  ·exact z
theorem rx_move (hT : T.Ok P) (hd : dstOk n ops = true) (hns : noSelB ops = true) {f : Nat} {listed : Array Bool} {st : St} (i : Nat) {o : Oper} {x : Operand} (ho : ops[i]? = some o) (hop : o.op = .move x) (hg : o.guard = none) (hi : (Region.ready .any ops listed).contains i = true) (hap : apartB ops listed i = true)
  (h : ∃ st1, exec1 T base ops i st = some st1 ∧ RX P R n ds ops K f (listed.setIfInBounds i true) st1) : RX P R n ds ops K (f + 1) listed st :=
 rx_pure hT hd hns i ho (fun a w _ => ⟨a.eval x, fun w' => by simp [execOp, hop]⟩) hg hi hap h
theorem rx_field (hT : T.Ok P) (hd : dstOk n ops = true) (hns : noSelB ops = true) {f : Nat} {listed : Array Bool} {st : St} (i : Nat) {o : Oper} {ty fl j off : Nat} {x : Operand} {q : Nat × Nat × Bool} (ho : ops[i]? = some o) (hop : o.op = .fieldAddr ty x fl) (hx : ev st.s x = .ptr j off) (hq : T.off ty fl = some q) (hg : o.guard = none) (hi : (Region.ready .any ops listed).contains i = true) (hap : apartB ops listed i = true)
  (h : ∃ st1, exec1 T base ops i st = some st1 ∧ RX P R n ds ops K f (listed.setIfInBounds i true) st1) : RX P R n ds ops K (f + 1) listed st :=
 rx_pure hT hd hns i ho (fun a w hr => by
  obtain ⟨B, I, hm, -, -, hs⟩ := hr.ex
  have := ev_rv hs x
  rw [hx] at this
  obtain ⟨b, -, hv⟩ := this
  obtain ⟨o1, n1, g1⟩ := q
  exact ⟨.pointer (some ⟨b, off + o1, none⟩), fun w' => by simp only [execOp, hop, hv, Sem.run_bind, run_fieldAddr hT hq, Result.andThen_ok]; rfl⟩) hg hi hap h
theorem W.regionX (hT : T.Ok P) {id : Nat} {st : St} {Kx : Exit → St → Prop} (hm : P.follows .mixedOrders = true) (can : St) (h : RX P R n ds ops (fun st' => Le R.keep st' can) ops.size (Array.replicate ops.size false) st) (hK : ∀ st', Le R.keep st' can → Kx .normal st') : W P R n ds st (.region id ops true) Kx := by
 intro a w hr
 have hx := h (by simp) (closed_none rfl) a { w with drawn := w.drawn + 1 } (by
  obtain ⟨⟨B, I, hmr, hx0, hkp, hs⟩, h2, h3, hnn, h4, h5⟩ := hr
  have hE : Ext w w.drew I I := ⟨fun _ _ k => k, fun _ _ _ => rfl⟩
  exact ⟨⟨B, I, hmr.call (Below.refl _ _).drew, hx0.trans hE, hkp, fun t => (hs t).mono hE fun _ _ => rfl⟩, h2, h3, hnn, h4, h5⟩)
 exact wp_mono (wp_region_any hm hx) fun e a w ⟨st', ⟨he, hk⟩, hs⟩ => ⟨st', he ▸ hK st' hk, hs⟩
end
end V
end Go.Proofs.Ytmhchhmhpoldhaa
end
section
namespace Go.Proofs.Ytmhchhmhpoldhaa
namespace V
open Go.RowKit G
def rowK (K : List (Nat × Nat)) : O := .arr 72 2 ((K.map castE).map cE)
theorem stepR_other {E : List SE} {K N : List (Nat × Nat)} {c r : SE} (h : ¬ Mat E K c r) : stepR E K c N r = N := by
 unfold stepR; rw [if_neg fun hh => h hh.1]
theorem stepR_there {E : List SE} {K N : List (Nat × Nat)} {c r : SE} (h : (c.f, r.t) ∈ K ++ N) : stepR E K c N r = N := by
 unfold stepR; rw [if_neg fun hh => hh.2 h]
theorem stepR_new {E : List SE} {K N : List (Nat × Nat)} {c r : SE} (h : Mat E K c r) (h' : (c.f, r.t) ∉ K ++ N) : stepR E K c N r = N ++ [(c.f, r.t)] := by
 unfold stepR; rw [if_pos ⟨h, h'⟩]
theorem mem_cast {l : List (Nat × Nat)} {a b : Nat} : (((a : Nat) : Int), ((b : Nat) : Int)) ∈ l.map castE ↔ (a, b) ∈ l := by
 rw [List.mem_map]
 constructor
 ·rintro ⟨⟨x, y⟩, h, e⟩
  simp only [castE, Prod.mk.injEq] at e
  obtain rfl : x = a := by omega
  obtain rfl : y = b := by omega
  exact h
 ·intro h; exact ⟨_, h, rfl⟩
set_option maxHeartbeats 8000000 in
theorem round_ok (n : Nat) (hn : n ≤ 100000) (E : List SE) (hlen : E.length ≤ 100000000) (hE : ∀ e ∈ E, e.f < n ∧ e.t < n) (K : List (Nat × Nat)) (hnd : K.Nodup) (hK : ∀ e ∈ K, e.1 < n ∧ e.2 < n) :
  CallE Try.prog 56 [.c (.int .i64 n), .c (.sl ((E.map castS).map cS)), .own 23] (upd Mem.nil 23 (some (rowK K))) [23] (.own 23) (upd Mem.nil 23 (some (rowK (K ++ roundN E K)))) := by
 have hKl : K.length ≤ n * n := pairs_len hnd hK
 have hnn : n * n ≤ 100000 * 100000 := Nat.mul_le_mul hn hn
 have hlE : (E.map castS).length = E.length := List.length_map _
 refine (ok_eff tab_ok [23] Try.func56 (by kernel_rfl) rfl rfl (by rfl) (by rfl) ?ids ?res ?sub ?wfm (fun hWF Rr hkeep => ?_))
 case ids => intro a ha j hj; simp at ha; rcases ha with rfl | rfl | rfl <;> simp [A.ids] at hj; subst hj; rw [upd_same]; rfl
 case res => intro j hj; simp [A.ids] at hj; subst hj; rw [upd_same]; rfl
 case sub => intro j hj; unfold upd at hj ⊢; split at hj <;> simp_all
 case wfm => exact fun hw => mwf_some (fun id o ho => by cases ho) (fun i hi => by simp [rowK, O.ids] at hi)
 have hk0 : ∀ j, ¬ Rr.keep j := fun j hj => by
  rw [hkeep] at hj
  have h1 := hj.1
  have h2 := hj.2
  unfold upd at h1
  split at h1
  ·rename_i e; subst e; exact h2 (by simp)
  ·cases h1
 have kept : ∀ (m : Mem) (j : Nat), Rr.keep j → (m j).isSome = true := fun m j hj => absurd hj (hk0 j)
 repeat (first | refine W.seq ?_ | refine W.block ?_ | refine W.skip ?_ | refine W.exit ?_ | refine W.region tab_ok 1000 (by decide) xr0 ?_)
 refine W.asData 2 (by simp only [exb, Nat.reduceAdd, Nat.reduceLeDiff, Nat.reduceEqDiff, Nat.reduceMul, Int.reduceToNat, reduceIte, Int.reduceLE, Int.reduceNeg, rowK]; rfl) ?_ (by decide)
 refine W.loop (ι := Nat) (fun k => ⟨upd (upd (upd (upd (upd (upd (upd (fun _ => .top) 0 (.c (.int .i64 n))) 1 (.c (.sl ((E.map castS).map cS)))) 2 (.c (.sl ((K.map castE).map cE)))) 7 (.own 23)) 15 (.c (.sl ((E.map castS).map cS)))) 16 (.c (.int .i64 E.length))) 17 (.c (.int .i64 k)),
   upd Mem.nil 23 (some (.arr 72 2 (((K ++ (E.take k).foldl (stepC E K) []).map castE).map cE)))⟩) (fun k => k ≤ E.length) (fun k => E.length - k) 0 ?start (Nat.zero_le _) ?round
 case start =>
  refine le_mk ?sle ?mle ?swf ?mwf (kept _) (by rfl)
  case swf => repeat (first | exact swf_top _ | refine swf_upd ?_ (by simp [A.ids, upd_app, rowK, List.take, List.foldl_nil, List.append_nil]))
  case mwf => repeat (first | exact mwf_nil _ | refine mwf_upd ?_ (by simp [A.ids, O.ids, upd_app, rowK, List.take, List.foldl_nil, List.append_nil]))
  case mle => repeat (first | exact mle_nil _ | exact mle_refl _ | refine mle_upd ?_ (by first | rfl | (simp only [upd_app, killM_app, O.kill, A.kill, Nat.reduceEqDiff, reduceIte, Option.map_some, Option.map_none, List.map_cons, List.map_nil, rowK, List.take, List.foldl_nil, List.append_nil]; done)))
  case sle => repeat (first | exact sle_top _ | exact sle_refl _ | refine sle_upd ?_ (by first | rfl | (simp only [upd_app, killS_app, A.kill, entry_zero, entry_succ, Nat.reduceEqDiff, reduceIte, rowK, List.take, List.foldl_nil, List.append_nil]; done)))
 case round =>
  intro k hk
  obtain ⟨N, hN⟩ : ∃ N, N = (E.take k).foldl (stepC E K) [] := ⟨_, rfl⟩
  have hInv : NInv E K N := by
   rw [hN]
   exact (NInv.foldC (E := E) (K := K) (fun c hc => List.mem_of_mem_take hc) ⟨by simpa using hnd, fun p hp => by cases hp⟩).1
  rw [← hN]
  repeat (first | refine W.seq ?_ | refine W.block ?_ | refine W.skip ?_ | refine W.exit ?_ | refine W.region tab_ok 1000 (by decide) xr0 ?_)
  refine W.cond rfl ?_ ?_
  ·intro hlt
   simp only [decide_eq_true_eq, Int.ofNat_lt] at hlt
   obtain ⟨c, hx⟩ : ∃ e, E[k]? = some e := ⟨_, List.getElem?_eq_getElem hlt⟩
   have hmem := List.mem_of_getElem? hx
   have hx' : (E.map castS)[k]? = some (castS c) := at_map hx
   have htk : (E.take (k + 1)).foldl (stepC E K) [] = stepC E K N c := by rw [List.take_add_one, hx, Option.toList_some, List.foldl_append, ← hN]; rfl
   have hcx : cS (castS c) = [.int .i64 (c.f : Int), .int .i64 (c.t : Int), .int .i64 (c.k : Int), .int .i64 (c.s : Int)] := rfl
   by_cases k4 : (c.k : Int) = 4
   ·have hk4 : c.k = 4 := by omega
    rw [stepC, if_pos hk4] at htk
    have hlev := fun m => level_ok n hn E hlen hE K (by omega) hK c.t (hE c hmem).2 m
    repeat (first | refine W.seq ?_ | refine W.block ?_ | refine W.skip ?_ | refine W.exit ?_ | refine W.region tab_ok 1000 (by decide) (exec_run (by simp only [exb, Nat.reduceAdd, Nat.reduceLeDiff, Nat.reduceEqDiff, Nat.reduceMul, Int.reduceToNat, reduceIte, Int.reduceLE, Int.reduceNeg, at_map hx', hcx, k4, eq_self]; rfl)) ?_)
    refine W.cond rfl ?_ ?_
    ·intro h; cases h
    intro _
    (repeat (first | refine W.seq ?_ | refine W.block ?_ | refine W.skip ?_ | refine W.exit ?_))
    refine W.regionK tab_ok 1000 (by decide) ?_
    refine xs0 5 ?_
    refine runk_call rfl rfl rfl rfl rfl (by simp) (cvs_cons cv_refl (cvs_cons cv_refl (cvs_cons cv_refl (cvs_cons cv_refl cvs_nil)))) (hlev _) ?_
    refine xe0 ?_
    repeat (first | refine W.seq ?_ | refine W.block ?_ | refine W.skip ?_ | refine W.exit ?_ | refine W.region tab_ok 1000 (by decide) xr0 ?_)
    obtain ⟨Rb, hRb⟩ : ∃ R, R = reachB (plE E ++ K) [c.t] := ⟨_, rfl⟩
    rw [← hRb]
    refine W.loop (ι := Nat) (fun j => ⟨upd (upd (upd (upd (upd (upd (upd (upd (upd (upd (upd (upd (fun _ => .top) 0 (.c (.int .i64 n))) 1 (.c (.sl ((E.map castS).map cS)))) 2 (.c (.sl ((K.map castE).map cE)))) 7 (.own 23)) 15 (.c (.sl ((E.map castS).map cS)))) 16 (.c (.int .i64 E.length))) 17 (.c (.int .i64 k))) 9 (.ptr 1009 0)) 10 (.c (.sl (rowB n Rb)))) 30 (.c (.sl ((E.map castS).map cS)))) 31 (.c (.int .i64 E.length))) 32 (.c (.int .i64 j)),
      upd (upd Mem.nil 23 (some (.arr 72 2 (((K ++ (E.take j).foldl (stepR E K c) N).map castE).map cE)))) 1009 (some (.box 55 [.c (.int .i64 c.f), .c (.int .i64 c.t), .c (.int .i64 4), .c (.int .i64 c.s)]))⟩) (fun j => j ≤ E.length) (fun j => E.length - j) 0 ?start2 (Nat.zero_le _) ?round2
    case start2 =>
     refine le_mk ?sle ?mle ?swf ?mwf (kept _) (by rfl)
     case swf => repeat (first | exact swf_top _ | refine swf_upd ?_ (by simp [A.ids, upd_app, List.take, List.foldl_nil]))
     case mwf => repeat (first | exact mwf_nil _ | refine mwf_upd ?_ (by simp [A.ids, O.ids, upd_app, List.take, List.foldl_nil]))
     case mle => repeat (first | exact mle_nil _ | exact mle_refl _ | refine mle_upd ?_ (by first | rfl | (simp only [upd_app, killM_app, O.kill, A.kill, Nat.reduceEqDiff, reduceIte, Option.map_some, Option.map_none, List.map_cons, List.map_nil, List.take, List.foldl_nil]; done)))
     case sle => repeat (first | exact sle_top _ | exact sle_refl _ | refine sle_upd ?_ (by first | rfl | (simp only [upd_app, killS_app, A.kill, entry_zero, entry_succ, Nat.reduceEqDiff, reduceIte, List.take, List.foldl_nil]; done)))
    case round2 =>
     intro j hj
     obtain ⟨N', hN'⟩ : ∃ N', N' = (E.take j).foldl (stepR E K c) N := ⟨_, rfl⟩
     have hInv' : NInv E K N' := by
      rw [hN']
      exact (hInv.foldR hmem (fun r hr => List.mem_of_mem_take hr)).1
     have hlN := hInv'.len hE hK
     rw [← hN']
     repeat (first | refine W.seq ?_ | refine W.block ?_ | refine W.skip ?_ | refine W.exit ?_ | refine W.region tab_ok 1000 (by decide) xr0 ?_)
     refine W.cond rfl ?_ ?_
     ·intro hlt2
      simp only [decide_eq_true_eq, Int.ofNat_lt] at hlt2
      obtain ⟨r, hy⟩ : ∃ e, E[j]? = some e := ⟨_, List.getElem?_eq_getElem hlt2⟩
      have hmr := List.mem_of_getElem? hy
      have hy' : (E.map castS)[j]? = some (castS r) := at_map hy
      have htk2 : (E.take (j + 1)).foldl (stepR E K c) N = stepR E K c N' r := by rw [List.take_add_one, hy, Option.toList_some, List.foldl_append, ← hN']; rfl
      have hcy : cS (castS r) = [.int .i64 (r.f : Int), .int .i64 (r.t : Int), .int .i64 (r.k : Int), .int .i64 (r.s : Int)] := rfl
      have hrf := (hE r hmr).1
      by_cases k5 : (r.k : Int) = 5
      ·by_cases ks : (r.s : Int) = (c.s : Int)
       ·cases hb : Rb r.f with
        | false =>
         have hstep : stepR E K c N' r = N' := stepR_other fun hM => by
          have := hM.2.2.2
          rw [hRb] at hb
          rw [reachB_iff.2 this] at hb
          cases hb
         skip
         repeat (first | refine W.seq ?_ | refine W.block ?_ | refine W.skip ?_ | refine W.exit ?_ | refine W.region tab_ok 1000 (by decide) (exec_run zb5q17) ?_)
         refine W.cond rfl ?_ ?_
         ·intro h; cases h
         intro _
         repeat (first | refine W.seq ?_ | refine W.block ?_ | refine W.skip ?_ | refine W.exit ?_ | refine W.region tab_ok 1000 (by decide) xr0 ?_)
         refine ⟨j + 1, hlt2, by omega, ?_⟩
         rw [htk2, hstep]
         refine le_mk ?sle ?mle ?swf ?mwf (kept _) (by rfl)
         case swf => repeat (first | exact swf_top _ | refine swf_upd ?_ zb5q46)
         case mwf => repeat (first | exact mwf_nil _ | refine mwf_upd ?_ zb5q44)
         case mle => repeat (first | exact mle_nil _ | exact mle_refl _ | refine mle_upd ?_ zb5q20)
         case sle => repeat (first | exact sle_top _ | exact sle_refl _ | refine sle_upd ?_ zb5q30)
        | true =>
         have hM : Mat E K c r := ⟨hk4, by omega, by omega, reachB_iff.1 (by rw [← hRb]; exact hb)⟩
         have hcE : cE (((c.f : Nat) : Int), ((r.t : Nat) : Int)) = [.int .i64 (c.f : Int), .int .i64 (r.t : Int)] := rfl
         have hh := fun m => has_ok ((K ++ N').map castE) (((c.f : Nat) : Int), ((r.t : Nat) : Int)) (by rw [List.length_map]; omega) m
         rw [hcE] at hh
         by_cases hin : (c.f, r.t) ∈ K ++ N'
         ·have hstep : stepR E K c N' r = N' := stepR_there hin
          rw [decide_eq_true (mem_cast.2 hin)] at hh
          repeat (first | refine W.seq ?_ | refine W.block ?_ | refine W.skip ?_ | refine W.exit ?_ | refine W.region tab_ok 1000 (by decide) (exec_run zb5q17) ?_)
          refine W.regionK tab_ok 1000 (by decide) ?_
          refine runk_split 20 zb5q22 ?_
          refine runk_call rfl rfl rfl rfl rfl (by simp) (cvs_cons (cv_own rfl) (cvs_cons cv_refl cvs_nil)) (hh _) ?_
          refine runk_exec zb5q34 ?_
          refine W.cond rfl ?_ ?_
          ·intro h; cases h
          intro _
          repeat (first | refine W.seq ?_ | refine W.block ?_ | refine W.skip ?_ | refine W.exit ?_ | refine W.region tab_ok 1000 (by decide) xr0 ?_)
          refine ⟨j + 1, hlt2, by omega, ?_⟩
          rw [htk2, hstep]
          refine le_mk ?sle ?mle ?swf ?mwf (kept _) (by rfl)
          case swf => repeat (first | exact swf_top _ | refine swf_upd ?_ zb5q46)
          case mwf => repeat (first | exact mwf_nil _ | refine mwf_upd ?_ zb5q44)
          case mle => repeat (first | exact mle_nil _ | exact mle_refl _ | refine mle_upd ?_ zb5q20)
          case sle => repeat (first | exact sle_top _ | exact sle_refl _ | refine sle_upd ?_ zb5q30)
         ·have hstep := stepR_new hM hin
          rw [decide_eq_false (fun h => hin (mem_cast.1 h))] at hh
          have hrow : ((K ++ (N' ++ [(c.f, r.t)])).map castE).map cE = ((K ++ N').map castE).map cE ++ [[.int .i64 (c.f : Int), .int .i64 (r.t : Int)]] := by
           rw [← List.append_assoc, List.map_append, List.map_append]; rfl
          repeat (first | refine W.seq ?_ | refine W.block ?_ | refine W.skip ?_ | refine W.exit ?_ | refine W.region tab_ok 1000 (by decide) (exec_run zb5q17) ?_)
          refine W.regionK tab_ok 1000 (by decide) ?_
          refine runk_split 20 zb5q22 ?_
          refine runk_call rfl rfl rfl rfl rfl (by simp) (cvs_cons (cv_own rfl) (cvs_cons cv_refl cvs_nil)) (hh _) ?_
          refine runk_exec zb5q32 ?_
          refine W.cond rfl ?_ ?_
          ·intro _
           (repeat (first | refine W.seq ?_ | refine W.block ?_ | refine W.skip ?_ | refine W.exit ?_))
           refine W.regionK tab_ok 1000 (by decide) ?_
           refine xs0 3 ?_
           refine runk_append tab_ok 23 rfl rfl rfl rfl rfl rfl zb5q39 (by simp only [exb, Nat.reduceAdd, Nat.reduceLeDiff, Nat.reduceEqDiff, Nat.reduceMul, Int.reduceToNat, reduceIte, Int.reduceLE, Int.reduceNeg]; rfl) zb5q33 rfl rfl rfl rfl (hk0 23) (fun z hz => by simp at hz; subst hz; rfl) (by simp only [List.length_map, List.length_cons, List.length_nil]; omega) (by decide) ?_
           refine xe0 ?_
           repeat (first | refine W.seq ?_ | refine W.block ?_ | refine W.skip ?_ | refine W.exit ?_ | refine W.region tab_ok 1000 (by decide) xr0 ?_)
           refine ⟨j + 1, hlt2, by omega, ?_⟩
           rw [htk2, hstep, hrow]
           refine le_mk ?sle ?mle ?swf ?mwf (kept _) (by rfl)
           case swf => repeat (first | exact swf_top _ | refine swf_upd ?_ zb5q46)
           case mwf => repeat (first | exact mwf_nil _ | refine mwf_upd ?_ zb5q44)
           case mle => repeat (first | exact mle_nil _ | exact mle_refl _ | refine mle_upd ?_ zb5q20)
           case sle => repeat (first | exact sle_top _ | exact sle_refl _ | refine sle_upd ?_ zb5q30)
          ·intro h; cases h
       ·have hstep : stepR E K c N' r = N' := stepR_other fun hM => ks (by have := hM.2.2.1; omega)
        skip
        repeat (first | refine W.seq ?_ | refine W.block ?_ | refine W.skip ?_ | refine W.exit ?_ | refine W.region tab_ok 1000 (by decide) (exec_run (by simp only [exb, Nat.reduceAdd, Nat.reduceLeDiff, Nat.reduceEqDiff, Nat.reduceMul, Int.reduceToNat, reduceIte, Int.reduceLE, Int.reduceNeg, at_map hy', hcy, k5, ks, eq_self]; rfl)) ?_)
        refine W.cond rfl ?_ ?_
        ·intro h; cases h
        intro _
        repeat (first | refine W.seq ?_ | refine W.block ?_ | refine W.skip ?_ | refine W.exit ?_ | refine W.region tab_ok 1000 (by decide) xr0 ?_)
        refine ⟨j + 1, hlt2, by omega, ?_⟩
        rw [htk2, hstep]
        refine le_mk ?sle ?mle ?swf ?mwf (kept _) (by rfl)
        case swf => repeat (first | exact swf_top _ | refine swf_upd ?_ zb5q46)
        case mwf => repeat (first | exact mwf_nil _ | refine mwf_upd ?_ zb5q44)
        case mle => repeat (first | exact mle_nil _ | exact mle_refl _ | refine mle_upd ?_ zb5q20)
        case sle => repeat (first | exact sle_top _ | exact sle_refl _ | refine sle_upd ?_ zb5q30)
      ·have hstep : stepR E K c N' r = N' := stepR_other fun hM => k5 (by have := hM.2.1; omega)
       skip
       repeat (first | refine W.seq ?_ | refine W.block ?_ | refine W.skip ?_ | refine W.exit ?_ | refine W.region tab_ok 1000 (by decide) (exec_run (by simp only [exb, Nat.reduceAdd, Nat.reduceLeDiff, Nat.reduceEqDiff, Nat.reduceMul, Int.reduceToNat, reduceIte, Int.reduceLE, Int.reduceNeg, at_map hy', hcy, k5]; rfl)) ?_)
       refine W.cond rfl ?_ ?_
       ·intro h; cases h
       intro _
       repeat (first | refine W.seq ?_ | refine W.block ?_ | refine W.skip ?_ | refine W.exit ?_ | refine W.region tab_ok 1000 (by decide) xr0 ?_)
       refine ⟨j + 1, hlt2, by omega, ?_⟩
       rw [htk2, hstep]
       refine le_mk ?sle ?mle ?swf ?mwf (kept _) (by rfl)
       case swf => repeat (first | exact swf_top _ | refine swf_upd ?_ zb5q46)
       case mwf => repeat (first | exact mwf_nil _ | refine mwf_upd ?_ zb5q44)
       case mle => repeat (first | exact mle_nil _ | exact mle_refl _ | refine mle_upd ?_ zb5q20)
       case sle => repeat (first | exact sle_top _ | exact sle_refl _ | refine sle_upd ?_ zb5q30)
     ·intro hge
      simp only [decide_eq_false_iff_not, Int.ofNat_lt] at hge
      obtain rfl : j = E.length := by omega
      rw [List.take_length] at hN'
      repeat (first | refine W.seq ?_ | refine W.block ?_ | refine W.skip ?_ | refine W.exit ?_ | refine W.region tab_ok 1000 (by decide) xr0 ?_)
      refine ⟨k + 1, hlt, by omega, ?_⟩
      rw [htk, ← hN']
      refine le_mk ?sle ?mle ?swf ?mwf (kept _) (by rfl)
      case swf => repeat (first | exact swf_top _ | refine swf_upd ?_ zb5q45)
      case mwf => repeat (first | exact mwf_nil _ | refine mwf_upd ?_ zb5q43)
      case mle => repeat (first | exact mle_nil _ | exact mle_refl _ | refine mle_upd ?_ zb5q19)
      case sle => repeat (first | exact sle_top _ | exact sle_refl _ | refine sle_upd ?_ zb5q29)
   ·have hk4 : ¬ c.k = 4 := by omega
    rw [stepC, if_neg hk4] at htk
    repeat (first | refine W.seq ?_ | refine W.block ?_ | refine W.skip ?_ | refine W.exit ?_ | refine W.region tab_ok 1000 (by decide) (exec_run (by simp only [exb, Nat.reduceAdd, Nat.reduceLeDiff, Nat.reduceEqDiff, Nat.reduceMul, Int.reduceToNat, reduceIte, Int.reduceLE, Int.reduceNeg, at_map hx', hcx, k4]; rfl)) ?_)
    refine W.cond rfl ?_ ?_
    ·intro _
     repeat (first | refine W.seq ?_ | refine W.block ?_ | refine W.skip ?_ | refine W.exit ?_ | refine W.region tab_ok 1000 (by decide) xr0 ?_)
     refine ⟨k + 1, hlt, by omega, ?_⟩
     rw [htk]
     refine le_mk ?sle ?mle ?swf ?mwf (kept _) (by rfl)
     case swf => repeat (first | exact swf_top _ | refine swf_upd ?_ zb5q45)
     case mwf => repeat (first | exact mwf_nil _ | refine mwf_upd ?_ zb5q43)
     case mle => repeat (first | exact mle_nil _ | exact mle_refl _ | refine mle_upd ?_ zb5q19)
     case sle => repeat (first | exact sle_top _ | exact sle_refl _ | refine sle_upd ?_ zb5q29)
    ·intro h; simp [k4] at h
  ·intro hge
   simp only [decide_eq_false_iff_not, Int.ofNat_lt] at hge
   obtain rfl : k = E.length := by omega
   rw [List.take_length] at hN
   have hN : N = roundN E K := hN
   subst hN
   repeat (first | refine W.seq ?_ | refine W.block ?_ | refine W.skip ?_ | refine W.exit ?_ | refine W.region tab_ok 1000 (by decide) xr0 ?_)
   refine W.ret ⟨.inr rfl, by rfl, ?_, ?mle⟩
   simp only [Try.f56, resE, resOne, fin, toT, exb, Nat.reduceAdd, Nat.reduceLeDiff, Nat.reduceEqDiff, Nat.reduceMul, Int.reduceToNat, reduceIte, Int.reduceLE, Int.reduceNeg]
   case mle => exact mle_refl' rfl
end V
end Go.Proofs.Ytmhchhmhpoldhaa
end
section
namespace Go.Proofs.Ytmhchhmhpoldhaa
namespace V
open Go.RowKit G
noncomputable def iteC {α : Type} (c : Prop) (a b : α) : α := @ite α c (Classical.propDecidable c) a b
theorem iteC_pos {α : Type} {c : Prop} {a b : α} (h : c) : iteC c a b = a := if_pos h
theorem iteC_neg {α : Type} {c : Prop} {a b : α} (h : ¬ c) : iteC c a b = b := if_neg h
def nm (q z : Nat) : Nat := 5 * z + (100 + q)
theorem nm_small {q z c : Nat} (h : c < 100) : (nm q z = c) = False := eq_false (by unfold nm; omega)
theorem nm_small' {q z c : Nat} (h : c < 100) : (c = nm q z) = False := eq_false (by unfold nm; omega)
theorem nm_far {q q' z k : Nat} (h : q < 5) (h' : q' < 5) (hn : q ≠ q') : (nm q z = nm q' k) = False := eq_false (by unfold nm; omega)
theorem nms : (∀ q z k : Nat, (nm q z = nm q k) = (z = k)) ∧ (∀ z k : Nat, (nm 0 z = nm 1 k) = False) ∧ (∀ z k : Nat, (nm 0 z = nm 2 k) = False) ∧ (∀ z k : Nat, (nm 0 z = nm 3 k) = False) ∧ (∀ z k : Nat, (nm 0 z = nm 4 k) = False) ∧
  (∀ z k : Nat, (nm 1 z = nm 0 k) = False) ∧ (∀ z k : Nat, (nm 1 z = nm 2 k) = False) ∧ (∀ z k : Nat, (nm 1 z = nm 3 k) = False) ∧ (∀ z k : Nat, (nm 1 z = nm 4 k) = False) ∧ (∀ z k : Nat, (nm 2 z = nm 0 k) = False) ∧ (∀ z k : Nat, (nm 2 z = nm 1 k) = False) ∧ (∀ z k : Nat, (nm 2 z = nm 3 k) = False) ∧ (∀ z k : Nat, (nm 2 z = nm 4 k) = False) ∧
  (∀ z k : Nat, (nm 3 z = nm 0 k) = False) ∧ (∀ z k : Nat, (nm 3 z = nm 1 k) = False) ∧ (∀ z k : Nat, (nm 3 z = nm 2 k) = False) ∧ (∀ z k : Nat, (nm 3 z = nm 4 k) = False) ∧ (∀ z k : Nat, (nm 4 z = nm 0 k) = False) ∧ (∀ z k : Nat, (nm 4 z = nm 1 k) = False) ∧ (∀ z k : Nat, (nm 4 z = nm 2 k) = False) ∧ (∀ z k : Nat, (nm 4 z = nm 3 k) = False) := by
 refine ⟨fun q z k => propext ⟨fun h => by unfold nm at h; omega, fun h => by rw [h]⟩, ?_⟩
 refine ⟨?_, ?_, ?_, ?_, ?_, ?_, ?_, ?_, ?_, ?_, ?_, ?_, ?_, ?_, ?_, ?_, ?_, ?_, ?_, ?_⟩ <;> exact fun z k => nm_far (by decide) (by decide) (by decide)
theorem nm_inj {q z k : Nat} : nm q z = nm q k ↔ z = k := by rw [nms.1]
noncomputable def gridM (f1 f2 f3 f4 f5 : Nat → Option O) : Mem := fun j => iteC (j < 100) none (iteC ((j - 100) % 5 = 0) (f1 ((j - 100) / 5)) (iteC ((j - 100) % 5 = 1) (f2 ((j - 100) / 5)) (iteC ((j - 100) % 5 = 2) (f3 ((j - 100) / 5)) (iteC ((j - 100) % 5 = 3) (f4 ((j - 100) / 5)) (f5 ((j - 100) / 5))))))
section
variable {f1 f2 f3 f4 f5 : Nat → Option O} {z : Nat}
theorem grid_lo {j : Nat} (h : j < 100) : gridM f1 f2 f3 f4 f5 j = none := iteC_pos h
theorem grid_1 : gridM f1 f2 f3 f4 f5 (nm 0 z) = f1 z := by
 unfold gridM nm; rw [iteC_neg (by omega), iteC_pos (by omega)]; congr 1; omega
theorem grid_2 : gridM f1 f2 f3 f4 f5 (nm 1 z) = f2 z := by
 unfold gridM nm; rw [iteC_neg (by omega), iteC_neg (by omega), iteC_pos (by omega)]; congr 1; omega
theorem grid_3 : gridM f1 f2 f3 f4 f5 (nm 2 z) = f3 z := by
 unfold gridM nm; rw [iteC_neg (by omega), iteC_neg (by omega), iteC_neg (by omega), iteC_pos (by omega)]; congr 1; omega
theorem grid_4 : gridM f1 f2 f3 f4 f5 (nm 3 z) = f4 z := by
 unfold gridM nm; rw [iteC_neg (by omega), iteC_neg (by omega), iteC_neg (by omega), iteC_neg (by omega), iteC_pos (by omega)]; congr 1; omega
theorem grid_5 : gridM f1 f2 f3 f4 f5 (nm 4 z) = f5 z := by
 unfold gridM nm; rw [iteC_neg (by omega), iteC_neg (by omega), iteC_neg (by omega), iteC_neg (by omega), iteC_neg (by omega)]; congr 1; omega
theorem grid_cases {j : Nat} {o : O} (h : gridM f1 f2 f3 f4 f5 j = some o) : ∃ z, (j = nm 0 z ∧ f1 z = some o) ∨ (j = nm 1 z ∧ f2 z = some o) ∨ (j = nm 2 z ∧ f3 z = some o) ∨ (j = nm 3 z ∧ f4 z = some o) ∨ (j = nm 4 z ∧ f5 z = some o) := by
 unfold gridM at h
 by_cases c0 : j < 100
 ·rw [iteC_pos c0] at h; cases h
 rw [iteC_neg c0] at h
 refine ⟨(j - 100) / 5, ?_⟩
 by_cases c1 : (j - 100) % 5 = 0
 ·rw [iteC_pos c1] at h; exact .inl ⟨by unfold nm; omega, h⟩
 rw [iteC_neg c1] at h
 by_cases c2 : (j - 100) % 5 = 1
 ·rw [iteC_pos c2] at h; exact .inr (.inl ⟨by unfold nm; omega, h⟩)
 rw [iteC_neg c2] at h
 by_cases c3 : (j - 100) % 5 = 2
 ·rw [iteC_pos c3] at h; exact .inr (.inr (.inl ⟨by unfold nm; omega, h⟩))
 rw [iteC_neg c3] at h
 by_cases c4 : (j - 100) % 5 = 3
 ·rw [iteC_pos c4] at h; exact .inr (.inr (.inr (.inl ⟨by unfold nm; omega, h⟩)))
 rw [iteC_neg c4] at h
 exact .inr (.inr (.inr (.inr ⟨by unfold nm; omega, h⟩)))
theorem mle_grid {m : Mem} (h1 : ∀ z, f1 z = none ∨ f1 z = m (nm 0 z)) (h2 : ∀ z, f2 z = none ∨ f2 z = m (nm 1 z)) (h3 : ∀ z, f3 z = none ∨ f3 z = m (nm 2 z)) (h4 : ∀ z, f4 z = none ∨ f4 z = m (nm 3 z)) (h5 : ∀ z, f5 z = none ∨ f5 z = m (nm 4 z)) : MLe m (gridM f1 f2 f3 f4 f5) := fun j => by
 cases hj : gridM f1 f2 f3 f4 f5 j with
 | none => exact .inl rfl
 | some o =>
  have key : ∀ {f : Nat → Option O} {z : Nat} {x : Option O}, (f z = none ∨ f z = x) → f z = some o → some o = none ∨ some o = x := fun {f z x} h e => by
   rcases h with q | q
   ·rw [q] at e; cases e
   ·exact .inr (by rw [← q, e])
  obtain ⟨z, ⟨rfl, e⟩ | ⟨rfl, e⟩ | ⟨rfl, e⟩ | ⟨rfl, e⟩ | ⟨rfl, e⟩⟩ := grid_cases hj
  ·exact key (h1 z) e
  ·exact key (h2 z) e
  ·exact key (h3 z) e
  ·exact key (h4 z) e
  ·exact key (h5 z) e
theorem mwf_grid {m : Mem} (h1 : ∀ z o, f1 z = some o → o.ids = []) (h2 : ∀ z o, f2 z = some o → o.ids = []) (h3 : ∀ z o, f3 z = some o → o.ids = []) (h4 : ∀ z o, f4 z = some o → o.ids = []) (h5 : ∀ z o, f5 z = some o → o.ids = []) : MWf m (gridM f1 f2 f3 f4 f5) := fun j o hj i hi => by
 obtain ⟨z, h | h | h | h | h⟩ := grid_cases hj
 ·rw [h1 z o h.2] at hi; cases hi
 ·rw [h2 z o h.2] at hi; cases hi
 ·rw [h3 z o h.2] at hi; cases hi
 ·rw [h4 z o h.2] at hi; cases hi
 ·rw [h5 z o h.2] at hi; cases hi
end
def rowsOf (ty : TypeId) (e : Nat) (L : Nat → List (List C)) : Nat → Option O := fun z => match L z with
 | [] => none
 | l => some (.arr ty e l)
section
variable {ty : TypeId} {e : Nat} {L : Nat → List (List C)}
theorem rowsOf_nil {z : Nat} (h : L z = []) : rowsOf ty e L z = none := by unfold rowsOf; rw [h]
theorem rowsOf_ne {z : Nat} (h : L z ≠ []) : rowsOf ty e L z = some (.arr ty e (L z)) := by
 unfold rowsOf
 split
 ·rename_i q; exact absurd q h
 ·rfl
theorem rowsOf_ids : ∀ z o, rowsOf ty e L z = some o → o.ids = [] := fun z o h => by
 unfold rowsOf at h
 split at h
 ·cases h
 ·cases h; rfl
theorem rowsOf_kill {z id : Nat} : (rowsOf ty e L z).map (O.kill id) = rowsOf ty e L z := by
 unfold rowsOf
 split <;> rfl
theorem rowsOf_congr {L' : Nat → List (List C)} {z : Nat} (h : L' z = L z) : rowsOf ty e L' z = rowsOf ty e L z := by unfold rowsOf; rw [h]
theorem rowsOf_push {z : Nat} {l : List (List C)} {x : List C} (h : L z = l ++ [x]) : rowsOf ty e L z = some (.arr ty e (l ++ [x])) := by
 rw [rowsOf_ne (by rw [h]; simp), h]
end
def noRow : Nat → Option O := fun _ => none
theorem noRow_ids : ∀ z o, noRow z = some o → o.ids = [] := fun z o h => by cases h
def keysE (b : Nat) (ks : List Nat) : List (A1 × A1) := ks.map fun z : Nat => (.c (.int .i64 (z : Int)), .own (nm b z))
def kilE (id : Nat) (l : List (A1 × A1)) : List (A1 × A1) := l.map fun p => (p.1.kill id, p.2.kill id)
theorem keysE_far {b id : Nat} {ks : List Nat} (h : ∀ z ∈ ks, nm b z ≠ id) : kilE id (keysE b ks) = keysE b ks := by
 unfold keysE kilE
 rw [List.map_map]
 refine List.map_congr_left fun z hz => ?_
 simp only [Function.comp, A1.kill, A1.ids]
 have := h z hz
 simp [Ne.symm this]
theorem find_absent {z id b : Nat} : ∀ {ks : List Nat}, z ∉ ks → findE (.c (.int .i64 (z : Int))) (keysE b ks) = some none
 | [], _ => rfl
 | y :: l, h => by
  simp only [List.mem_cons, not_or] at h
  have ih := find_absent (id := id) (b := b) (ks := l) h.2
  have hne : ¬ ((z : Int) = (y : Int)) := by omega
  unfold keysE at ih ⊢
  simp only [List.map_cons, findE, keyEq, if_true, decide_eq_false hne, ih]
theorem find_there {z b : Nat} : ∀ {ks : List Nat}, ks.Nodup → z ∈ ks → ∃ q, findE (.c (.int .i64 (z : Int))) (keysE b ks) = some (some (q, .own (nm b z))) ∧ findE (.c (.int .i64 (z : Int))) (kilE (nm b z) (keysE b ks)) = some (some (q, .top)) ∧ (kilE (nm b z) (keysE b ks)).set q (.c (.int .i64 (z : Int)), .own (nm b z)) = keysE b ks
 | [], _, h => by cases h
 | y :: l, hnd, h => by
  rw [List.nodup_cons] at hnd
  by_cases e : z = y
  ·subst e
   refine ⟨0, by simp [keysE, findE, keyEq], by simp [keysE, kilE, findE, keyEq, A1.kill, A1.ids], ?_⟩
   have := keysE_far (b := b) (id := nm b z) (ks := l) (fun x hx e => hnd.1 ((nm_inj.1 e) ▸ hx))
   simp only [keysE, kilE, List.map_cons, List.set_cons_zero] at this ⊢
   rw [this]
  ·obtain ⟨q, h1, h2, h3⟩ := find_there (b := b) hnd.2 ((List.mem_cons.1 h).resolve_left e)
   have hne : ¬ ((z : Int) = (y : Int)) := by omega
   have hne2 : ¬ (y = z) := fun h => e h.symm
   refine ⟨q + 1, ?_, ?_, ?_⟩
   ·unfold keysE at h1 ⊢
    simp only [List.map_cons, findE, keyEq, if_true, decide_eq_false hne, h1]
   ·have hk : A1.kill (nm b z) (.c (.int .i64 (y : Int))) = .c (.int .i64 (y : Int)) := rfl
    unfold kilE keysE at h2 ⊢
    simp only [List.map_cons, findE, keyEq, if_true, decide_eq_false hne, h2, hk]
   ·have hk : A1.kill (nm b z) (.own (nm b y)) = .own (nm b y) := by simp [A1.kill, A1.ids, nm_inj, e]
    have hk' : A1.kill (nm b z) (.c (.int .i64 (y : Int))) = .c (.int .i64 (y : Int)) := rfl
    simp only [keysE, kilE, List.map_cons, List.set_cons_succ, hk, hk'] at h3 ⊢
    rw [h3]
theorem putE_new {b z : Nat} {ks : List Nat} : putE (.c (.int .i64 (z : Int))) (.own (nm b z)) (keysE b ks) none = keysE b (ks ++ [z]) := by simp [putE, keysE]
theorem keysE_ids {b j : Nat} {ks : List Nat} : j ∈ (O.map (keysE b ks)).ids ↔ ∃ z ∈ ks, j = nm b z := by
 simp only [O.ids, keysE, List.flatMap_map, List.mem_flatMap]
 constructor
 ·rintro ⟨z, hz, h⟩; simp [A1.ids] at h; exact ⟨z, hz, h⟩
 ·rintro ⟨z, hz, rfl⟩; exact ⟨z, hz, by simp [A1.ids]⟩
section
variable {α : Type} (key : α → Option Nat) (v : α → List C)
def selE (l : List α) (z : Nat) : List α := l.filter fun e => key e == some z
def selL (l : List α) (z : Nat) : List (List C) := (selE key l z).map v
def ksAdd (ks : List Nat) (e : α) : List Nat := match key e with
 | some k => if k ∈ ks then ks else ks ++ [k]
 | none => ks
def ksL (l : List α) : List Nat := l.foldl (ksAdd key) []
variable {key v}
theorem mem_selE {l : List α} {z : Nat} {e : α} : e ∈ selE key l z ↔ e ∈ l ∧ key e = some z := by simp [selE, List.mem_filter]
theorem selE_snoc {l : List α} {e : α} (z : Nat) : selE key (l ++ [e]) z = selE key l z ++ (if key e = some z then [e] else []) := by
 unfold selE
 rw [List.filter_append]
 congr 1
 by_cases h : key e = some z <;> simp [h]
theorem selL_snoc {l : List α} {e : α} (z : Nat) : selL key v (l ++ [e]) z = selL key v l z ++ (if key e = some z then [v e] else []) := by
 unfold selL
 rw [selE_snoc, List.map_append]
 congr 1
 split <;> rfl
theorem ksL_snoc {l : List α} {e : α} : ksL key (l ++ [e]) = ksAdd key (ksL key l) e := by simp [ksL, List.foldl_append]
theorem selL_len (l : List α) (z : Nat) : (selL key v l z).length ≤ l.length := by
 unfold selL selE; rw [List.length_map]; exact List.length_filter_le _ _
theorem selL_nil {l : List α} {z : Nat} : selL key v l z = [] ↔ selE key l z = [] := by simp [selL]
theorem ks_inv (l : List α) : (ksL key l).Nodup ∧ ∀ z, z ∈ ksL key l ↔ selE key l z ≠ [] := by
 have main : ∀ r : List α, (ksL key r.reverse).Nodup ∧ ∀ z, z ∈ ksL key r.reverse ↔ selE key r.reverse z ≠ [] := by
  intro r
  induction r with
  | nil => exact ⟨.nil, fun z => by simp [ksL, selE]⟩
  | cons e r ih =>
   rw [List.reverse_cons]
   generalize r.reverse = l at ih
   rw [ksL_snoc]
   unfold ksAdd
   cases hp : key e with
   | none => exact ⟨ih.1, fun z => by rw [selE_snoc, hp]; simpa using ih.2 z⟩
   | some k =>
    have hs : ∀ z, selE key (l ++ [e]) z ≠ [] ↔ (selE key l z ≠ [] ∨ k = z) := fun z => by
     rw [selE_snoc, hp]
     by_cases h : k = z <;> simp [h]
    simp only
    split
    ·rename_i hk
     exact ⟨ih.1, fun z => by
      rw [hs, ← ih.2 z]
      exact ⟨.inl, fun h => h.elim id fun e => e ▸ hk⟩⟩
    ·rename_i hk
     refine ⟨?_, fun z => by rw [hs, ← ih.2 z, List.mem_append, List.mem_singleton]; exact ⟨Or.imp_right Eq.symm, Or.imp_right Eq.symm⟩⟩
     rw [List.nodup_append]
     exact ⟨ih.1, by simp, fun a ha b hb e => by rw [List.mem_singleton.1 hb] at e; subst e; exact hk ha⟩
 simpa using main l.reverse
theorem ks_nodup (l : List α) : (ksL key l).Nodup := (ks_inv l).1
theorem mem_ks {l : List α} {z : Nat} : z ∈ ksL key l ↔ selL key v l z ≠ [] := by rw [(ks_inv l).2 z, Ne, Ne, selL_nil]
theorem mem_ks' {l : List α} {z : Nat} : z ∈ ksL key l ↔ ∃ e ∈ l, key e = some z := by
 rw [(ks_inv l).2]
 constructor
 ·intro h
  obtain ⟨e, he⟩ := List.exists_mem_of_ne_nil _ h
  exact ⟨e, mem_selE.1 he⟩
 ·rintro ⟨e, he⟩ h0
  have := mem_selE.2 he
  rw [h0] at this; cases this
theorem sel_other {l : List α} {e : α} (h : key e = none) : selL key v (l ++ [e]) = selL key v l ∧ ksL key (l ++ [e]) = ksL key l := by
 refine ⟨funext fun z => by rw [selL_snoc, h]; simp, ?_⟩
 rw [ksL_snoc, ksAdd, h]
theorem sel_this {l : List α} {e : α} {k : Nat} (h : key e = some k) : selL key v (l ++ [e]) k = selL key v l k ++ [v e] ∧ (∀ z, z ≠ k → selL key v (l ++ [e]) z = selL key v l z) ∧ ksL key (l ++ [e]) = if k ∈ ksL key l then ksL key l else ksL key l ++ [k] := by
 refine ⟨by rw [selL_snoc, h]; simp, fun z hz => by rw [selL_snoc, h]; simp [Ne.symm hz], ?_⟩
 rw [ksL_snoc, ksAdd, h]
end
theorem far_raw {b id : Nat} {ks : List Nat} (h : ∀ z ∈ ks, nm b z ≠ id) : ((keysE b ks).map fun p => (p.1.kill id, p.2.kill id)) = keysE b ks := keysE_far h
end V
end Go.Proofs.Ytmhchhmhpoldhaa
end
section
namespace Go.Proofs.Ytmhchhmhpoldhaa
namespace V
open Go.RowKit G
def kP (e : SE) : Option Nat := if e.k = 1 ∨ e.k = 2 then some e.f else none
def vP (e : SE) : List C := [.int .i64 (e.t : Int)]
def kC (e : SE) : Option Nat := if e.k = 4 then some e.t else none
def vC (e : SE) : List C := [.int .i64 (e.f : Int), .int .i64 (e.s : Int)]
def kR (e : SE) : Option Nat := if e.k = 5 then some e.f else none
def vR (e : SE) : List C := cS (castS e)
noncomputable def soG (E : List SE) : Mem := gridM (rowsOf 3 1 (selL kP vP E)) (rowsOf 92 2 (selL kC vC E)) (rowsOf 54 4 (selL kR vR E)) noRow noRow
def soM (E : List SE) (M : Mem) : Mem := upd (upd (upd M 56 (some (.map (keysE 0 (ksL kP E))))) 57 (some (.map (keysE 1 (ksL kC E))))) 58 (some (.map (keysE 2 (ksL kR E))))
theorem keyP {E : List SE} {n : Nat} (hE : ∀ e ∈ E, e.f < n ∧ e.t < n) : (∀ z ∈ ksL kP E, z < n) ∧ (∀ z ∈ ksL kC E, z < n) ∧ ∀ z ∈ ksL kR E, z < n := by
 refine ⟨fun z hz => ?_, fun z hz => ?_, fun z hz => ?_⟩
 all_goals
  obtain ⟨e, he, h⟩ := mem_ks'.1 hz
  have := hE e he
  first | unfold kP at h | unfold kC at h | unfold kR at h
  split at h
  ·simp only [Option.some.injEq] at h; omega
  ·cases h
theorem soM_wf {E : List SE} {n : Nat} (hn : n ≤ 100000) (hE : ∀ e ∈ E, e.f < n ∧ e.t < n) {m : Mem} (h1 : ∀ z, z < n → selL kP vP E z ≠ [] → (m (nm 0 z)).isSome = true) (h2 : ∀ z, z < n → selL kC vC E z ≠ [] → (m (nm 1 z)).isSome = true) (h3 : ∀ z, z < n → selL kR vR E z ≠ [] → (m (nm 2 z)).isSome = true) : MWf m (soM E (soG E)) := by
 obtain ⟨k1, k2, k3⟩ := keyP hE
 unfold soM
 refine mwf_upd (mwf_upd (mwf_upd (mwf_grid rowsOf_ids rowsOf_ids rowsOf_ids noRow_ids noRow_ids) fun j hj => ?_) fun j hj => ?_) fun j hj => ?_
 ·obtain ⟨z, hz, rfl⟩ := keysE_ids.1 hj
  exact h1 z (k1 z hz) (mem_ks.1 hz)
 ·obtain ⟨z, hz, rfl⟩ := keysE_ids.1 hj
  exact h2 z (k2 z hz) (mem_ks.1 hz)
 ·obtain ⟨z, hz, rfl⟩ := keysE_ids.1 hj
  exact h3 z (k3 z hz) (mem_ks.1 hz)
theorem soM_at {E : List SE} {z : Nat} {X : Mem} : soM E X (nm 0 z) = X (nm 0 z) ∧ soM E X (nm 1 z) = X (nm 1 z) ∧ soM E X (nm 2 z) = X (nm 2 z) := by
 unfold soM
 refine ⟨?_, ?_, ?_⟩ <;> rw [upd_ne _ _ (by unfold nm; omega), upd_ne _ _ (by unfold nm; omega), upd_ne _ _ (by unfold nm; omega)]
theorem soM_self {E : List SE} {n : Nat} (hn : n ≤ 100000) (hE : ∀ e ∈ E, e.f < n ∧ e.t < n) : WFm (soM E (soG E)) := by
 refine soM_wf hn hE (fun z hz h => ?_) (fun z hz h => ?_) (fun z hz h => ?_)
 ·rw [(soM_at (E := E)).1, soG, grid_1, rowsOf_ne h]; rfl
 ·rw [(soM_at (E := E)).2.1, soG, grid_2, rowsOf_ne h]; rfl
 ·rw [(soM_at (E := E)).2.2, soG, grid_3, rowsOf_ne h]; rfl
noncomputable def soB (E : List SE) : Mem := upd (upd (soM E (soG E)) 53 (some (.box 86 [.map 56, .map 57, .map 58]))) 52 (some (.box 86 [.nilv (.map none), .nilv (.map none), .nilv (.map none)]))
section
variable {E : List SE}
theorem SB_52 : soB E 52 = some (.box 86 [.nilv (.map none), .nilv (.map none), .nilv (.map none)]) := by simp [soB, upd_app]
theorem SB_53 : soB E 53 = some (.box 86 [.map 56, .map 57, .map 58]) := by simp [soB, upd_app]
theorem SB_55 : soB E 55 = none := by simp [soB, soM, upd_app]; exact grid_lo (by decide)
theorem SB_56 : soB E 56 = some (.map (keysE 0 (ksL kP E))) := by simp [soB, soM, upd_app]
theorem SB_57 : soB E 57 = some (.map (keysE 1 (ksL kC E))) := by simp [soB, soM, upd_app]
theorem SB_58 : soB E 58 = some (.map (keysE 2 (ksL kR E))) := by simp [soB, soM, upd_app]
theorem SB_top {j : Nat} (h : 100 ≤ j) : soB E j = soG E j := by
 simp only [soB, soM, upd_app]
 repeat (rw [if_neg (by omega)])
theorem SB_r1 {z : Nat} : soB E (nm 0 z) = rowsOf 3 1 (selL kP vP E) z := by rw [SB_top (by unfold nm; omega), soG, grid_1]
theorem SB_r2 {z : Nat} : soB E (nm 1 z) = rowsOf 92 2 (selL kC vC E) z := by rw [SB_top (by unfold nm; omega), soG, grid_2]
theorem SB_r3 {z : Nat} : soB E (nm 2 z) = rowsOf 54 4 (selL kR vR E) z := by rw [SB_top (by unfold nm; omega), soG, grid_3]
theorem soB_wf {n : Nat} (hn : n ≤ 100000) (hE : ∀ e ∈ E, e.f < n ∧ e.t < n) : WFm (soB E) := by
 have up : ∀ i, (soM E (soG E) i).isSome = true → (soB E i).isSome = true := fun i hi => live_upd i (live_upd i hi)
 refine mwf_upd (mwf_upd (fun j o hj i hi => up i (soM_self hn hE j o hj i hi)) fun i hi => up i ?_) (fun i hi => by simp [O.ids, A.ids] at hi)
 simp [O.ids, A.ids] at hi
 rcases hi with rfl | rfl | rfl <;> simp [soM, upd_app]
theorem mle_so {m : Mem} (h52 : m 52 = soB E 52) (h53 : m 53 = soB E 53) (h56 : m 56 = soB E 56) (h57 : m 57 = soB E 57) (h58 : m 58 = soB E 58) (h1 : ∀ z, soB E (nm 0 z) = none ∨ soB E (nm 0 z) = m (nm 0 z)) (h2 : ∀ z, soB E (nm 1 z) = none ∨ soB E (nm 1 z) = m (nm 1 z)) (h3 : ∀ z, soB E (nm 2 z) = none ∨ soB E (nm 2 z) = m (nm 2 z)) : MLe m (soB E) := by
 rw [SB_52] at h52
 rw [SB_53] at h53
 rw [SB_56] at h56
 rw [SB_57] at h57
 rw [SB_58] at h58
 refine mle_upd (mle_upd (mle_upd (mle_upd (mle_upd (mle_grid (fun z => ?_) (fun z => ?_) (fun z => ?_) (fun z => .inl rfl) (fun z => .inl rfl)) h56) h57) h58) h53) h52
 ·have := h1 z; rwa [SB_r1] at this
 ·have := h2 z; rwa [SB_r2] at this
 ·have := h3 z; rwa [SB_r3] at this
end
end V
end Go.Proofs.Ytmhchhmhpoldhaa
end
section
namespace Go.Proofs.Ytmhchhmhpoldhaa
namespace V
open Go.RowKit G
def kT (p : Nat × Nat) : Option Nat := some p.2
def vT (p : Nat × Nat) : List C := [.int .i64 (p.1 : Int)]
def kF (p : Nat × Nat) : Option Nat := some p.1
def vF (p : Nat × Nat) : List C := [.int .i64 (p.2 : Int)]
def ents1 (L : List (Nat × Nat)) : List (A1 × A1) := L.map fun e => (.agg [.int .i64 (e.1 : Int), .int .i64 (e.2 : Int)], .c (.int .i64 1))
theorem ents1_flat (L : List (Nat × Nat)) : (ents1 L).flatMap (fun p => p.1.ids ++ p.2.ids) = [] := by
 induction L with
 | nil => rfl
 | cons z l ih => rw [ents1, List.map_cons, List.flatMap_cons]; exact ih
theorem ents1_kill (L : List (Nat × Nat)) (id : Nat) : ((ents1 L).map fun p => (p.1.kill id, p.2.kill id)) = ents1 L := by
 unfold ents1
 rw [List.map_map]
 refine List.map_congr_left fun z _ => ?_
 simp [A1.kill, A1.ids]
theorem key1_eq (x y : Nat × Nat) : keyEq (.agg [.int .i64 (x.1 : Int), .int .i64 (x.2 : Int)]) (.agg [.int .i64 (y.1 : Int), .int .i64 (y.2 : Int)]) = some (decide (x = y)) := by
 obtain ⟨a, b⟩ := x
 obtain ⟨c, d⟩ := y
 by_cases h1 : a = c
 ·by_cases h2 : b = d
  ·simp [keyEq, eqC0s, eqC0, h1, h2]
  ·have : ¬ ((b : Int) = (d : Int)) := by omega
   simp [keyEq, eqC0s, eqC0, h1, h2, this]
 ·have : ¬ ((a : Int) = (c : Int)) := by omega
  simp [keyEq, eqC0s, eqC0, h1, this]
theorem find1_none {z : Nat × Nat} : ∀ {L : List (Nat × Nat)}, z ∉ L → findE (.agg [.int .i64 (z.1 : Int), .int .i64 (z.2 : Int)]) (ents1 L) = some none
 | [], _ => rfl
 | y :: l, h => by
  simp only [List.mem_cons, not_or] at h
  have ih := find1_none (L := l) h.2
  unfold ents1 at ih ⊢
  simp only [List.map_cons, findE, key1_eq, decide_eq_false h.1, ih]
theorem find1_some {z : Nat × Nat} : ∀ {L : List (Nat × Nat)}, z ∈ L → ∃ q, findE (.agg [.int .i64 (z.1 : Int), .int .i64 (z.2 : Int)]) (ents1 L) = some (some (q, .c (.int .i64 1)))
 | [], h => by cases h
 | y :: l, h => by
  by_cases e : z = y
  ·subst e; exact ⟨0, by simp [ents1, findE, key1_eq]⟩
  ·obtain ⟨q, ih⟩ := find1_some (L := l) ((List.mem_cons.1 h).resolve_left e)
   refine ⟨q + 1, ?_⟩
   unfold ents1 at ih ⊢
   simp only [List.map_cons, findE, key1_eq, decide_eq_false e, ih]
theorem put1 {z : Nat × Nat} {L : List (Nat × Nat)} : putE (.agg [.int .i64 (z.1 : Int), .int .i64 (z.2 : Int)]) (.c (.int .i64 1)) (ents1 L) none = ents1 (L ++ [z]) := by simp [putE, ents1]
def xb (ty : TypeId) (o : Option (List C)) : Option O := o.map fun l => .box ty (l.map A.c)
theorem xb_ids {ty : TypeId} {o : Option (List C)} {z : O} (h : xb ty o = some z) : z.ids = [] := by
 unfold xb at h
 cases o with
 | none => cases h
 | some l =>
  simp only [Option.map_some, Option.some.injEq] at h
  subst h
  simp only [O.ids, List.flatMap_map]
  induction l with
  | nil => rfl
  | cons c l ih => rw [List.flatMap_cons, ih]; rfl
structure X5 where
 x16 : Option (List C) := none
 x17 : Option (List C) := none
 x23 : Option (List C) := none
 x25 : Option (List C) := none
 x26 : Option (List C) := none
def cP (p : Nat × Nat) : List C := [.int .i64 (p.1 : Int), .int .i64 (p.2 : Int)]
noncomputable def edG (E : List SE) (S F : List (Nat × Nat)) : Mem := gridM (rowsOf 3 1 (selL kP vP E)) (rowsOf 92 2 (selL kC vC E)) (rowsOf 54 4 (selL kR vR E)) (rowsOf 3 1 (selL kT vT S)) (rowsOf 3 1 (selL kF vF F))
def edX (x : X5) (M : Mem) : Mem := upd (upd (upd (upd (upd M 16 (xb 54 x.x16)) 17 (xb 72 x.x17)) 23 (xb 54 x.x23)) 25 (xb 92 x.x25)) 26 (xb 72 x.x26)
def edF (F : List (Nat × Nat)) (M : Mem) : Mem := upd (upd (upd (upd M 39 (some (.map (keysE 4 (ksL kF F))))) 40 (some (.map (ents1 F)))) 61 (some (.mrow 72 2 (F.map cP)))) 7 (some (.box 86 [.map 56, .map 57, .map 58]))
def edS (S W : List (Nat × Nat)) (M : Mem) : Mem := upd (upd (upd (upd (upd (upd M 8 (some (.box 88 [.map 37]))) 9 (some (.box 82 [.map 38]))) 12 (some (.box 67 [.own 60]))) 37 (some (.map (ents1 S)))) 38 (some (.map (keysE 3 (ksL kT S))))) 60 (some (.mrow 72 2 (W.map cP)))
noncomputable def EM (E : List SE) (S F W : List (Nat × Nat)) (x : X5) : Mem := edS S W (edF F (soM E (edX x (edG E S F))))
theorem upd_some {α : Type} {f : Nat → Option α} {t j : Nat} {x : Option α} {o : α} (h : upd f t x j = some o) : (j = t ∧ x = some o) ∨ (j ≠ t ∧ f j = some o) := by
 unfold upd at h
 split at h
 ·rename_i e; exact .inl ⟨e, h⟩
 ·rename_i e; exact .inr ⟨e, h⟩
section
variable {E : List SE} {S F W : List (Nat × Nat)} {x : X5}
theorem EM_8 : EM E S F W x 8 = some (.box 88 [.map 37]) := by simp [EM, edS, upd_app]
theorem EM_9 : EM E S F W x 9 = some (.box 82 [.map 38]) := by simp [EM, edS, upd_app]
theorem EM_12 : EM E S F W x 12 = some (.box 67 [.own 60]) := by simp [EM, edS, upd_app]
theorem EM_37 : EM E S F W x 37 = some (.map (ents1 S)) := by simp [EM, edS, upd_app]
theorem EM_38 : EM E S F W x 38 = some (.map (keysE 3 (ksL kT S))) := by simp [EM, edS, upd_app]
theorem EM_300 : EM E S F W x 60 = some (.mrow 72 2 (W.map cP)) := by simp [EM, edS, upd_app]
theorem EM_39 : EM E S F W x 39 = some (.map (keysE 4 (ksL kF F))) := by simp [EM, edS, edF, upd_app]
theorem EM_40 : EM E S F W x 40 = some (.map (ents1 F)) := by simp [EM, edS, edF, upd_app]
theorem EM_313 : EM E S F W x 61 = some (.mrow 72 2 (F.map cP)) := by simp [EM, edS, edF, upd_app]
theorem EM_7 : EM E S F W x 7 = some (.box 86 [.map 56, .map 57, .map 58]) := by simp [EM, edS, edF, upd_app]
theorem EM_506 : EM E S F W x 56 = some (.map (keysE 0 (ksL kP E))) := by simp [EM, edS, edF, soM, upd_app]
theorem EM_507 : EM E S F W x 57 = some (.map (keysE 1 (ksL kC E))) := by simp [EM, edS, edF, soM, upd_app]
theorem EM_508 : EM E S F W x 58 = some (.map (keysE 2 (ksL kR E))) := by simp [EM, edS, edF, soM, upd_app]
theorem EM_16 : EM E S F W x 16 = xb 54 x.x16 := by simp [EM, edS, edF, soM, edX, upd_app]
theorem EM_17 : EM E S F W x 17 = xb 72 x.x17 := by simp [EM, edS, edF, soM, edX, upd_app]
theorem EM_23 : EM E S F W x 23 = xb 54 x.x23 := by simp [EM, edS, edF, soM, edX, upd_app]
theorem EM_25 : EM E S F W x 25 = xb 92 x.x25 := by simp [EM, edS, edF, soM, edX, upd_app]
theorem EM_26 : EM E S F W x 26 = xb 72 x.x26 := by simp [EM, edS, edF, soM, edX, upd_app]
theorem EM_top {j : Nat} (h : 100 ≤ j) : EM E S F W x j = edG E S F j := by
 simp only [EM, edS, edF, soM, edX, upd_app]
 repeat (rw [if_neg (by omega)])
theorem EM_r1 {z : Nat} : EM E S F W x (nm 0 z) = rowsOf 3 1 (selL kP vP E) z := by rw [EM_top (by unfold nm; omega), edG, grid_1]
theorem EM_r2 {z : Nat} : EM E S F W x (nm 1 z) = rowsOf 92 2 (selL kC vC E) z := by rw [EM_top (by unfold nm; omega), edG, grid_2]
theorem EM_r3 {z : Nat} : EM E S F W x (nm 2 z) = rowsOf 54 4 (selL kR vR E) z := by rw [EM_top (by unfold nm; omega), edG, grid_3]
theorem EM_r4 {z : Nat} : EM E S F W x (nm 3 z) = rowsOf 3 1 (selL kT vT S) z := by rw [EM_top (by unfold nm; omega), edG, grid_4]
theorem EM_r5 {z : Nat} : EM E S F W x (nm 4 z) = rowsOf 3 1 (selL kF vF F) z := by rw [EM_top (by unfold nm; omega), edG, grid_5]
def usedE : List Nat := [8, 9, 12, 37, 38, 60, 39, 40, 61, 7, 56, 57, 58, 16, 17, 23, 25, 26]
theorem EM_free {j : Nat} (h : (usedE.contains j || decide (100 ≤ j)) = false) : EM E S F W x j = none := by
 simp only [usedE, Bool.or_eq_false_iff, decide_eq_false_iff_not, List.contains_cons, List.contains_nil, beq_eq_false_iff_ne] at h
 obtain ⟨⟨h1, h2, h3, h4, h5, h6, h7, h8, h9, h10, h11, h12, h13, h14, h15, h16, h17, h18, -⟩, h19⟩ := h
 simp only [EM, edS, edF, soM, edX, upd_app]
 repeat (rw [if_neg (by assumption)])
 exact grid_lo (by omega)
theorem EM_some {j : Nat} {o : O} (h : EM E S F W x j = some o) : (j = 8 ∧ o.ids = [37]) ∨ (j = 9 ∧ o.ids = [38]) ∨ (j = 12 ∧ o.ids = [60]) ∨ (j = 7 ∧ o.ids = [56, 57, 58]) ∨ (j = 38 ∧ o = .map (keysE 3 (ksL kT S))) ∨ (j = 39 ∧ o = .map (keysE 4 (ksL kF F))) ∨ (j = 56 ∧ o = .map (keysE 0 (ksL kP E))) ∨ (j = 57 ∧ o = .map (keysE 1 (ksL kC E))) ∨ (j = 58 ∧ o = .map (keysE 2 (ksL kR E))) ∨ o.ids = [] := by
 unfold EM edS at h
 rcases upd_some h with ⟨-, e⟩ | ⟨-, h⟩
 ·cases e; simp [O.ids]
 rcases upd_some h with ⟨rfl, e⟩ | ⟨-, h⟩
 ·cases e; simp
 rcases upd_some h with ⟨-, e⟩ | ⟨-, h⟩
 ·cases e; simp [O.ids, ents1_flat]
 rcases upd_some h with ⟨rfl, e⟩ | ⟨-, h⟩
 ·cases e; simp [O.ids, A.ids]
 rcases upd_some h with ⟨rfl, e⟩ | ⟨-, h⟩
 ·cases e; simp [O.ids, A.ids]
 rcases upd_some h with ⟨rfl, e⟩ | ⟨-, h⟩
 ·cases e; simp [O.ids, A.ids]
 unfold edF at h
 rcases upd_some h with ⟨rfl, e⟩ | ⟨-, h⟩
 ·cases e; simp [O.ids, A.ids]
 rcases upd_some h with ⟨-, e⟩ | ⟨-, h⟩
 ·cases e; simp [O.ids]
 rcases upd_some h with ⟨-, e⟩ | ⟨-, h⟩
 ·cases e; simp [O.ids, ents1_flat]
 rcases upd_some h with ⟨rfl, e⟩ | ⟨-, h⟩
 ·cases e; simp
 unfold soM at h
 rcases upd_some h with ⟨rfl, e⟩ | ⟨-, h⟩
 ·cases e; simp
 rcases upd_some h with ⟨rfl, e⟩ | ⟨-, h⟩
 ·cases e; simp
 rcases upd_some h with ⟨rfl, e⟩ | ⟨-, h⟩
 ·cases e; simp
 have fin : o.ids = [] := by
  unfold edX at h
  rcases upd_some h with ⟨-, e⟩ | ⟨-, h⟩
  ·exact xb_ids e
  rcases upd_some h with ⟨-, e⟩ | ⟨-, h⟩
  ·exact xb_ids e
  rcases upd_some h with ⟨-, e⟩ | ⟨-, h⟩
  ·exact xb_ids e
  rcases upd_some h with ⟨-, e⟩ | ⟨-, h⟩
  ·exact xb_ids e
  rcases upd_some h with ⟨-, e⟩ | ⟨-, h⟩
  ·exact xb_ids e
  unfold edG at h
  obtain ⟨z, h | h | h | h | h⟩ := grid_cases h <;> exact rowsOf_ids _ _ h.2
 simp [fin]
theorem keysT {n : Nat} {S : List (Nat × Nat)} (hS : ∀ p ∈ S, p.1 < n ∧ p.2 < n) : (∀ z ∈ ksL kT S, z < n) ∧ ∀ z ∈ ksL kF S, z < n := by
 refine ⟨fun z hz => ?_, fun z hz => ?_⟩ <;> obtain ⟨e, he, h⟩ := mem_ks'.1 hz
 ·cases h; exact (hS e he).2
 ·cases h; exact (hS e he).1
theorem EM_wf {n : Nat} (hn : n ≤ 100000) (hE : ∀ e ∈ E, e.f < n ∧ e.t < n) (hS : ∀ p ∈ S, p.1 < n ∧ p.2 < n) (hF : ∀ p ∈ F, p.1 < n ∧ p.2 < n) : WFm (EM E S F W x) := fun j o hj i hi => by
 obtain ⟨k1, k2, k3⟩ := keyP hE
 rcases EM_some hj with ⟨-, e⟩ | ⟨-, e⟩ | ⟨-, e⟩ | ⟨-, e⟩ | ⟨-, e⟩ | ⟨-, e⟩ | ⟨-, e⟩ | ⟨-, e⟩ | ⟨-, e⟩ | e
 ·rw [e] at hi; simp at hi; subst hi; rw [EM_37]; rfl
 ·rw [e] at hi; simp at hi; subst hi; rw [EM_38]; rfl
 ·rw [e] at hi; simp at hi; subst hi; rw [EM_300]; rfl
 ·rw [e] at hi; simp at hi
  rcases hi with rfl | rfl | rfl
  ·rw [EM_506]; rfl
  ·rw [EM_507]; rfl
  ·rw [EM_508]; rfl
 ·subst e
  obtain ⟨z, hz, rfl⟩ := keysE_ids.1 hi
  have := (keysT hS).1 z hz
  rw [EM_r4, rowsOf_ne (mem_ks.1 hz)]; rfl
 ·subst e
  obtain ⟨z, hz, rfl⟩ := keysE_ids.1 hi
  have := (keysT hF).2 z hz
  rw [EM_r5, rowsOf_ne (mem_ks.1 hz)]; rfl
 ·subst e
  obtain ⟨z, hz, rfl⟩ := keysE_ids.1 hi
  have := k1 z hz
  rw [EM_r1, rowsOf_ne (mem_ks.1 hz)]; rfl
 ·subst e
  obtain ⟨z, hz, rfl⟩ := keysE_ids.1 hi
  have := k2 z hz
  rw [EM_r2, rowsOf_ne (mem_ks.1 hz)]; rfl
 ·subst e
  obtain ⟨z, hz, rfl⟩ := keysE_ids.1 hi
  have := k3 z hz
  rw [EM_r3, rowsOf_ne (mem_ks.1 hz)]; rfl
 ·rw [e] at hi; cases hi
theorem A1.kill_not {a : A1} {id : Nat} (h : id ∉ a.ids) : a.kill id = a := by
 unfold A1.kill; rw [if_neg (by simpa using h)]
theorem A.kill_not {a : A} {id : Nat} (h : id ∉ a.ids) : a.kill id = a := by
 rcases (A.kill_ids (id := id) (a := a)).2 with q | ⟨q, -⟩
 ·cases a <;> simp only [A.kill, A.ids, List.mem_singleton, List.elem_eq_contains, List.contains_iff_mem] at q h ⊢ <;> first | rfl | (rw [if_neg h]) | (rw [if_neg (fun e => h e.symm)])
 ·exact q
theorem O.kill_not {o : O} {id : Nat} (h : id ∉ o.ids) : o.kill id = o := by
 cases o with
 | box ty cells =>
  simp only [O.kill, O.ids, List.mem_flatMap, not_exists, not_and] at h ⊢
  congr 1
  exact (List.map_congr_left fun a ha => A.kill_not (h a ha)).trans (List.map_id _)
 | rows ty xs =>
  simp only [O.kill, O.ids, List.mem_flatMap, not_exists, not_and] at h ⊢
  congr 1
  exact (List.map_congr_left fun a ha => A1.kill_not (h a ha)).trans (List.map_id _)
 | map ents =>
  simp only [O.kill, O.ids, List.mem_flatMap, not_exists, not_and, List.mem_append, not_or] at h ⊢
  congr 1
  refine (List.map_congr_left fun a ha => ?_).trans (List.map_id _)
  obtain ⟨h1, h2⟩ := h a ha
  rw [A1.kill_not h1, A1.kill_not h2]; rfl
 | _ => rfl
theorem EM_kill {id j : Nat} (hid : (id = 60 ∧ j ≠ 12) ∨ id = 61 ∨ ((∃ z, id = nm 3 z) ∧ j ≠ 38) ∨ ((∃ z, id = nm 4 z) ∧ j ≠ 39)) : (EM E S F W x j).map (O.kill id) = EM E S F W x j := by
 cases hj : EM E S F W x j with
 | none => rfl
 | some o =>
  rw [Option.map_some, O.kill_not]
  intro hi
  have big : (∃ z, id = nm 3 z) ∨ (∃ z, id = nm 4 z) → 100 ≤ id := by rintro (⟨z, rfl⟩ | ⟨z, rfl⟩) <;> unfold nm <;> omega
  have small : id < 100 → (id = 60 ∧ j ≠ 12) ∨ id = 61 := fun h => by
   rcases hid with h1 | h1 | ⟨h1, -⟩ | ⟨h1, -⟩
   ·exact .inl h1
   ·exact .inr h1
   ·have := big (.inl h1); omega
   ·have := big (.inr h1); omega
  have lrg : ∀ {q z : Nat}, q < 5 → id = nm q z → (q = 3 ∧ j ≠ 38) ∨ (q = 4 ∧ j ≠ 39) := fun {q z} hq h => by
   rcases hid with ⟨h1, -⟩ | h1 | ⟨⟨y, h1⟩, h2⟩ | ⟨⟨y, h1⟩, h2⟩
   ·unfold nm at h; omega
   ·unfold nm at h; omega
   ·refine .inl ⟨?_, h2⟩; unfold nm at h h1; omega
   ·refine .inr ⟨?_, h2⟩; unfold nm at h h1; omega
  rcases EM_some hj with ⟨q, e⟩ | ⟨q, e⟩ | ⟨q, e⟩ | ⟨q, e⟩ | ⟨q, e⟩ | ⟨q, e⟩ | ⟨q, e⟩ | ⟨q, e⟩ | ⟨q, e⟩ | e
  ·rw [e] at hi; simp at hi; have := small (by omega); omega
  ·rw [e] at hi; simp at hi; have := small (by omega); omega
  ·rw [e] at hi; simp at hi; have := small (by omega); omega
  ·rw [e] at hi; simp at hi; have := small (by omega); omega
  all_goals try (rw [e] at hi; cases hi; done)
  all_goals
   subst e
   obtain ⟨z, hz, e⟩ := keysE_ids.1 hi
   have := lrg (by decide) e
   omega
end
end V
end Go.Proofs.Ytmhchhmhpoldhaa
end
section
namespace Go.Proofs.Ytmhchhmhpoldhaa
namespace V
open Go.RowKit G
theorem up_mono {m m' : Mem} (h : ∀ i, (m i).isSome = true → (m' i).isSome = true) {j : Nat} {o o' : Option O} (ho : o.isSome = true → o'.isSome = true) : ∀ i, (upd m j o i).isSome = true → (upd m' j o' i).isSome = true := fun i hi => by
 unfold upd at *
 split
 ·rename_i e; rw [if_pos e] at hi; exact ho hi
 ·rename_i e; rw [if_neg e] at hi; exact h i hi
theorem rowsOf_mono {ty : TypeId} {e : Nat} {L L' : Nat → List (List C)} {z : Nat} (h : L z ≠ [] → L' z ≠ []) (hs : (rowsOf ty e L z).isSome = true) : (rowsOf ty e L' z).isSome = true := by
 by_cases h0 : L z = []
 ·rw [rowsOf_nil h0] at hs; cases hs
 ·rw [rowsOf_ne (h h0)]; rfl
theorem EM_more {E : List SE} {S S' F F' W W' : List (Nat × Nat)} {x : X5} (hS : ∀ p ∈ S, p ∈ S') (hF : ∀ p ∈ F, p ∈ F') : ∀ j, (EM E S F W x j).isSome = true → (EM E S' F' W' x j).isSome = true := by
 have sub : ∀ {key : Nat × Nat → Option Nat} {v : Nat × Nat → List C} {l l' : List (Nat × Nat)} {z : Nat}, (∀ p ∈ l, p ∈ l') → selL key v l z ≠ [] → selL key v l' z ≠ [] := fun {key v l l' z} h h1 h2 => by
  rw [Ne, selL_nil] at h1
  rw [selL_nil] at h2
  obtain ⟨e, he⟩ := List.exists_mem_of_ne_nil _ h1
  have := mem_selE.1 he
  have := (mem_selE (l := l')).2 ⟨h _ this.1, this.2⟩
  rw [h2] at this; cases this
 have hG : ∀ j, (edG E S F j).isSome = true → (edG E S' F' j).isSome = true := fun j hj => by
  cases hc : edG E S F j with
  | none => rw [hc] at hj; cases hj
  | some o =>
   obtain ⟨z, ⟨rfl, e⟩ | ⟨rfl, e⟩ | ⟨rfl, e⟩ | ⟨rfl, e⟩ | ⟨rfl, e⟩⟩ := grid_cases hc
   ·unfold edG; rw [grid_1, e]; rfl
   ·unfold edG; rw [grid_2, e]; rfl
   ·unfold edG; rw [grid_3, e]; rfl
   ·unfold edG; rw [grid_4]; exact rowsOf_mono (sub hS) (by rw [e]; rfl)
   ·unfold edG; rw [grid_5]; exact rowsOf_mono (sub hF) (by rw [e]; rfl)
 unfold EM edS edF soM edX
 iterate 18 refine up_mono ?_ (fun h => h)
 exact hG
theorem EM_60 {E : List SE} {S F W : List (Nat × Nat)} {x : X5} : EM E S F W x 60 = some (.mrow 72 2 (W.map cP)) := EM_300
theorem keyT_snoc {S : List (Nat × Nat)} {p : Nat × Nat} : selL kT vT (S ++ [p]) p.2 = selL kT vT S p.2 ++ [vT p] ∧ (∀ z, z ≠ p.2 → selL kT vT (S ++ [p]) z = selL kT vT S z) ∧ ksL kT (S ++ [p]) = if p.2 ∈ ksL kT S then ksL kT S else ksL kT S ++ [p.2] := sel_this (key := kT) (v := vT) rfl
theorem mle_way {E : List SE} {S F W W' : List (Nat × Nat)} {x : X5} {p : Nat × Nat} {m : Mem} (h37 : m 37 = some (.map (ents1 (S ++ [p])))) (h38 : m 38 = some (.map (keysE 3 (ksL kT (S ++ [p]))))) (h12 : m 12 = some (.box 67 [.own 60])) (h60 : m 60 = some (.mrow 72 2 (W'.map cP)))
  (hrow : m (nm 3 p.2) = some (.arr 3 1 (selL kT vT S p.2 ++ [vT p]))) (hoth : ∀ j, j ≠ 37 → j ≠ 38 → j ≠ 12 → j ≠ 60 → j ≠ nm 3 p.2 → EM E S F W x j = none ∨ m j = EM E S F W x j) : MLe m (EM E (S ++ [p]) F W' x) := fun j => by
 obtain ⟨k1, k2, -⟩ := keyT_snoc (S := S) (p := p)
 by_cases e1 : j = 37
 ·subst e1; rw [EM_37, h37]; exact .inr rfl
 by_cases e2 : j = 38
 ·subst e2; rw [EM_38, h38]; exact .inr rfl
 by_cases e3 : j = 12
 ·subst e3; rw [EM_12, h12]; exact .inr rfl
 by_cases e4 : j = 60
 ·subst e4; rw [EM_60, h60]; exact .inr rfl
 by_cases e5 : j = nm 3 p.2
 ·subst e5; rw [EM_r4, hrow, rowsOf_push k1]; exact .inr rfl
 suffices hs : EM E (S ++ [p]) F W' x j = EM E S F W x j by
  rw [hs]; exact (hoth j e1 e2 e3 e4 e5).imp id Eq.symm
 by_cases hj : 100 ≤ j
 ·rw [EM_top hj, EM_top hj]
  have : ∀ o, edG E (S ++ [p]) F j = some o ↔ edG E S F j = some o := fun o => by
   constructor
   ·intro h
    obtain ⟨z, ⟨rfl, e⟩ | ⟨rfl, e⟩ | ⟨rfl, e⟩ | ⟨rfl, e⟩ | ⟨rfl, e⟩⟩ := grid_cases h
    ·unfold edG; rw [grid_1, e]
    ·unfold edG; rw [grid_2, e]
    ·unfold edG; rw [grid_3, e]
    ·unfold edG; rw [grid_4, ← e]; exact (rowsOf_congr (k2 z fun q => e5 (by rw [q]))).symm
    ·unfold edG; rw [grid_5, e]
   ·intro h
    obtain ⟨z, ⟨rfl, e⟩ | ⟨rfl, e⟩ | ⟨rfl, e⟩ | ⟨rfl, e⟩ | ⟨rfl, e⟩⟩ := grid_cases h
    ·unfold edG; rw [grid_1, e]
    ·unfold edG; rw [grid_2, e]
    ·unfold edG; rw [grid_3, e]
    ·unfold edG; rw [grid_4, ← e]; exact rowsOf_congr (k2 z fun q => e5 (by rw [q]))
    ·unfold edG; rw [grid_5, e]
  exact Option.ext this
 ·have hG : edG E (S ++ [p]) F j = edG E S F j := by rw [edG, edG, grid_lo (by omega), grid_lo (by omega)]
  simp only [EM, edS, edF, soM, edX, upd_app, hG, e1, e2, e3, e4, if_false]
theorem mle_work {E : List SE} {S F W W' : List (Nat × Nat)} {x : X5} {m : Mem} (h12 : m 12 = some (.box 67 [.own 60])) (h60 : m 60 = some (.mrow 72 2 (W'.map cP))) (hoth : ∀ j, j ≠ 12 → j ≠ 60 → EM E S F W x j = none ∨ m j = EM E S F W x j) : MLe m (EM E S F W' x) := fun j => by
 by_cases e3 : j = 12
 ·subst e3; rw [EM_12, h12]; exact .inr rfl
 by_cases e4 : j = 60
 ·subst e4; rw [EM_60, h60]; exact .inr rfl
 have hs : EM E S F W' x j = EM E S F W x j := by
  unfold EM edS; rw [upd_ne _ _ e4, upd_ne _ _ e4]
 rw [hs]; exact (hoth j e3 e4).imp id Eq.symm
set_option maxRecDepth 100000 in
set_option maxHeartbeats 8000000 in
theorem way_ok (n : Nat) (hn : n ≤ 100000) (E : List SE) (hE : ∀ e ∈ E, e.f < n ∧ e.t < n) (S F L : List (Nat × Nat)) (hB : Base E n S F L) (p : Nat × Nat) (hp : p.1 < n ∧ p.2 < n) (x : X5) :
  CallE Try.prog 51 [.c (.int .i64 p.1), .c (.int .i64 p.2), .ptr 8 0, .ptr 9 0, .ptr 12 0] (EM E S F L x) [nm 3 p.2, 60] (.tup []) (EM E (wayS S p) F (wayW S L p) x) := by
 have hnn : n * n ≤ 100000 * 100000 := Nat.mul_le_mul hn hn
 have hlS := hB.lenS
 have hlW := hB.lenW
 have hS' : ∀ q ∈ wayS S p, q.1 < n ∧ q.2 < n := fun q hq => by
  unfold wayS at hq
  split at hq
  ·exact hB.bS q hq
  ·rcases List.mem_append.1 hq with hq | hq
   ·exact hB.bS q hq
   ·rw [List.mem_singleton.1 hq]; exact hp
 refine (ok_eff tab_ok [nm 3 p.2, 60] Try.func51 (by kernel_rfl) rfl rfl (by rfl) (by rfl) ?ids ?res ?sub ?wfm (fun hWF Rr hkeep => ?_))
 case ids =>
  intro a ha j hj
  simp at ha
  rcases ha with rfl | rfl | rfl | rfl | rfl <;> simp [A.ids] at hj
  ·subst hj; rw [EM_8]; rfl
  ·subst hj; rw [EM_9]; rfl
  ·subst hj; rw [EM_12]; rfl
 case res => intro j hj; simp [A.ids] at hj
 case sub => exact EM_more (fun q hq => wayS_sub hq) (fun q hq => hq)
 case wfm => exact fun _ => EM_wf hn hE hS' hB.bF
 have hk1 : ¬ Rr.keep (nm 3 p.2) := fun h => by rw [hkeep] at h; exact h.2 (by simp)
 have hk2 : ¬ Rr.keep 60 := fun h => by rw [hkeep] at h; exact h.2 (by simp)
 have hfree : EM E S F L x 77 = none := EM_free (by decide)
 by_cases hin : p ∈ S
 ·obtain ⟨q, hq⟩ := find1_some hin
  repeat (first | refine W.seq ?_ | refine W.block ?_ | refine W.skip ?_ | refine W.exit ?_ | refine W.region tab_ok 70 (by decide) (exec_run (by simp only [exb, Nat.reduceAdd, Nat.reduceLeDiff, Nat.reduceEqDiff, Nat.reduceMul, Int.reduceToNat, reduceIte, Int.reduceLE, Int.reduceNeg, EM_8, EM_9, EM_12, EM_37, EM_38, EM_60, hfree, nms, nm_small, nm_small', Nat.reduceLT, hq, Bool.false_eq_true]; rfl)) ?_)
  refine W.cond rfl ?_ ?_
  ·intro h; simp at h
  intro _
  repeat (first | refine W.seq ?_ | refine W.block ?_ | refine W.skip ?_ | refine W.exit ?_ | refine W.region tab_ok 70 (by decide) xr0 ?_)
  refine ⟨.inl rfl, by rfl, by rfl, ?_⟩
  rw [wayS, if_pos hin, wayW, if_pos hin]
  exact mle_skip (mle_skip (mle_refl _) hfree) hfree
 ·have hq := find1_none hin
  obtain ⟨k1, k2, k3⟩ := keyT_snoc (S := S) (p := p)
  have hfree' : EM E (S ++ [p]) F L x 77 = none := EM_free (by decide)
  have hput1 := put1 (z := p) (L := S)
  have hSS : ∀ q ∈ S ++ [p], q.1 < n ∧ q.2 < n := fun q hq => hS' q (by unfold wayS; rw [if_neg hin]; exact hq)
  have kept : ∀ (m : Mem) (j : Nat), (∀ i, (EM E (S ++ [p]) F L x i).isSome = true → (m i).isSome = true) → Rr.keep j → (m j).isSome = true := fun m j h hj => h j (EM_more (fun q hq => List.mem_append_left _ hq) (fun q hq => hq) j (by rw [hkeep] at hj; exact hj.1))
  repeat (first | refine W.seq ?_ | refine W.block ?_ | refine W.skip ?_ | refine W.exit ?_ | refine W.region tab_ok 70 (by decide) (exec_run (by simp only [exb, Nat.reduceAdd, Nat.reduceLeDiff, Nat.reduceEqDiff, Nat.reduceMul, Int.reduceToNat, reduceIte, Int.reduceLE, Int.reduceNeg, EM_8, EM_9, EM_12, EM_37, EM_38, EM_60, hfree, nms, nm_small, nm_small', Nat.reduceLT, hq, Bool.false_eq_true, eq_self]; rfl)) ?_)
  refine W.cond rfl ?_ ?_
  ·intro _
   (repeat (first | refine W.seq ?_ | refine W.block ?_ | refine W.skip ?_ | refine W.exit ?_))
   refine W.regionK tab_ok 70 (by decide) ?_
   refine runk_split 2 (by simp only [exb, Nat.reduceAdd, Nat.reduceLeDiff, Nat.reduceEqDiff, Nat.reduceMul, Int.reduceToNat, reduceIte, Int.reduceLE, Int.reduceNeg, EM_8, EM_9, EM_12, EM_37, EM_38, EM_60, hfree, nms, nm_small, nm_small', Nat.reduceLT]; rfl) ?_
   refine runk_put tab_ok (ents := (ents1 S)) rfl (.inl rfl) rfl rfl (by first | rfl | (simp only [exb, Nat.reduceAdd, Nat.reduceLeDiff, Nat.reduceEqDiff, Nat.reduceMul, Int.reduceToNat, reduceIte, Int.reduceLE, Int.reduceNeg, EM_8, EM_9, EM_12, EM_37, EM_38, EM_60, hfree, nms, nm_small, nm_small', Nat.reduceLT]; done)) rfl zb5q15 (by rfl) zb5q15 hq ?_
   refine xe0 ?_
   (repeat (first | refine W.seq ?_ | refine W.block ?_ | refine W.skip ?_ | refine W.exit ?_))
   refine W.regionX tab_ok follows_mixed ⟨upd (upd (upd (upd (upd (upd (fun _ => .top) 0 (.c (.int .i64 p.1))) 1 (.c (.int .i64 p.2))) 2 (.ptr 8 0)) 3 (.ptr 9 0)) 4 (.ptr 12 0)) 7 (.ptr 77 0), upd (EM E (S ++ [p]) F L x) 77 (some (.box 72 [.c (.int .i64 p.1), .c (.int .i64 p.2)]))⟩ ?_ ?_
   ·by_cases hk : p.2 ∈ ksL kT S
    ·as_aux_lemma =>
     obtain ⟨q', q1, q2, q3⟩ := find_there (b := 3) (ks_nodup S) hk
     rw [if_pos hk] at k3
     have hrow : EM E S F L x (nm 3 p.2) = some (.arr 3 1 (selL kT vT S p.2)) := EM_r4.trans (rowsOf_ne (mem_ks.1 hk))
     have hput : putE (.c (.int .i64 (p.2 : Int))) (.own (nm 3 p.2)) ((keysE 3 (ksL kT S)).map fun pp => (pp.1.kill (nm 3 p.2), pp.2.kill (nm 3 p.2))) (some (q', .top)) = keysE 3 (ksL kT S) := q3
     have hkl : ∀ j, j ≠ 38 → (EM E S F L x j).map (O.kill (nm 3 p.2)) = EM E S F L x j := fun j h => EM_kill (.inr (.inr (.inl ⟨⟨_, rfl⟩, h⟩)))
     refine rx_move (base := 70) tab_ok (by decide) (by decide +kernel) 1 rfl rfl rfl (by decide +kernel) (by decide +kernel) ⟨_, zb5q10, ?_⟩
     refine rx_move (base := 70) tab_ok (by decide) (by decide +kernel) 3 rfl rfl rfl (by decide +kernel) (by decide +kernel) ⟨_, zb5q10, ?_⟩
     refine rx_move (base := 70) tab_ok (by decide) (by decide +kernel) 5 rfl rfl rfl (by decide +kernel) (by decide +kernel) ⟨_, zb5q10, ?_⟩
     refine rx_runs (base := 70) tab_ok (by decide) ?_
     repeat' (first
      | exact trivial
      | refine runsw_end (by decide +kernel) ?_
      | refine first_exec 2 (by decide +kernel) ⟨_, zb5q10, ?_⟩
      | refine first_exec 4 (by decide +kernel) ⟨_, zb5q10, ?_⟩
      | refine first_exec 6 (by decide +kernel) ⟨_, zb5q10, ?_⟩
      | refine first_exec 0 (by decide +kernel) ⟨_, zb5q10, ?_⟩
      | refine runs_node [0, 7] (by decide +kernel) (by decide) ?_
      | refine runs_node [7] (by decide +kernel) (by decide) ?_
      | refine runs_node [8] (by decide +kernel) (by decide) ?_
      | refine step_exec ⟨_, zb5q10, ?_⟩ ?_
      | refine step_put tab_ok (ents := ((keysE 3 (ksL kT S)).map fun pp => (pp.1.kill (nm 3 p.2), pp.2.kill (nm 3 p.2)))) rfl rfl (.inl rfl) rfl zb5q11 zb5q12 rfl zb5q11 (by rfl) zb5q11 q2 ?_ ?_
      | refine step_append tab_ok rfl (nm 3 p.2) true rfl rfl rfl rfl rfl rfl zb5q12 zb5q13 zb5q13 rfl rfl rfl rfl hk1 (fun z hz => by simp at hz; subst hz; rfl) (by have := selL_len (key := kT) (v := vT) S p.2; simp only [List.length_cons, List.length_nil]; omega) (by decide) ?_ ?_)
     all_goals
      refine le_mk ?sle ?mle ?swf ?mwf (fun j hj => kept (upd (EM E (S ++ [p]) F L x) 77 (some (.box 72 [.c (.int .i64 p.1), .c (.int .i64 p.2)]))) j (fun i hi => live_upd i hi) hj) (by rfl)
      case swf => repeat (first | exact swf_top _ | refine swf_upd ?_ (by simp [A.ids, upd_app, EM_8, EM_9, EM_12]))
      case sle => repeat (first | exact sle_top _ | exact sle_refl _ | refine sle_upd ?_ (by first | (simp only [upd_app, killS_app, A.kill, entry_zero, entry_succ, Nat.reduceEqDiff, reduceIte, EM_8, EM_9, EM_12, EM_37, EM_38, EM_60, hfree, nms, nm_small, nm_small', Nat.reduceLT, hput1, ents1_kill, hput, k3, vT]; done) | rfl))
      case mwf => exact mwf_upd (fun j o hj i hi => live_upd i (EM_wf hn hE hSS hB.bF j o hj i hi)) (by simp [O.ids, A.ids])
      case mle =>
       refine mle_upd (mle_way (S := S) (W := L) ?_ ?_ ?_ ?_ ?_ (fun j c1 c2 c3 c4 c5 => ?_)) ?_
       ·simp only [exb, Nat.reduceAdd, Nat.reduceLeDiff, Nat.reduceEqDiff, Nat.reduceMul, Int.reduceToNat, reduceIte, Int.reduceLE, Int.reduceNeg, EM_8, EM_9, EM_12, EM_37, EM_38, EM_60, hfree, nms, nm_small, nm_small', Nat.reduceLT, hput1, ents1_kill, hput, k3, vT]
       ·simp only [exb, Nat.reduceAdd, Nat.reduceLeDiff, Nat.reduceEqDiff, Nat.reduceMul, Int.reduceToNat, reduceIte, Int.reduceLE, Int.reduceNeg, EM_8, EM_9, EM_12, EM_37, EM_38, EM_60, hfree, nms, nm_small, nm_small', Nat.reduceLT, hput1, ents1_kill, hput, k3, vT]
       ·simp only [exb, Nat.reduceAdd, Nat.reduceLeDiff, Nat.reduceEqDiff, Nat.reduceMul, Int.reduceToNat, reduceIte, Int.reduceLE, Int.reduceNeg, EM_8, EM_9, EM_12, EM_37, EM_38, EM_60, hfree, nms, nm_small, nm_small', Nat.reduceLT, hput1, ents1_kill, hput, k3, vT]
       ·simp only [exb, Nat.reduceAdd, Nat.reduceLeDiff, Nat.reduceEqDiff, Nat.reduceMul, Int.reduceToNat, reduceIte, Int.reduceLE, Int.reduceNeg, EM_8, EM_9, EM_12, EM_37, EM_38, EM_60, hfree, nms, nm_small, nm_small', Nat.reduceLT, hput1, ents1_kill, hput, k3, vT]
       ·simp only [exb, Nat.reduceAdd, Nat.reduceLeDiff, Nat.reduceEqDiff, Nat.reduceMul, Int.reduceToNat, reduceIte, Int.reduceLE, Int.reduceNeg, EM_8, EM_9, EM_12, EM_37, EM_38, EM_60, hfree, nms, nm_small, nm_small', Nat.reduceLT, hput1, ents1_kill, hput, k3, vT]
       ·by_cases e : j = 77
        ·subst e; exact .inl hfree
        ·exact .inr (by simp only [exb, Nat.reduceAdd, Nat.reduceLeDiff, Nat.reduceEqDiff, Nat.reduceMul, Int.reduceToNat, reduceIte, Int.reduceLE, Int.reduceNeg, c1, c2, c3, c4, c5, e, hkl j c2, if_false])
       ·simp only [exb, Nat.reduceAdd, Nat.reduceLeDiff, Nat.reduceEqDiff, Nat.reduceMul, Int.reduceToNat, reduceIte, Int.reduceLE, Int.reduceNeg, EM_8, EM_9, EM_12, EM_37, EM_38, EM_60, hfree, nms, nm_small, nm_small', Nat.reduceLT, hput1, ents1_kill, hput, k3, vT]
    ·as_aux_lemma =>
     have q1 := find_absent (id := 0) (b := 3) hk
     rw [if_neg hk] at k3
     have hnil : selL kT vT S p.2 = [] := Classical.byContradiction fun h => hk (mem_ks.2 h)
     have hrow : EM E S F L x (nm 3 p.2) = none := EM_r4.trans (rowsOf_nil hnil)
     have hput := putE_new (b := 3) (z := p.2) (ks := ksL kT S)
     refine rx_move (base := 70) tab_ok (by decide) (by decide +kernel) 1 rfl rfl rfl (by decide +kernel) (by decide +kernel) ⟨_, zb5q10, ?_⟩
     refine rx_move (base := 70) tab_ok (by decide) (by decide +kernel) 3 rfl rfl rfl (by decide +kernel) (by decide +kernel) ⟨_, zb5q10, ?_⟩
     refine rx_move (base := 70) tab_ok (by decide) (by decide +kernel) 5 rfl rfl rfl (by decide +kernel) (by decide +kernel) ⟨_, zb5q10, ?_⟩
     refine rx_runs (base := 70) tab_ok (by decide) ?_
     repeat' (first
      | exact trivial
      | refine runsw_end (by decide +kernel) ?_
      | refine first_exec 2 (by decide +kernel) ⟨_, zb5q10, ?_⟩
      | refine first_exec 4 (by decide +kernel) ⟨_, zb5q10, ?_⟩
      | refine first_exec 6 (by decide +kernel) ⟨_, zb5q10, ?_⟩
      | refine first_exec 0 (by decide +kernel) ⟨_, zb5q10, ?_⟩
      | refine runs_node [0, 7] (by decide +kernel) (by decide) ?_
      | refine runs_node [7] (by decide +kernel) (by decide) ?_
      | refine runs_node [8] (by decide +kernel) (by decide) ?_
      | refine step_exec ⟨_, zb5q10, ?_⟩ ?_
      | refine step_put tab_ok (ents := (keysE 3 (ksL kT S))) rfl rfl (.inl rfl) rfl zb5q11 zb5q12 rfl zb5q11 (by rfl) zb5q11 q1 ?_ ?_
      | refine step_appendNil tab_ok rfl (nm 3 p.2) true rfl rfl rfl rfl rfl rfl zb5q12 zb5q12 zb5q13 rfl rfl rfl rfl (fun z hz => by simp at hz; subst hz; rfl) (by simp only [List.length_cons, List.length_nil]; omega) (by decide) ?_ ?_)
     all_goals
      refine le_mk ?sle ?mle ?swf ?mwf (fun j hj => kept (upd (EM E (S ++ [p]) F L x) 77 (some (.box 72 [.c (.int .i64 p.1), .c (.int .i64 p.2)]))) j (fun i hi => live_upd i hi) hj) (by rfl)
      case swf => repeat (first | exact swf_top _ | refine swf_upd ?_ (by simp [A.ids, upd_app, EM_8, EM_9, EM_12]))
      case sle => repeat (first | exact sle_top _ | exact sle_refl _ | refine sle_upd ?_ (by first | (simp only [upd_app, killS_app, A.kill, entry_zero, entry_succ, Nat.reduceEqDiff, reduceIte, EM_8, EM_9, EM_12, EM_37, EM_38, EM_60, hfree, nms, nm_small, nm_small', Nat.reduceLT, hput1, ents1_kill, hput, hnil, k3, vT]; done) | rfl))
      case mwf => exact mwf_upd (fun j o hj i hi => live_upd i (EM_wf hn hE hSS hB.bF j o hj i hi)) (by simp [O.ids, A.ids])
      case mle =>
       refine mle_upd (mle_way (S := S) (W := L) ?_ ?_ ?_ ?_ ?_ (fun j c1 c2 c3 c4 c5 => ?_)) ?_
       ·simp only [exb, Nat.reduceAdd, Nat.reduceLeDiff, Nat.reduceEqDiff, Nat.reduceMul, Int.reduceToNat, reduceIte, Int.reduceLE, Int.reduceNeg, EM_8, EM_9, EM_12, EM_37, EM_38, EM_60, hfree, nms, nm_small, nm_small', Nat.reduceLT, hput1, ents1_kill, hput, hnil, k3, vT]
       ·simp only [exb, Nat.reduceAdd, Nat.reduceLeDiff, Nat.reduceEqDiff, Nat.reduceMul, Int.reduceToNat, reduceIte, Int.reduceLE, Int.reduceNeg, EM_8, EM_9, EM_12, EM_37, EM_38, EM_60, hfree, nms, nm_small, nm_small', Nat.reduceLT, hput1, ents1_kill, hput, hnil, k3, vT]
       ·simp only [exb, Nat.reduceAdd, Nat.reduceLeDiff, Nat.reduceEqDiff, Nat.reduceMul, Int.reduceToNat, reduceIte, Int.reduceLE, Int.reduceNeg, EM_8, EM_9, EM_12, EM_37, EM_38, EM_60, hfree, nms, nm_small, nm_small', Nat.reduceLT, hput1, ents1_kill, hput, hnil, k3, vT]
       ·simp only [exb, Nat.reduceAdd, Nat.reduceLeDiff, Nat.reduceEqDiff, Nat.reduceMul, Int.reduceToNat, reduceIte, Int.reduceLE, Int.reduceNeg, EM_8, EM_9, EM_12, EM_37, EM_38, EM_60, hfree, nms, nm_small, nm_small', Nat.reduceLT, hput1, ents1_kill, hput, hnil, k3, vT]
       ·simp only [exb, Nat.reduceAdd, Nat.reduceLeDiff, Nat.reduceEqDiff, Nat.reduceMul, Int.reduceToNat, reduceIte, Int.reduceLE, Int.reduceNeg, EM_8, EM_9, EM_12, EM_37, EM_38, EM_60, hfree, nms, nm_small, nm_small', Nat.reduceLT, hput1, ents1_kill, hput, hnil, k3, vT]
       ·by_cases e : j = 77
        ·subst e; exact .inl hfree
        ·exact .inr (by simp only [exb, Nat.reduceAdd, Nat.reduceLeDiff, Nat.reduceEqDiff, Nat.reduceMul, Int.reduceToNat, reduceIte, Int.reduceLE, Int.reduceNeg, c1, c2, c3, c4, c5, e,  if_false])
       ·simp only [exb, Nat.reduceAdd, Nat.reduceLeDiff, Nat.reduceEqDiff, Nat.reduceMul, Int.reduceToNat, reduceIte, Int.reduceLE, Int.reduceNeg, EM_8, EM_9, EM_12, EM_37, EM_38, EM_60, hfree, nms, nm_small, nm_small', Nat.reduceLT, hput1, ents1_kill, hput, hnil, k3, vT]
   ·intro st' hle
    refine W.weaken hle ?_
    (repeat (first | refine W.seq ?_ | refine W.block ?_ | refine W.skip ?_ | refine W.exit ?_))
    refine W.regionK tab_ok 70 (by decide) ?_
    refine runk_split 3 zb5q16 ?_
    refine runk_appendM tab_ok 60 rfl rfl rfl rfl rfl rfl (by simp only [exb, Nat.reduceAdd, Nat.reduceLeDiff, Nat.reduceEqDiff, Nat.reduceMul, Int.reduceToNat, reduceIte, Int.reduceLE, Int.reduceNeg, EM_8, EM_9, EM_12, EM_37, EM_38, EM_60, hfree', nms, nm_small, nm_small', Nat.reduceLT, cP]) zb5q16 (by first | rfl | (simp only [exb, Nat.reduceAdd, Nat.reduceLeDiff, Nat.reduceEqDiff, Nat.reduceMul, Int.reduceToNat, reduceIte, Int.reduceLE, Int.reduceNeg, EM_8, EM_9, EM_12, EM_37, EM_38, EM_60, hfree', nms, nm_small, nm_small', Nat.reduceLT, cP]; rfl)) rfl rfl rfl rfl hk2 (fun z hz => by simp at hz; subst hz; rfl) (by simp only [List.length_map, List.length_cons, List.length_nil]; omega) (by decide) ?_
    refine runk_exec zb5q16 ?_
    refine ⟨.inl rfl, by rfl, by rfl, ?_⟩
    rw [wayS, if_neg hin, wayW, if_neg hin]
    have hkl : ∀ j, j ≠ 12 → (EM E (S ++ [p]) F L x j).map (O.kill 60) = EM E (S ++ [p]) F L x j := fun j h => EM_kill (.inl ⟨rfl, h⟩)
    refine mle_work (W := L) ?_ ?_ (fun j c1 c2 => ?_)
    ·simp only [exb, Nat.reduceAdd, Nat.reduceLeDiff, Nat.reduceEqDiff, Nat.reduceMul, Int.reduceToNat, reduceIte, Int.reduceLE, Int.reduceNeg, EM_8, EM_9, EM_12, EM_37, EM_38, EM_60, hfree', nms, nm_small, nm_small', Nat.reduceLT, cP]
    ·simp only [exb, Nat.reduceAdd, Nat.reduceLeDiff, Nat.reduceEqDiff, Nat.reduceMul, Int.reduceToNat, reduceIte, Int.reduceLE, Int.reduceNeg, EM_8, EM_9, EM_12, EM_37, EM_38, EM_60, hfree', nms, nm_small, nm_small', Nat.reduceLT, cP, List.map_append]
    ·by_cases e : j = 77
     ·subst e; exact .inl hfree'
     ·exact .inr (by simp only [exb, Nat.reduceAdd, Nat.reduceLeDiff, Nat.reduceEqDiff, Nat.reduceMul, Int.reduceToNat, reduceIte, Int.reduceLE, Int.reduceNeg, c1, c2, e, hkl j c1, if_false])
  ·intro h; cases h
end V
end Go.Proofs.Ytmhchhmhpoldhaa
end
section
namespace Go.Proofs.Ytmhchhmhpoldhaa
namespace V
open Go.RowKit G
section
variable {E : List SE} {S F W : List (Nat × Nat)} {x x' : X5}
theorem EM_61 : EM E S F W x 61 = some (.mrow 72 2 (F.map cP)) := EM_313
theorem EM_56 : EM E S F W x 56 = some (.map (keysE 0 (ksL kP E))) := EM_506
theorem EM_57 : EM E S F W x 57 = some (.map (keysE 1 (ksL kC E))) := EM_507
theorem EM_58 : EM E S F W x 58 = some (.map (keysE 2 (ksL kR E))) := EM_508
theorem xb_none {ty : TypeId} : xb ty none = none := rfl
theorem xb_some {ty : TypeId} {l : List C} : xb ty (some l) = some (.box ty (l.map A.c)) := rfl
theorem xb_le {ty : TypeId} {a b : Option (List C)} (h : b = none ∨ b = a) : xb ty b = none ∨ xb ty b = xb ty a := by
 rcases h with rfl | rfl
 ·exact .inl rfl
 ·exact .inr rfl
theorem EM_le (h1 : x'.x16 = none ∨ x'.x16 = x.x16) (h2 : x'.x17 = none ∨ x'.x17 = x.x17) (h3 : x'.x23 = none ∨ x'.x23 = x.x23) (h4 : x'.x25 = none ∨ x'.x25 = x.x25) (h5 : x'.x26 = none ∨ x'.x26 = x.x26) : MLe (EM E S F W x) (EM E S F W x') := fun j => by
 by_cases e1 : j = 16
 ·subst e1; rw [EM_16, EM_16]; exact xb_le h1
 by_cases e2 : j = 17
 ·subst e2; rw [EM_17, EM_17]; exact xb_le h2
 by_cases e3 : j = 23
 ·subst e3; rw [EM_23, EM_23]; exact xb_le h3
 by_cases e4 : j = 25
 ·subst e4; rw [EM_25, EM_25]; exact xb_le h4
 by_cases e5 : j = 26
 ·subst e5; rw [EM_26, EM_26]; exact xb_le h5
 refine .inr ?_
 simp only [EM, edS, edF, soM, edX, upd_app, e1, e2, e3, e4, e5, if_false]
theorem EM_put {q : Nat} {o : O} {m : Mem} (hq : m q = some o) (hx : EM E S F W x' q = some o) (hoth : ∀ j, j ≠ q → m j = EM E S F W x j) (hsame : ∀ j, j ≠ q → EM E S F W x' j = EM E S F W x j) : MLe m (EM E S F W x') := fun j => by
 by_cases e : j = q
 ·subst e; rw [hq, hx]; exact .inr rfl
 ·rw [hoth j e, hsame j e]; exact .inr rfl
theorem EM_x {j : Nat} (h16 : j ≠ 16 ∨ x'.x16 = x.x16) (h17 : j ≠ 17 ∨ x'.x17 = x.x17) (h23 : j ≠ 23 ∨ x'.x23 = x.x23) (h25 : j ≠ 25 ∨ x'.x25 = x.x25) (h26 : j ≠ 26 ∨ x'.x26 = x.x26) : EM E S F W x' j = EM E S F W x j := by
 by_cases e1 : j = 16
 ·subst e1; rw [EM_16, EM_16, h16.resolve_left (by simp)]
 by_cases e2 : j = 17
 ·subst e2; rw [EM_17, EM_17, h17.resolve_left (by simp)]
 by_cases e3 : j = 23
 ·subst e3; rw [EM_23, EM_23, h23.resolve_left (by simp)]
 by_cases e4 : j = 25
 ·subst e4; rw [EM_25, EM_25, h25.resolve_left (by simp)]
 by_cases e5 : j = 26
 ·subst e5; rw [EM_26, EM_26, h26.resolve_left (by simp)]
 simp only [EM, edS, edF, soM, edX, upd_app, e1, e2, e3, e4, e5, if_false]
theorem elem_nm (q z : Nat) : List.elem (nm q z) [8, 9, 12] = false := by simp [nm]; omega
theorem elem_60 : List.elem 60 [8, 9, 12] = false := rfl
theorem elem_61 : List.elem 61 [8, 9, 12] = false := rfl
theorem soM_free {j : Nat} (h : j < 56 ∨ (58 < j ∧ j < 100)) : soM E (soG E) j = none := by
 unfold soM; rw [upd_ne _ _ (by omega), upd_ne _ _ (by omega), upd_ne _ _ (by omega), soG, grid_lo (by omega)]
theorem soM_56 : soM E (soG E) 56 = some (.map (keysE 0 (ksL kP E))) := by simp [soM, upd_app]
theorem soM_57 : soM E (soG E) 57 = some (.map (keysE 1 (ksL kC E))) := by simp [soM, upd_app]
theorem soM_58 : soM E (soG E) 58 = some (.map (keysE 2 (ksL kR E))) := by simp [soM, upd_app]
theorem mle_begin {m : Mem} (h8 : m 8 = some (.box 88 [.map 37])) (h9 : m 9 = some (.box 82 [.map 38])) (h12 : m 12 = some (.box 67 [.own 60])) (h37 : m 37 = some (.map [])) (h38 : m 38 = some (.map [])) (h60 : m 60 = some (.mrow 72 2 []))
  (h39 : m 39 = some (.map [])) (h40 : m 40 = some (.map [])) (h61 : m 61 = some (.mrow 72 2 [])) (h7 : m 7 = some (.box 86 [.map 56, .map 57, .map 58])) (hoth : ∀ j, j ∉ [8, 9, 12, 37, 38, 60, 39, 40, 61, 7] → m j = soM E (soG E) j) : MLe m (EM E [] [] [] {}) := fun j => by
 by_cases e0 : j ∈ [8, 9, 12, 37, 38, 60, 39, 40, 61, 7]
 ·simp only [List.mem_cons, List.not_mem_nil, or_false] at e0
  rcases e0 with rfl | rfl | rfl | rfl | rfl | rfl | rfl | rfl | rfl | rfl
  ·rw [EM_8, h8]; exact .inr rfl
  ·rw [EM_9, h9]; exact .inr rfl
  ·rw [EM_12, h12]; exact .inr rfl
  ·rw [EM_37, h37]; exact .inr rfl
  ·rw [EM_38, h38]; exact .inr rfl
  ·rw [EM_60, h60]; exact .inr rfl
  ·rw [EM_39, h39]; exact .inr rfl
  ·rw [EM_40, h40]; exact .inr rfl
  ·rw [EM_61, h61]; exact .inr rfl
  ·rw [EM_7, h7]; exact .inr rfl
 ·refine .inr ?_
  rw [hoth j e0]
  simp only [List.mem_cons, List.not_mem_nil, or_false, not_or] at e0
  obtain ⟨e1, e2, e3, e4, e5, e6, e7, e8, e9, e10⟩ := e0
  have hr : ∀ key : Nat × Nat → Option Nat, ∀ v : Nat × Nat → List C, rowsOf 3 1 (selL key v []) = noRow := fun key v => funext fun z => rfl
  have hG : edG E [] [] = soG E := by unfold edG soG; rw [hr, hr]
  simp only [EM, edS, edF, edX, xb_none, upd_app, e1, e2, e3, e4, e5, e6, e7, e8, e9, e10, if_false, hG]
  by_cases c : j = 56 ∨ j = 57 ∨ j = 58
  ·rcases c with rfl | rfl | rfl
   ·simp [soM, upd_app]
   ·simp [soM, upd_app]
   ·simp [soM, upd_app]
  ·simp only [not_or] at c
   simp only [soM, upd_app, c.1, c.2.1, c.2.2, if_false]
   by_cases hj : j < 100
   ·rw [soG, grid_lo hj]; simp
   ·rw [if_neg (by omega), if_neg (by omega), if_neg (by omega), if_neg (by omega), if_neg (by omega)]
theorem keyF_snoc {s : Nat × Nat} : selL kF vF (F ++ [s]) s.1 = selL kF vF F s.1 ++ [vF s] ∧ (∀ z, z ≠ s.1 → selL kF vF (F ++ [s]) z = selL kF vF F z) ∧ ksL kF (F ++ [s]) = if s.1 ∈ ksL kF F then ksL kF F else ksL kF F ++ [s.1] := sel_this (key := kF) (v := vF) rfl
theorem mle_new {s : Nat × Nat} {m : Mem} (h40 : m 40 = some (.map (ents1 (F ++ [s])))) (h39 : m 39 = some (.map (keysE 4 (ksL kF (F ++ [s]))))) (h61 : m 61 = some (.mrow 72 2 ((F ++ [s]).map cP)))
  (hrow : m (nm 4 s.1) = some (.arr 3 1 (selL kF vF F s.1 ++ [vF s]))) (hoth : ∀ j, j ≠ 39 → j ≠ 40 → j ≠ 61 → j ≠ nm 4 s.1 → m j = EM E S F W x j) : MLe m (EM E S (F ++ [s]) W x) := fun j => by
 obtain ⟨k1, k2, -⟩ := keyF_snoc (F := F) (s := s)
 by_cases e1 : j = 39
 ·subst e1; rw [EM_39, h39]; exact .inr rfl
 by_cases e2 : j = 40
 ·subst e2; rw [EM_40, h40]; exact .inr rfl
 by_cases e3 : j = 61
 ·subst e3; rw [EM_61, h61]; exact .inr rfl
 by_cases e5 : j = nm 4 s.1
 ·subst e5; rw [EM_r5, hrow, rowsOf_push k1]; exact .inr rfl
 refine .inr ?_
 rw [hoth j e1 e2 e3 e5]
 by_cases hj : 100 ≤ j
 ·rw [EM_top hj, EM_top hj]
  refine Option.ext fun o => ?_
  constructor
  ·intro h
   obtain ⟨z, ⟨rfl, e⟩ | ⟨rfl, e⟩ | ⟨rfl, e⟩ | ⟨rfl, e⟩ | ⟨rfl, e⟩⟩ := grid_cases h
   ·unfold edG; rw [grid_1, e]
   ·unfold edG; rw [grid_2, e]
   ·unfold edG; rw [grid_3, e]
   ·unfold edG; rw [grid_4, e]
   ·unfold edG; rw [grid_5, ← e]; exact (rowsOf_congr (k2 z fun q => e5 (by rw [q]))).symm
  ·intro h
   obtain ⟨z, ⟨rfl, e⟩ | ⟨rfl, e⟩ | ⟨rfl, e⟩ | ⟨rfl, e⟩ | ⟨rfl, e⟩⟩ := grid_cases h
   ·unfold edG; rw [grid_1, e]
   ·unfold edG; rw [grid_2, e]
   ·unfold edG; rw [grid_3, e]
   ·unfold edG; rw [grid_4, e]
   ·unfold edG; rw [grid_5, ← e]; exact rowsOf_congr (k2 z fun q => e5 (by rw [q]))
 ·have hG : edG E S (F ++ [s]) j = edG E S F j := by rw [edG, edG, grid_lo (by omega), grid_lo (by omega)]
  simp only [EM, edS, edF, soM, edX, upd_app, hG, e1, e2, e3, if_false]
theorem EM_put2 {q q' : Nat} {o o' : O} {m : Mem} (hq : m q = some o) (hx : EM E S F W x' q = some o) (hq' : m q' = some o') (hx' : EM E S F W x' q' = some o') (hoth : ∀ j, j ≠ q → j ≠ q' → m j = EM E S F W x j) (hsame : ∀ j, j ≠ q → j ≠ q' → EM E S F W x' j = EM E S F W x j) : MLe m (EM E S F W x') := fun j => by
 by_cases e : j = q
 ·subst e; rw [hq, hx]; exact .inr rfl
 by_cases e' : j = q'
 ·subst e'; rw [hq', hx']; exact .inr rfl
 ·rw [hoth j e e', hsame j e e']; exact .inr rfl
set_option maxRecDepth 100000 in
theorem cloneI_ok (rows : List (List C)) (hrow : ∀ x ∈ rows, x.length = 1) (hlen : rows.length ≤ 17592186044416) (m : Mem) : COk Try.prog 30 [.c (.sl rows)] m (.c (.sl rows)) :=
 clone_ok (size := 1) (bytes := 8) Try.laysClone30 ⟨_, _, rfl, rfl, rfl, rfl, rfl⟩ (by decide) (enters_of Try.func30 (by kernel_rfl) rfl) rows hrow (by omega) m
end
end V
end Go.Proofs.Ytmhchhmhpoldhaa
end
