/- Joined by my own program, in build order: So2, Sf, SfR. -/
import Derived.Test.YtmhchhmhpoldhaaB5
import Derived.Test.YtmhchhmhpoldhaaB4
import Derived.Shelf.GgSortFunc.InsertionK
import Derived.Sort.Row
import Derived.Sort.Grow
import Derived.Test.YtmhchhmhpoldhaaB1
set_option linter.unusedVariables false
set_option linter.unusedSimpArgs false
namespace Go.Proofs.Ytmhchhmhpoldhaa
theorem zb6q1 {p : Prop} (h : p := by (simp only [exb, Nat.reduceAdd, Nat.reduceLeDiff, Nat.reduceEqDiff, Nat.reduceMul, Int.reduceToNat, reduceIte, Int.reduceLE, Int.reduceNeg, SB_52, SB_53, SB_55, SB_56, SB_57, SB_58, nms, nm_small, nm_small', Nat.reduceLT, SB_r1 (E := E'), SB_r1 (E := E' ++ [e]), rowsOf_kill, ez, rowsOf_congr (q6 z ez), p1, p2, p3, p4, q7, fr1, fr2, hput])) : p := h
theorem zb6q2 {p : Prop} (h : p := by (simp only [exb, Nat.reduceAdd, Nat.reduceLeDiff, Nat.reduceEqDiff, Nat.reduceMul, Int.reduceToNat, reduceIte, Int.reduceLE, Int.reduceNeg, SB_52, SB_53, SB_55, SB_56, SB_57, SB_58, nms, nm_small, nm_small', Nat.reduceLT, SB_r1 (E := E'), SB_r1 (E := E' ++ [e]), rowsOf_kill, ez, rowsOf_congr (q6 z ez), p1, p2, p3, p4, q7, hput])) : p := h
theorem zb6q3 {p : Prop} (h : p := by (simp only [exb, Nat.reduceAdd, Nat.reduceLeDiff, Nat.reduceEqDiff, Nat.reduceMul, Int.reduceToNat, reduceIte, Int.reduceLE, Int.reduceNeg, SB_52, SB_53, SB_55, SB_56, SB_57, SB_58, nms, nm_small, nm_small', Nat.reduceLT, SB_r2 (E := E'), SB_r2 (E := E' ++ [e]), rowsOf_kill, p1, p2, p3, p4, q7, fr1, fr2, hput])) : p := h
theorem zb6q4 {p : Prop} (h : p := by (simp only [exb, Nat.reduceAdd, Nat.reduceLeDiff, Nat.reduceEqDiff, Nat.reduceMul, Int.reduceToNat, reduceIte, Int.reduceLE, Int.reduceNeg, SB_52, SB_53, SB_55, SB_56, SB_57, SB_58, nms, nm_small, nm_small', Nat.reduceLT, SB_r3 (E := E'), SB_r3 (E := E' ++ [e]), rowsOf_kill, p1, p2, p3, p4, q7, fr1, fr2, hput])) : p := h
theorem zb6q5 {p : Prop} (h : p := by (simp only [exb, Nat.reduceAdd, Nat.reduceLeDiff, Nat.reduceEqDiff, Nat.reduceMul, Int.reduceToNat, reduceIte, Int.reduceLE, Int.reduceNeg, SB_52, SB_53, SB_55, SB_56, SB_57, SB_58, nms, nm_small, nm_small', Nat.reduceLT, SB_r1 (E := E'), SB_r1 (E := E' ++ [e]), rowsOf_kill, p1, p2, p3, p4, q7, fr1, fr2, hput])) : p := h
theorem zb6q6 {p : Prop} (h : p := by (simp only [exb, Nat.reduceAdd, Nat.reduceLeDiff, Nat.reduceEqDiff, Nat.reduceMul, Int.reduceToNat, reduceIte, Int.reduceLE, Int.reduceNeg, SB_52, SB_53, SB_55, SB_56, SB_57, SB_58, nms, nm_small, nm_small', Nat.reduceLT, SB_r1 (E := E' ++ [e]), rowsOf_push q5, hval, p1, p2, p3, p4, q7, fr1, fr2, hput])) : p := h
theorem zb6q7 {p : Prop} (h : p := by (simp only [exb, Nat.reduceAdd, Nat.reduceLeDiff, Nat.reduceEqDiff, Nat.reduceMul, Int.reduceToNat, reduceIte, Int.reduceLE, Int.reduceNeg, SB_52, SB_53, SB_55, SB_56, SB_57, SB_58, nms, nm_small, nm_small', Nat.reduceLT, SB_r2 (E := E'), SB_r2 (E := E' ++ [e]), rowsOf_kill, p1, p2, p3, p4, q7, hput])) : p := h
theorem zb6q8 {p : Prop} (h : p := by (simp only [exb, Nat.reduceAdd, Nat.reduceLeDiff, Nat.reduceEqDiff, Nat.reduceMul, Int.reduceToNat, reduceIte, Int.reduceLE, Int.reduceNeg, SB_52, SB_53, SB_55, SB_56, SB_57, SB_58, nms, nm_small, nm_small', Nat.reduceLT, SB_r3 (E := E'), SB_r3 (E := E' ++ [e]), rowsOf_kill, p1, p2, p3, p4, q7, hput])) : p := h
theorem zb6q9 {p : Prop} (h : p := by (simp only [exb, Nat.reduceAdd, Nat.reduceLeDiff, Nat.reduceEqDiff, Nat.reduceMul, Int.reduceToNat, reduceIte, Int.reduceLE, Int.reduceNeg, SB_52, SB_53, SB_55, SB_56, SB_57, SB_58, nms, nm_small, nm_small', Nat.reduceLT, SB_r1 (E := E'), SB_r1 (E := E' ++ [e]), rowsOf_kill, p1, p2, p3, p4, q7, hput])) : p := h
theorem zb6q10 {p : Prop} (h : p := by (simp only [exb, Nat.reduceAdd, Nat.reduceLeDiff, Nat.reduceEqDiff, Nat.reduceMul, Int.reduceToNat, reduceIte, Int.reduceLE, Int.reduceNeg, SB_52, SB_53, SB_55, SB_56, SB_57, SB_58, nms, nm_small, nm_small', Nat.reduceLT, SB_r1 (E := E' ++ [e]), rowsOf_push q5, hval, p1, p2, p3, p4, q7, hput])) : p := h
theorem zb6q11 {p : Prop} (h : p := by (simp only [exec1, exb, Nat.reduceAdd, Nat.reduceLeDiff, Nat.reduceEqDiff, Nat.reduceMul, Int.reduceToNat, reduceIte, Int.reduceLE, Int.reduceNeg, SB_52, SB_53, SB_55, SB_56, SB_57, SB_58, nms, nm_small, nm_small', Nat.reduceLT, q1, hmX, n1, n2, Bool.false_eq_true]; rfl)) : p := h
theorem zb6q12 {p : Prop} (h : p := by (simp only [exb, Nat.reduceAdd, Nat.reduceLeDiff, Nat.reduceEqDiff, Nat.reduceMul, Int.reduceToNat, reduceIte, Int.reduceLE, Int.reduceNeg, SB_52, SB_53, SB_55, SB_56, SB_57, SB_58, nms, nm_small, nm_small', Nat.reduceLT, q1, hmX, n1, n2, Bool.false_eq_true] <;> rfl)) : p := h
theorem zb6q13 {p : Prop} (h : p := by (simp only [exb, Nat.reduceAdd, Nat.reduceLeDiff, Nat.reduceEqDiff, Nat.reduceMul, Int.reduceToNat, reduceIte, Int.reduceLE, Int.reduceNeg, SB_52, SB_53, SB_55, SB_56, SB_57, SB_58, nms, nm_small, nm_small', Nat.reduceLT, q1, hmX, n1, n2, Bool.false_eq_true]; done)) : p := h
theorem zb6q14 {p : Prop} (h : p := by (simp only [exec1, exb, Nat.reduceAdd, Nat.reduceLeDiff, Nat.reduceEqDiff, Nat.reduceMul, Int.reduceToNat, reduceIte, Int.reduceLE, Int.reduceNeg, SB_52, SB_53, SB_55, SB_56, SB_57, SB_58, nms, nm_small, nm_small', Nat.reduceLT, q1, hmX, n1, Bool.false_eq_true]; rfl)) : p := h
theorem zb6q15 {p : Prop} (h : p := by (simp only [exec1, exb, Nat.reduceAdd, Nat.reduceLeDiff, Nat.reduceEqDiff, Nat.reduceMul, Int.reduceToNat, reduceIte, Int.reduceLE, Int.reduceNeg, SB_52, SB_53, SB_55, SB_56, SB_57, SB_58, nms, nm_small, nm_small', Nat.reduceLT, q1, hmX, n4, Bool.false_eq_true]; rfl)) : p := h
theorem zb6q16 {p : Prop} (h : p := by (simp only [exec1, exb, Nat.reduceAdd, Nat.reduceLeDiff, Nat.reduceEqDiff, Nat.reduceMul, Int.reduceToNat, reduceIte, Int.reduceLE, Int.reduceNeg, SB_52, SB_53, SB_55, SB_56, SB_57, SB_58, nms, nm_small, nm_small', Nat.reduceLT, q1, hmX, n5, Bool.false_eq_true]; rfl)) : p := h
theorem zb6q17 {p : Prop} (h : p := by (simp only [exb, Nat.reduceAdd, Nat.reduceLeDiff, Nat.reduceEqDiff, Nat.reduceMul, Int.reduceToNat, reduceIte, Int.reduceLE, Int.reduceNeg, SB_52, SB_53, SB_55, SB_56, SB_57, SB_58, nms, nm_small, nm_small', Nat.reduceLT, q1, hmX, n1, n2, Bool.false_eq_true]; rfl)) : p := h
theorem zb6q18 {p : Prop} (h : p := by (simp only [exb, Nat.reduceAdd, Nat.reduceLeDiff, Nat.reduceEqDiff, Nat.reduceMul, Int.reduceToNat, reduceIte, Int.reduceLE, Int.reduceNeg, SB_52, SB_53, SB_55, SB_56, SB_57, SB_58, nms, nm_small, nm_small', Nat.reduceLT, q1, hmX, n1, Bool.false_eq_true] <;> rfl)) : p := h
theorem zb6q19 {p : Prop} (h : p := by (simp only [exb, Nat.reduceAdd, Nat.reduceLeDiff, Nat.reduceEqDiff, Nat.reduceMul, Int.reduceToNat, reduceIte, Int.reduceLE, Int.reduceNeg, SB_52, SB_53, SB_55, SB_56, SB_57, SB_58, nms, nm_small, nm_small', Nat.reduceLT, q1, hmX, n4, Bool.false_eq_true] <;> rfl)) : p := h
theorem zb6q20 {p : Prop} (h : p := by (simp only [exb, Nat.reduceAdd, Nat.reduceLeDiff, Nat.reduceEqDiff, Nat.reduceMul, Int.reduceToNat, reduceIte, Int.reduceLE, Int.reduceNeg, SB_52, SB_53, SB_55, SB_56, SB_57, SB_58, nms, nm_small, nm_small', Nat.reduceLT, q1, hmX, n5, Bool.false_eq_true] <;> rfl)) : p := h
theorem zb6q21 {p : Prop} (h : p := by (simp only [exb, Nat.reduceAdd, Nat.reduceLeDiff, Nat.reduceEqDiff, Nat.reduceMul, Int.reduceToNat, reduceIte, Int.reduceLE, Int.reduceNeg, SB_52, SB_53, SB_55, SB_56, SB_57, SB_58, nms, nm_small, nm_small', Nat.reduceLT, q1, hmX, n1, Bool.false_eq_true]; done)) : p := h
theorem zb6q22 {p : Prop} (h : p := by (simp only [exb, Nat.reduceAdd, Nat.reduceLeDiff, Nat.reduceEqDiff, Nat.reduceMul, Int.reduceToNat, reduceIte, Int.reduceLE, Int.reduceNeg, SB_52, SB_53, SB_55, SB_56, SB_57, SB_58, nms, nm_small, nm_small', Nat.reduceLT, q1, hmX, n4, Bool.false_eq_true]; done)) : p := h
theorem zb6q23 {p : Prop} (h : p := by (simp only [exb, Nat.reduceAdd, Nat.reduceLeDiff, Nat.reduceEqDiff, Nat.reduceMul, Int.reduceToNat, reduceIte, Int.reduceLE, Int.reduceNeg, SB_52, SB_53, SB_55, SB_56, SB_57, SB_58, nms, nm_small, nm_small', Nat.reduceLT, q1, hmX, n5, Bool.false_eq_true]; done)) : p := h
theorem zb6q24 {p : Prop} (h : p := by (simp only [exb, Nat.reduceAdd, Nat.reduceLeDiff, Nat.reduceEqDiff, Nat.reduceMul, Int.reduceToNat, reduceIte, Int.reduceLE, Int.reduceNeg, SB_52, SB_53, SB_55, SB_56, SB_57, SB_58, nms, nm_small, nm_small', Nat.reduceLT, q1, hmX, n1, Bool.false_eq_true]; rfl)) : p := h
theorem zb6q25 {p : Prop} (h : p := by (simp only [exb, Nat.reduceAdd, Nat.reduceLeDiff, Nat.reduceEqDiff, Nat.reduceMul, Int.reduceToNat, reduceIte, Int.reduceLE, Int.reduceNeg, SB_52, SB_53, SB_55, SB_56, SB_57, SB_58, nms, nm_small, nm_small', Nat.reduceLT, q1, hmX, n4, Bool.false_eq_true]; rfl)) : p := h
theorem zb6q26 {p : Prop} (h : p := by (simp only [exb, Nat.reduceAdd, Nat.reduceLeDiff, Nat.reduceEqDiff, Nat.reduceMul, Int.reduceToNat, reduceIte, Int.reduceLE, Int.reduceNeg, SB_52, SB_53, SB_55, SB_56, SB_57, SB_58, nms, nm_small, nm_small', Nat.reduceLT, at_map hx', hcx, n1, n2, n4, n5]; rfl)) : p := h
theorem zb6q27 {p : Prop} (h : p := by (simp only [exb, Nat.reduceAdd, Nat.reduceLeDiff, Nat.reduceEqDiff, Nat.reduceMul, Int.reduceToNat, reduceIte, Int.reduceLE, Int.reduceNeg, SB_52, SB_53, SB_55, SB_56, SB_57, SB_58, nms, nm_small, nm_small', Nat.reduceLT, q1, hmX, n5, Bool.false_eq_true]; rfl)) : p := h
theorem zb6q28 {p : Prop} (h : p := by (simp only [exb, Nat.reduceAdd, Nat.reduceLeDiff, Nat.reduceEqDiff, Nat.reduceMul, Int.reduceToNat, reduceIte, Int.reduceLE, Int.reduceNeg, SB_52, SB_53, SB_55, SB_56, SB_57, SB_58, nms, nm_small, nm_small', Nat.reduceLT, n1, n2, n4, n5]; rfl)) : p := h
theorem zb6q29 {p : Prop} (h : p := by (simp only [exb, Nat.reduceAdd, Nat.reduceLeDiff, Nat.reduceEqDiff, Nat.reduceMul, Int.reduceToNat, reduceIte, Int.reduceLE, Int.reduceNeg, SB_52, SB_53, SB_55, SB_56, SB_57, SB_58, nms, nm_small, nm_small', Nat.reduceLT]; rfl)) : p := h
theorem zb6q30 {p : Prop} (h : p := by (first | (simp only [upd_app, killS_app, A.kill, entry_zero, entry_succ, Nat.reduceEqDiff, reduceIte, wrap_succ (show k + 1 < 9223372036854775808 by omega)]; done) | rfl)) : p := h
theorem zb6q31 {p : Prop} (h : p := by (first | (simp only [upd_app, killS_app, A.kill, entry_zero, entry_succ, Nat.reduceEqDiff, reduceIte]; done) | rfl)) : p := h
theorem zb6q32 {p : Prop} (h : p := by (have := selL_len (key := kP) (v := vP) E' (e.f); simp only [List.length_cons, List.length_nil]; omega)) : p := h
theorem zb6q33 {p : Prop} (h : p := by (have := selL_len (key := kC) (v := vC) E' (e.t); simp only [List.length_cons, List.length_nil]; omega)) : p := h
theorem zb6q34 {p : Prop} (h : p := by (have := selL_len (key := kR) (v := vR) E' (e.f); simp only [List.length_cons, List.length_nil]; omega)) : p := h
theorem zb6q35 {p : Prop} (h : p := by (simp only [upd_app, nm_small, Nat.reduceLT, reduceIte])) : p := h
theorem zb6q36 {p : Prop} (h : p := by (simp only [upd_app, Nat.reduceEqDiff, reduceIte])) : p := h
theorem zb6q37 {p : Prop} (h : p := by (simp [A.ids, SB_52, SB_53])) : p := h
end Go.Proofs.Ytmhchhmhpoldhaa
section
namespace Go.Proofs.Ytmhchhmhpoldhaa
namespace V
open Go.RowKit G
set_option maxRecDepth 100000 in
set_option maxHeartbeats 8000000 in
theorem sorted_ok (n : Nat) (hn : n ≤ 100000) (E : List SE) (hlen : E.length ≤ 100000000) (hE : ∀ e ∈ E, e.f < n ∧ e.t < n) :
  CallE Try.prog 50 [.c (.sl ((E.map castS).map cS))] Mem.nil [] (.aggA [.map 56, .map 57, .map 58]) (soM E (soG E)) := by
 refine (ok_eff tab_ok [] Try.func50 (by kernel_rfl) rfl rfl (by rfl) (by rfl) ?ids ?res ?sub ?wfm (fun hWF Rr hkeep => ?_))
 case ids => intro a ha j hj; simp at ha; subst ha; simp [A.ids] at hj
 case res => intro j hj; simp [A.ids, A1.ids] at hj; rcases hj with rfl | rfl | rfl <;> simp [soM, upd_app]
 case sub => intro j hj; cases hj
 case wfm => exact fun _ => soM_self hn hE
 have hk0 : ∀ j, ¬ Rr.keep j := fun j hj => by rw [hkeep] at hj; cases hj.1
 have kept : ∀ (m : Mem) (j : Nat), Rr.keep j → (m j).isSome = true := fun m j hj => absurd hj (hk0 j)
 have hlE : (E.map castS).length = E.length := List.length_map _
 repeat (first | refine W.seq ?_ | refine W.block ?_ | refine W.skip ?_ | refine W.exit ?_ | refine W.region tab_ok 50 (by decide) (exec_run zb6q29) ?_)
 refine W.loop (ι := Nat) (fun k => ⟨upd (upd (upd (upd (upd (fun _ => .top) 2 (.ptr 52 0)) 3 (.ptr 53 0)) 10 (.c (.sl ((E.map castS).map cS)))) 11 (.c (.int .i64 E.length))) 12 (.c (.int .i64 k)), soB (E.take k)⟩) (fun k => k ≤ E.length) (fun k => E.length - k) 0 ?start (Nat.zero_le _) ?round
 case start =>
  have hE'' : ∀ x ∈ E.take 0, x.f < n ∧ x.t < n := fun x hx => by simp at hx
  refine le_mk ?sle ?mle ?swf ?mwf (kept _) (by rfl)
  case swf => repeat (first | exact swf_top _ | refine swf_upd ?_ zb6q37)
  case sle => repeat (first | exact sle_top _ | exact sle_refl _ | refine sle_upd ?_ zb6q31)
  case mwf => exact soB_wf hn hE''
  case mle =>
   exact mle_so (by rw [SB_52]; rfl) (by rw [SB_53]; rfl) (by rw [SB_56]; rfl) (by rw [SB_57]; rfl) (by rw [SB_58]; rfl) (fun z => .inl (by rw [SB_r1]; rfl)) (fun z => .inl (by rw [SB_r2]; rfl)) (fun z => .inl (by rw [SB_r3]; rfl))
 case round =>
  intro k hk
  obtain ⟨E', hE'⟩ : ∃ E', E' = E.take k := ⟨_, rfl⟩
  have hsub : ∀ e ∈ E', e ∈ E := fun e he => by rw [hE'] at he; exact List.mem_of_mem_take he
  have hl' : E'.length ≤ E.length := by rw [hE', List.length_take]; omega
  rw [← hE']
  repeat (first | refine W.seq ?_ | refine W.block ?_ | refine W.skip ?_ | refine W.exit ?_ | refine W.region tab_ok 50 (by decide) (exec_run zb6q29) ?_)
  refine W.cond rfl ?_ ?_
  ·intro hlt
   simp only [decide_eq_true_eq, Int.ofNat_lt] at hlt
   obtain ⟨e, hx⟩ : ∃ e, E[k]? = some e := ⟨_, List.getElem?_eq_getElem hlt⟩
   have hmem := List.mem_of_getElem? hx
   obtain ⟨hf, ht⟩ := hE e hmem
   have hx' : (E.map castS)[k]? = some (castS e) := at_map hx
   have hcx : cS (castS e) = [.int .i64 (e.f : Int), .int .i64 (e.t : Int), .int .i64 (e.k : Int), .int .i64 (e.s : Int)] := rfl
   have htk : E.take (k + 1) = E' ++ [e] := by rw [List.take_add_one, hx, hE']; rfl
   have hEp : ∀ x ∈ E', x.f < n ∧ x.t < n := fun x hx => hE x (hsub x hx)
   have hE'' : ∀ x ∈ E' ++ [e], x.f < n ∧ x.t < n := fun x hx => by
    rcases List.mem_append.1 hx with h | h
    ·exact hE x (hsub x h)
    ·rw [List.mem_singleton.1 h]; exact ⟨hf, ht⟩
   by_cases k1 : e.k = 1
   ·have hkP : kP e = some e.f := by unfold kP; rw [if_pos (.inl k1)]
    have hkC : kC e = none := by unfold kC; rw [if_neg (by omega)]
    have hkR : kR e = none := by unfold kR; rw [if_neg (by omega)]
    have n1 : (e.k : Int) = 1 := by omega
    obtain ⟨p1, p2⟩ := sel_other (l := E') (v := vC) hkC
    obtain ⟨p3, p4⟩ := sel_other (l := E') (v := vR) hkR
    obtain ⟨q5, q6, q7⟩ := sel_this (l := E') (v := vP) hkP
    have hval : vP e = [.int .i64 (e.t : Int)] := rfl
    have fr1 := far_raw (b := 1) (id := nm 0 e.f) (ks := ksL kC E') (fun z _ => by unfold nm; omega)
    have fr2 := far_raw (b := 2) (id := nm 0 e.f) (ks := ksL kR E') (fun z _ => by unfold nm; omega)
    repeat (first | refine W.seq ?_ | refine W.block ?_ | refine W.skip ?_ | refine W.exit ?_ | refine W.region tab_ok 50 (by decide) (exec_run (by simp only [exb, Nat.reduceAdd, Nat.reduceLeDiff, Nat.reduceEqDiff, Nat.reduceMul, Int.reduceToNat, reduceIte, Int.reduceLE, Int.reduceNeg, SB_52, SB_53, SB_55, SB_56, SB_57, SB_58, nms, nm_small, nm_small', Nat.reduceLT, at_map hx', hcx, n1, eq_self]; rfl)) ?_)
    refine W.cond rfl ?_ ?_
    ·intro _
     repeat (first | refine W.seq ?_ | refine W.block ?_ | refine W.skip ?_ | refine W.exit ?_ | refine W.region tab_ok 50 (by decide) (exec_run (by simp only [exb, Nat.reduceAdd, Nat.reduceLeDiff, Nat.reduceEqDiff, Nat.reduceMul, Int.reduceToNat, reduceIte, Int.reduceLE, Int.reduceNeg, n1, eq_self]; rfl)) ?_)
     refine W.cond rfl ?_ ?_
     ·intro _
      (repeat (first | refine W.seq ?_ | refine W.block ?_ | refine W.skip ?_ | refine W.exit ?_))
      by_cases hin : e.f ∈ ksL kP E'
      ·skip
       obtain ⟨q, q1, q2, q3⟩ := find_there (b := 0) (ks_nodup E') hin
       rw [if_pos hin] at q7
       have hrow := rowsOf_ne (ty := 3) (e := 1) ((mem_ks (v := vP)).1 hin)
       have hput : putE (.c (.int .i64 (e.f : Int))) (.own (nm 0 e.f)) ((keysE 0 (ksL kP E')).map fun pp => (pp.1.kill (nm 0 e.f), pp.2.kill (nm 0 e.f))) (some (q, .top)) = keysE 0 (ksL kP E') := q3
       have hmX := (SB_r1 (E := E')).trans hrow
       refine W.regionX tab_ok follows_mixed ⟨upd (upd (upd (upd (upd (fun _ => .top) 2 (.ptr 52 0)) 3 (.ptr 53 0)) 10 (.c (.sl ((E.map castS).map cS)))) 11 (.c (.int .i64 E.length))) 12 (.c (.int .i64 k)), soB (E' ++ [e])⟩ ?_ ?_
       ·as_aux_lemma =>
        refine rx_field (base := 50) tab_ok (by decide) (by decide +kernel) 0 rfl rfl zb6q24 rfl rfl (by decide +kernel) (by decide +kernel) ⟨_, zb6q14, ?_⟩
        refine rx_field (base := 50) tab_ok (by decide) (by decide +kernel) 2 rfl rfl zb6q24 rfl rfl (by decide +kernel) (by decide +kernel) ⟨_, zb6q14, ?_⟩
        refine rx_runs (base := 50) tab_ok (by decide) ?_
        repeat' (first
         | exact trivial
         | refine runsw_end (by decide +kernel) ?_
         | refine first_exec 4 (by decide +kernel) ⟨_, zb6q14, ?_⟩
         | refine first_exec 5 (by decide +kernel) ⟨_, zb6q14, ?_⟩
         | refine first_exec 6 (by decide +kernel) ⟨_, zb6q14, ?_⟩
         | refine first_exec 7 (by decide +kernel) ⟨_, zb6q14, ?_⟩
         | refine first_exec 8 (by decide +kernel) ⟨_, zb6q14, ?_⟩
         | refine first_exec 9 (by decide +kernel) ⟨_, zb6q14, ?_⟩
         | refine first_exec 10 (by decide +kernel) ⟨_, zb6q14, ?_⟩
         | refine first_exec 11 (by decide +kernel) ⟨_, zb6q14, ?_⟩
         | refine first_exec 1 (by decide +kernel) ⟨_, zb6q14, ?_⟩
         | refine first_exec 3 (by decide +kernel) ⟨_, zb6q14, ?_⟩
         | refine runs_node [1, 3, 12] (by decide +kernel) (by decide) ?_
         | refine runs_node [1, 12] (by decide +kernel) (by decide) ?_
         | refine runs_node [3, 12] (by decide +kernel) (by decide) ?_
         | refine runs_node [12] (by decide +kernel) (by decide) ?_
         | refine runs_node [13] (by decide +kernel) (by decide) ?_
         | refine step_exec ⟨_, zb6q14, ?_⟩ ?_
         | refine step_put tab_ok (ents := ((keysE 0 (ksL kP E')).map fun pp => (pp.1.kill (nm 0 e.f), pp.2.kill (nm 0 e.f)))) rfl rfl (.inl rfl) rfl zb6q18 zb6q21 rfl zb6q18 (by rfl) zb6q18 q2 ?_ ?_
         | refine step_append tab_ok rfl (nm 0 e.f) true rfl rfl rfl rfl rfl rfl zb6q21 zb6q24 zb6q24 rfl rfl rfl rfl (hk0 _) (fun z hz => by simp at hz; subst hz; rfl) zb6q32 (by decide) ?_ ?_)
        all_goals
         refine le_mk ?sle ?mle ?swf ?mwf (kept _) (by rfl)
         case swf => repeat (first | exact swf_top _ | refine swf_upd ?_ zb6q37)
         case sle => repeat (first | exact sle_top _ | exact sle_refl _ | refine sle_upd ?_ zb6q31)
         case mwf => exact soB_wf hn hE''
         case mle =>
          refine mle_so ?_ ?_ ?_ ?_ ?_ (fun z => ?f1) (fun z => ?f2) (fun z => ?f3)
          ·simp only [exb, Nat.reduceAdd, Nat.reduceLeDiff, Nat.reduceEqDiff, Nat.reduceMul, Int.reduceToNat, reduceIte, Int.reduceLE, Int.reduceNeg, SB_52, SB_53, SB_55, SB_56, SB_57, SB_58, nms, nm_small, nm_small', Nat.reduceLT, p1, p2, p3, p4, q7, fr1, fr2, hput]
          ·simp only [exb, Nat.reduceAdd, Nat.reduceLeDiff, Nat.reduceEqDiff, Nat.reduceMul, Int.reduceToNat, reduceIte, Int.reduceLE, Int.reduceNeg, SB_52, SB_53, SB_55, SB_56, SB_57, SB_58, nms, nm_small, nm_small', Nat.reduceLT, p1, p2, p3, p4, q7, fr1, fr2, hput]
          ·simp only [exb, Nat.reduceAdd, Nat.reduceLeDiff, Nat.reduceEqDiff, Nat.reduceMul, Int.reduceToNat, reduceIte, Int.reduceLE, Int.reduceNeg, SB_52, SB_53, SB_55, SB_56, SB_57, SB_58, nms, nm_small, nm_small', Nat.reduceLT, p1, p2, p3, p4, q7, fr1, fr2, hput]
          ·simp only [exb, Nat.reduceAdd, Nat.reduceLeDiff, Nat.reduceEqDiff, Nat.reduceMul, Int.reduceToNat, reduceIte, Int.reduceLE, Int.reduceNeg, SB_52, SB_53, SB_55, SB_56, SB_57, SB_58, nms, nm_small, nm_small', Nat.reduceLT, p1, p2, p3, p4, q7, fr1, fr2, hput]
          ·simp only [exb, Nat.reduceAdd, Nat.reduceLeDiff, Nat.reduceEqDiff, Nat.reduceMul, Int.reduceToNat, reduceIte, Int.reduceLE, Int.reduceNeg, SB_52, SB_53, SB_55, SB_56, SB_57, SB_58, nms, nm_small, nm_small', Nat.reduceLT, p1, p2, p3, p4, q7, fr1, fr2, hput]
          case f2 =>
           exact .inr zb6q3
          case f3 =>
           exact .inr zb6q4
          case f1 =>
           by_cases ez : z = e.f
           ·subst ez
            exact .inr zb6q6
           ·exact .inr zb6q1
       ·intro st' hle
        refine W.weaken hle ?_
        repeat (first | refine W.seq ?_ | refine W.block ?_ | refine W.skip ?_ | refine W.exit ?_ | refine W.region tab_ok 50 (by decide) (exec_run zb6q29) ?_)
        refine ⟨k + 1, hlt, by omega, ?_⟩
        rw [htk]
        refine le_mk ?sle ?mle ?swf ?mwf (kept _) (by rfl)
        case swf => repeat (first | exact swf_top _ | refine swf_upd ?_ zb6q37)
        case sle => repeat (first | exact sle_top _ | exact sle_refl _ | refine sle_upd ?_ zb6q30)
        case mwf => exact soB_wf hn hE''
        case mle => exact mle_refl _
      ·have q1 := find_absent (id := 0) (b := 0) hin
       rw [if_neg hin] at q7
       have hnil : selL kP vP E' e.f = [] := Classical.byContradiction fun h => hin (mem_ks.2 h)
       have hrow := rowsOf_nil (ty := 3) (e := 1) hnil
       rw [hnil] at q5
       have hput := putE_new (b := 0) (z := e.f) (ks := ksL kP E')
       have hmX := (SB_r1 (E := E')).trans hrow
       refine W.regionX tab_ok follows_mixed ⟨upd (upd (upd (upd (upd (fun _ => .top) 2 (.ptr 52 0)) 3 (.ptr 53 0)) 10 (.c (.sl ((E.map castS).map cS)))) 11 (.c (.int .i64 E.length))) 12 (.c (.int .i64 k)), soB (E' ++ [e])⟩ ?_ ?_
       ·as_aux_lemma =>
        refine rx_field (base := 50) tab_ok (by decide) (by decide +kernel) 0 rfl rfl zb6q24 rfl rfl (by decide +kernel) (by decide +kernel) ⟨_, zb6q14, ?_⟩
        refine rx_field (base := 50) tab_ok (by decide) (by decide +kernel) 2 rfl rfl zb6q24 rfl rfl (by decide +kernel) (by decide +kernel) ⟨_, zb6q14, ?_⟩
        refine rx_runs (base := 50) tab_ok (by decide) ?_
        repeat' (first
         | exact trivial
         | refine runsw_end (by decide +kernel) ?_
         | refine first_exec 4 (by decide +kernel) ⟨_, zb6q14, ?_⟩
         | refine first_exec 5 (by decide +kernel) ⟨_, zb6q14, ?_⟩
         | refine first_exec 6 (by decide +kernel) ⟨_, zb6q14, ?_⟩
         | refine first_exec 7 (by decide +kernel) ⟨_, zb6q14, ?_⟩
         | refine first_exec 8 (by decide +kernel) ⟨_, zb6q14, ?_⟩
         | refine first_exec 9 (by decide +kernel) ⟨_, zb6q14, ?_⟩
         | refine first_exec 10 (by decide +kernel) ⟨_, zb6q14, ?_⟩
         | refine first_exec 11 (by decide +kernel) ⟨_, zb6q14, ?_⟩
         | refine first_exec 1 (by decide +kernel) ⟨_, zb6q14, ?_⟩
         | refine first_exec 3 (by decide +kernel) ⟨_, zb6q14, ?_⟩
         | refine runs_node [1, 3, 12] (by decide +kernel) (by decide) ?_
         | refine runs_node [1, 12] (by decide +kernel) (by decide) ?_
         | refine runs_node [3, 12] (by decide +kernel) (by decide) ?_
         | refine runs_node [12] (by decide +kernel) (by decide) ?_
         | refine runs_node [13] (by decide +kernel) (by decide) ?_
         | refine step_exec ⟨_, zb6q14, ?_⟩ ?_
         | refine step_put tab_ok (ents := (keysE 0 (ksL kP E'))) rfl rfl (.inl rfl) rfl zb6q18 zb6q21 rfl zb6q18 (by rfl) zb6q18 q1 ?_ ?_
         | refine step_appendNil tab_ok rfl (nm 0 e.f) true rfl rfl rfl rfl rfl rfl zb6q21 zb6q21 zb6q24 rfl rfl rfl rfl (fun z hz => by simp at hz; subst hz; rfl) zb6q32 (by decide) ?_ ?_)
        all_goals
         refine le_mk ?sle ?mle ?swf ?mwf (kept _) (by rfl)
         case swf => repeat (first | exact swf_top _ | refine swf_upd ?_ zb6q37)
         case sle => repeat (first | exact sle_top _ | exact sle_refl _ | refine sle_upd ?_ zb6q31)
         case mwf => exact soB_wf hn hE''
         case mle =>
          refine mle_so ?_ ?_ ?_ ?_ ?_ (fun z => ?f1) (fun z => ?f2) (fun z => ?f3)
          ·simp only [exb, Nat.reduceAdd, Nat.reduceLeDiff, Nat.reduceEqDiff, Nat.reduceMul, Int.reduceToNat, reduceIte, Int.reduceLE, Int.reduceNeg, SB_52, SB_53, SB_55, SB_56, SB_57, SB_58, nms, nm_small, nm_small', Nat.reduceLT, p1, p2, p3, p4, q7, hput]
          ·simp only [exb, Nat.reduceAdd, Nat.reduceLeDiff, Nat.reduceEqDiff, Nat.reduceMul, Int.reduceToNat, reduceIte, Int.reduceLE, Int.reduceNeg, SB_52, SB_53, SB_55, SB_56, SB_57, SB_58, nms, nm_small, nm_small', Nat.reduceLT, p1, p2, p3, p4, q7, hput]
          ·simp only [exb, Nat.reduceAdd, Nat.reduceLeDiff, Nat.reduceEqDiff, Nat.reduceMul, Int.reduceToNat, reduceIte, Int.reduceLE, Int.reduceNeg, SB_52, SB_53, SB_55, SB_56, SB_57, SB_58, nms, nm_small, nm_small', Nat.reduceLT, p1, p2, p3, p4, q7, hput]
          ·simp only [exb, Nat.reduceAdd, Nat.reduceLeDiff, Nat.reduceEqDiff, Nat.reduceMul, Int.reduceToNat, reduceIte, Int.reduceLE, Int.reduceNeg, SB_52, SB_53, SB_55, SB_56, SB_57, SB_58, nms, nm_small, nm_small', Nat.reduceLT, p1, p2, p3, p4, q7, hput]
          ·simp only [exb, Nat.reduceAdd, Nat.reduceLeDiff, Nat.reduceEqDiff, Nat.reduceMul, Int.reduceToNat, reduceIte, Int.reduceLE, Int.reduceNeg, SB_52, SB_53, SB_55, SB_56, SB_57, SB_58, nms, nm_small, nm_small', Nat.reduceLT, p1, p2, p3, p4, q7, hput]
          case f2 =>
           exact .inr zb6q7
          case f3 =>
           exact .inr zb6q8
          case f1 =>
           by_cases ez : z = e.f
           ·subst ez
            exact .inr zb6q10
           ·exact .inr zb6q2
       ·intro st' hle
        refine W.weaken hle ?_
        repeat (first | refine W.seq ?_ | refine W.block ?_ | refine W.skip ?_ | refine W.exit ?_ | refine W.region tab_ok 50 (by decide) (exec_run zb6q29) ?_)
        refine ⟨k + 1, hlt, by omega, ?_⟩
        rw [htk]
        refine le_mk ?sle ?mle ?swf ?mwf (kept _) (by rfl)
        case swf => repeat (first | exact swf_top _ | refine swf_upd ?_ zb6q37)
        case sle => repeat (first | exact sle_top _ | exact sle_refl _ | refine sle_upd ?_ zb6q30)
        case mwf => exact soB_wf hn hE''
        case mle => exact mle_refl _
     ·intro h; cases h
    ·intro h; cases h
   by_cases k2 : e.k = 2
   ·have hkP : kP e = some e.f := by unfold kP; rw [if_pos (.inr k2)]
    have hkC : kC e = none := by unfold kC; rw [if_neg (by omega)]
    have hkR : kR e = none := by unfold kR; rw [if_neg (by omega)]
    have n1 : ¬ (e.k : Int) = 1 := by omega
    have n2 : (e.k : Int) = 2 := by omega
    obtain ⟨p1, p2⟩ := sel_other (l := E') (v := vC) hkC
    obtain ⟨p3, p4⟩ := sel_other (l := E') (v := vR) hkR
    obtain ⟨q5, q6, q7⟩ := sel_this (l := E') (v := vP) hkP
    have hval : vP e = [.int .i64 (e.t : Int)] := rfl
    have fr1 := far_raw (b := 1) (id := nm 0 e.f) (ks := ksL kC E') (fun z _ => by unfold nm; omega)
    have fr2 := far_raw (b := 2) (id := nm 0 e.f) (ks := ksL kR E') (fun z _ => by unfold nm; omega)
    repeat (first | refine W.seq ?_ | refine W.block ?_ | refine W.skip ?_ | refine W.exit ?_ | refine W.region tab_ok 50 (by decide) (exec_run (by simp only [exb, Nat.reduceAdd, Nat.reduceLeDiff, Nat.reduceEqDiff, Nat.reduceMul, Int.reduceToNat, reduceIte, Int.reduceLE, Int.reduceNeg, SB_52, SB_53, SB_55, SB_56, SB_57, SB_58, nms, nm_small, nm_small', Nat.reduceLT, at_map hx', hcx, n1, n2]; rfl)) ?_)
    refine W.cond rfl ?_ ?_
    ·intro h; cases h
    intro _
    repeat (first | refine W.seq ?_ | refine W.block ?_ | refine W.skip ?_ | refine W.exit ?_ | refine W.region tab_ok 50 (by decide) (exec_run (by simp only [exb, Nat.reduceAdd, Nat.reduceLeDiff, Nat.reduceEqDiff, Nat.reduceMul, Int.reduceToNat, reduceIte, Int.reduceLE, Int.reduceNeg, n1, n2, eq_self]; rfl)) ?_)
    refine W.cond rfl ?_ ?_
    ·intro _
     (repeat (first | refine W.seq ?_ | refine W.block ?_ | refine W.skip ?_ | refine W.exit ?_))
     by_cases hin : e.f ∈ ksL kP E'
     ·skip
      obtain ⟨q, q1, q2, q3⟩ := find_there (b := 0) (ks_nodup E') hin
      rw [if_pos hin] at q7
      have hrow := rowsOf_ne (ty := 3) (e := 1) ((mem_ks (v := vP)).1 hin)
      have hput : putE (.c (.int .i64 (e.f : Int))) (.own (nm 0 e.f)) ((keysE 0 (ksL kP E')).map fun pp => (pp.1.kill (nm 0 e.f), pp.2.kill (nm 0 e.f))) (some (q, .top)) = keysE 0 (ksL kP E') := q3
      have hmX := (SB_r1 (E := E')).trans hrow
      refine W.regionX tab_ok follows_mixed ⟨upd (upd (upd (upd (upd (fun _ => .top) 2 (.ptr 52 0)) 3 (.ptr 53 0)) 10 (.c (.sl ((E.map castS).map cS)))) 11 (.c (.int .i64 E.length))) 12 (.c (.int .i64 k)), soB (E' ++ [e])⟩ ?_ ?_
      ·as_aux_lemma =>
       refine rx_field (base := 50) tab_ok (by decide) (by decide +kernel) 0 rfl rfl zb6q17 rfl rfl (by decide +kernel) (by decide +kernel) ⟨_, zb6q11, ?_⟩
       refine rx_field (base := 50) tab_ok (by decide) (by decide +kernel) 2 rfl rfl zb6q17 rfl rfl (by decide +kernel) (by decide +kernel) ⟨_, zb6q11, ?_⟩
       refine rx_runs (base := 50) tab_ok (by decide) ?_
       repeat' (first
        | exact trivial
        | refine runsw_end (by decide +kernel) ?_
        | refine first_exec 4 (by decide +kernel) ⟨_, zb6q11, ?_⟩
        | refine first_exec 5 (by decide +kernel) ⟨_, zb6q11, ?_⟩
        | refine first_exec 6 (by decide +kernel) ⟨_, zb6q11, ?_⟩
        | refine first_exec 7 (by decide +kernel) ⟨_, zb6q11, ?_⟩
        | refine first_exec 8 (by decide +kernel) ⟨_, zb6q11, ?_⟩
        | refine first_exec 9 (by decide +kernel) ⟨_, zb6q11, ?_⟩
        | refine first_exec 10 (by decide +kernel) ⟨_, zb6q11, ?_⟩
        | refine first_exec 11 (by decide +kernel) ⟨_, zb6q11, ?_⟩
        | refine first_exec 1 (by decide +kernel) ⟨_, zb6q11, ?_⟩
        | refine first_exec 3 (by decide +kernel) ⟨_, zb6q11, ?_⟩
        | refine runs_node [1, 3, 12] (by decide +kernel) (by decide) ?_
        | refine runs_node [1, 12] (by decide +kernel) (by decide) ?_
        | refine runs_node [3, 12] (by decide +kernel) (by decide) ?_
        | refine runs_node [12] (by decide +kernel) (by decide) ?_
        | refine runs_node [13] (by decide +kernel) (by decide) ?_
        | refine step_exec ⟨_, zb6q11, ?_⟩ ?_
        | refine step_put tab_ok (ents := ((keysE 0 (ksL kP E')).map fun pp => (pp.1.kill (nm 0 e.f), pp.2.kill (nm 0 e.f)))) rfl rfl (.inl rfl) rfl zb6q12 zb6q13 rfl zb6q12 (by rfl) zb6q12 q2 ?_ ?_
        | refine step_append tab_ok rfl (nm 0 e.f) true rfl rfl rfl rfl rfl rfl zb6q13 zb6q17 zb6q17 rfl rfl rfl rfl (hk0 _) (fun z hz => by simp at hz; subst hz; rfl) zb6q32 (by decide) ?_ ?_)
       all_goals
        refine le_mk ?sle ?mle ?swf ?mwf (kept _) (by rfl)
        case swf => repeat (first | exact swf_top _ | refine swf_upd ?_ zb6q37)
        case sle => repeat (first | exact sle_top _ | exact sle_refl _ | refine sle_upd ?_ zb6q31)
        case mwf => exact soB_wf hn hE''
        case mle =>
         refine mle_so ?_ ?_ ?_ ?_ ?_ (fun z => ?f1) (fun z => ?f2) (fun z => ?f3)
         ·simp only [exb, Nat.reduceAdd, Nat.reduceLeDiff, Nat.reduceEqDiff, Nat.reduceMul, Int.reduceToNat, reduceIte, Int.reduceLE, Int.reduceNeg, SB_52, SB_53, SB_55, SB_56, SB_57, SB_58, nms, nm_small, nm_small', Nat.reduceLT, p1, p2, p3, p4, q7, fr1, fr2, hput]
         ·simp only [exb, Nat.reduceAdd, Nat.reduceLeDiff, Nat.reduceEqDiff, Nat.reduceMul, Int.reduceToNat, reduceIte, Int.reduceLE, Int.reduceNeg, SB_52, SB_53, SB_55, SB_56, SB_57, SB_58, nms, nm_small, nm_small', Nat.reduceLT, p1, p2, p3, p4, q7, fr1, fr2, hput]
         ·simp only [exb, Nat.reduceAdd, Nat.reduceLeDiff, Nat.reduceEqDiff, Nat.reduceMul, Int.reduceToNat, reduceIte, Int.reduceLE, Int.reduceNeg, SB_52, SB_53, SB_55, SB_56, SB_57, SB_58, nms, nm_small, nm_small', Nat.reduceLT, p1, p2, p3, p4, q7, fr1, fr2, hput]
         ·simp only [exb, Nat.reduceAdd, Nat.reduceLeDiff, Nat.reduceEqDiff, Nat.reduceMul, Int.reduceToNat, reduceIte, Int.reduceLE, Int.reduceNeg, SB_52, SB_53, SB_55, SB_56, SB_57, SB_58, nms, nm_small, nm_small', Nat.reduceLT, p1, p2, p3, p4, q7, fr1, fr2, hput]
         ·simp only [exb, Nat.reduceAdd, Nat.reduceLeDiff, Nat.reduceEqDiff, Nat.reduceMul, Int.reduceToNat, reduceIte, Int.reduceLE, Int.reduceNeg, SB_52, SB_53, SB_55, SB_56, SB_57, SB_58, nms, nm_small, nm_small', Nat.reduceLT, p1, p2, p3, p4, q7, fr1, fr2, hput]
         case f2 =>
          exact .inr zb6q3
         case f3 =>
          exact .inr zb6q4
         case f1 =>
          by_cases ez : z = e.f
          ·subst ez
           exact .inr zb6q6
          ·exact .inr zb6q1
      ·intro st' hle
       refine W.weaken hle ?_
       repeat (first | refine W.seq ?_ | refine W.block ?_ | refine W.skip ?_ | refine W.exit ?_ | refine W.region tab_ok 50 (by decide) (exec_run zb6q29) ?_)
       refine ⟨k + 1, hlt, by omega, ?_⟩
       rw [htk]
       refine le_mk ?sle ?mle ?swf ?mwf (kept _) (by rfl)
       case swf => repeat (first | exact swf_top _ | refine swf_upd ?_ zb6q37)
       case sle => repeat (first | exact sle_top _ | exact sle_refl _ | refine sle_upd ?_ zb6q30)
       case mwf => exact soB_wf hn hE''
       case mle => exact mle_refl _
     ·have q1 := find_absent (id := 0) (b := 0) hin
      rw [if_neg hin] at q7
      have hnil : selL kP vP E' e.f = [] := Classical.byContradiction fun h => hin (mem_ks.2 h)
      have hrow := rowsOf_nil (ty := 3) (e := 1) hnil
      rw [hnil] at q5
      have hput := putE_new (b := 0) (z := e.f) (ks := ksL kP E')
      have hmX := (SB_r1 (E := E')).trans hrow
      refine W.regionX tab_ok follows_mixed ⟨upd (upd (upd (upd (upd (fun _ => .top) 2 (.ptr 52 0)) 3 (.ptr 53 0)) 10 (.c (.sl ((E.map castS).map cS)))) 11 (.c (.int .i64 E.length))) 12 (.c (.int .i64 k)), soB (E' ++ [e])⟩ ?_ ?_
      ·as_aux_lemma =>
       refine rx_field (base := 50) tab_ok (by decide) (by decide +kernel) 0 rfl rfl zb6q17 rfl rfl (by decide +kernel) (by decide +kernel) ⟨_, zb6q11, ?_⟩
       refine rx_field (base := 50) tab_ok (by decide) (by decide +kernel) 2 rfl rfl zb6q17 rfl rfl (by decide +kernel) (by decide +kernel) ⟨_, zb6q11, ?_⟩
       refine rx_runs (base := 50) tab_ok (by decide) ?_
       repeat' (first
        | exact trivial
        | refine runsw_end (by decide +kernel) ?_
        | refine first_exec 4 (by decide +kernel) ⟨_, zb6q11, ?_⟩
        | refine first_exec 5 (by decide +kernel) ⟨_, zb6q11, ?_⟩
        | refine first_exec 6 (by decide +kernel) ⟨_, zb6q11, ?_⟩
        | refine first_exec 7 (by decide +kernel) ⟨_, zb6q11, ?_⟩
        | refine first_exec 8 (by decide +kernel) ⟨_, zb6q11, ?_⟩
        | refine first_exec 9 (by decide +kernel) ⟨_, zb6q11, ?_⟩
        | refine first_exec 10 (by decide +kernel) ⟨_, zb6q11, ?_⟩
        | refine first_exec 11 (by decide +kernel) ⟨_, zb6q11, ?_⟩
        | refine first_exec 1 (by decide +kernel) ⟨_, zb6q11, ?_⟩
        | refine first_exec 3 (by decide +kernel) ⟨_, zb6q11, ?_⟩
        | refine runs_node [1, 3, 12] (by decide +kernel) (by decide) ?_
        | refine runs_node [1, 12] (by decide +kernel) (by decide) ?_
        | refine runs_node [3, 12] (by decide +kernel) (by decide) ?_
        | refine runs_node [12] (by decide +kernel) (by decide) ?_
        | refine runs_node [13] (by decide +kernel) (by decide) ?_
        | refine step_exec ⟨_, zb6q11, ?_⟩ ?_
        | refine step_put tab_ok (ents := (keysE 0 (ksL kP E'))) rfl rfl (.inl rfl) rfl zb6q12 zb6q13 rfl zb6q12 (by rfl) zb6q12 q1 ?_ ?_
        | refine step_appendNil tab_ok rfl (nm 0 e.f) true rfl rfl rfl rfl rfl rfl zb6q13 zb6q13 zb6q17 rfl rfl rfl rfl (fun z hz => by simp at hz; subst hz; rfl) zb6q32 (by decide) ?_ ?_)
       all_goals
        refine le_mk ?sle ?mle ?swf ?mwf (kept _) (by rfl)
        case swf => repeat (first | exact swf_top _ | refine swf_upd ?_ zb6q37)
        case sle => repeat (first | exact sle_top _ | exact sle_refl _ | refine sle_upd ?_ zb6q31)
        case mwf => exact soB_wf hn hE''
        case mle =>
         refine mle_so ?_ ?_ ?_ ?_ ?_ (fun z => ?f1) (fun z => ?f2) (fun z => ?f3)
         ·simp only [exb, Nat.reduceAdd, Nat.reduceLeDiff, Nat.reduceEqDiff, Nat.reduceMul, Int.reduceToNat, reduceIte, Int.reduceLE, Int.reduceNeg, SB_52, SB_53, SB_55, SB_56, SB_57, SB_58, nms, nm_small, nm_small', Nat.reduceLT, p1, p2, p3, p4, q7, hput]
         ·simp only [exb, Nat.reduceAdd, Nat.reduceLeDiff, Nat.reduceEqDiff, Nat.reduceMul, Int.reduceToNat, reduceIte, Int.reduceLE, Int.reduceNeg, SB_52, SB_53, SB_55, SB_56, SB_57, SB_58, nms, nm_small, nm_small', Nat.reduceLT, p1, p2, p3, p4, q7, hput]
         ·simp only [exb, Nat.reduceAdd, Nat.reduceLeDiff, Nat.reduceEqDiff, Nat.reduceMul, Int.reduceToNat, reduceIte, Int.reduceLE, Int.reduceNeg, SB_52, SB_53, SB_55, SB_56, SB_57, SB_58, nms, nm_small, nm_small', Nat.reduceLT, p1, p2, p3, p4, q7, hput]
         ·simp only [exb, Nat.reduceAdd, Nat.reduceLeDiff, Nat.reduceEqDiff, Nat.reduceMul, Int.reduceToNat, reduceIte, Int.reduceLE, Int.reduceNeg, SB_52, SB_53, SB_55, SB_56, SB_57, SB_58, nms, nm_small, nm_small', Nat.reduceLT, p1, p2, p3, p4, q7, hput]
         ·simp only [exb, Nat.reduceAdd, Nat.reduceLeDiff, Nat.reduceEqDiff, Nat.reduceMul, Int.reduceToNat, reduceIte, Int.reduceLE, Int.reduceNeg, SB_52, SB_53, SB_55, SB_56, SB_57, SB_58, nms, nm_small, nm_small', Nat.reduceLT, p1, p2, p3, p4, q7, hput]
         case f2 =>
          exact .inr zb6q7
         case f3 =>
          exact .inr zb6q8
         case f1 =>
          by_cases ez : z = e.f
          ·subst ez
           exact .inr zb6q10
          ·exact .inr zb6q2
      ·intro st' hle
       refine W.weaken hle ?_
       repeat (first | refine W.seq ?_ | refine W.block ?_ | refine W.skip ?_ | refine W.exit ?_ | refine W.region tab_ok 50 (by decide) (exec_run zb6q29) ?_)
       refine ⟨k + 1, hlt, by omega, ?_⟩
       rw [htk]
       refine le_mk ?sle ?mle ?swf ?mwf (kept _) (by rfl)
       case swf => repeat (first | exact swf_top _ | refine swf_upd ?_ zb6q37)
       case sle => repeat (first | exact sle_top _ | exact sle_refl _ | refine sle_upd ?_ zb6q30)
       case mwf => exact soB_wf hn hE''
       case mle => exact mle_refl _
    ·intro h; cases h
   have hkP : kP e = none := by unfold kP; rw [if_neg (by omega)]
   have n1 : ¬ (e.k : Int) = 1 := by omega
   have n2 : ¬ (e.k : Int) = 2 := by omega
   by_cases k4 : e.k = 4
   ·have hkC : kC e = some e.t := by unfold kC; rw [if_pos k4]
    have hkR : kR e = none := by unfold kR; rw [if_neg (by omega)]
    have n4 : (e.k : Int) = 4 := by omega
    obtain ⟨p1, p2⟩ := sel_other (l := E') (v := vP) hkP
    obtain ⟨p3, p4⟩ := sel_other (l := E') (v := vR) hkR
    obtain ⟨q5, q6, q7⟩ := sel_this (l := E') (v := vC) hkC
    have hval : vC e = [.int .i64 (e.f : Int), .int .i64 (e.s : Int)] := rfl
    have fr1 := far_raw (b := 0) (id := nm 1 e.t) (ks := ksL kP E') (fun z _ => by unfold nm; omega)
    have fr2 := far_raw (b := 2) (id := nm 1 e.t) (ks := ksL kR E') (fun z _ => by unfold nm; omega)
    repeat (first | refine W.seq ?_ | refine W.block ?_ | refine W.skip ?_ | refine W.exit ?_ | refine W.region tab_ok 50 (by decide) (exec_run (by simp only [exb, Nat.reduceAdd, Nat.reduceLeDiff, Nat.reduceEqDiff, Nat.reduceMul, Int.reduceToNat, reduceIte, Int.reduceLE, Int.reduceNeg, SB_52, SB_53, SB_55, SB_56, SB_57, SB_58, nms, nm_small, nm_small', Nat.reduceLT, at_map hx', hcx, n1, n2, n4]; rfl)) ?_)
    refine W.cond rfl ?_ ?_
    ·intro h; cases h
    intro _
    repeat (first | refine W.seq ?_ | refine W.block ?_ | refine W.skip ?_ | refine W.exit ?_ | refine W.region tab_ok 50 (by decide) (exec_run (by simp only [exb, Nat.reduceAdd, Nat.reduceLeDiff, Nat.reduceEqDiff, Nat.reduceMul, Int.reduceToNat, reduceIte, Int.reduceLE, Int.reduceNeg, n1, n2, n4]; rfl)) ?_)
    refine W.cond rfl ?_ ?_
    ·intro h; cases h
    intro _
    repeat (first | refine W.seq ?_ | refine W.block ?_ | refine W.skip ?_ | refine W.exit ?_ | refine W.region tab_ok 50 (by decide) (exec_run (by simp only [exb, Nat.reduceAdd, Nat.reduceLeDiff, Nat.reduceEqDiff, Nat.reduceMul, Int.reduceToNat, reduceIte, Int.reduceLE, Int.reduceNeg, n1, n2, n4, eq_self]; rfl)) ?_)
    refine W.cond rfl ?_ ?_
    ·intro _
     (repeat (first | refine W.seq ?_ | refine W.block ?_ | refine W.skip ?_ | refine W.exit ?_))
     by_cases hin : e.t ∈ ksL kC E'
     ·skip
      obtain ⟨q, q1, q2, q3⟩ := find_there (b := 1) (ks_nodup E') hin
      rw [if_pos hin] at q7
      have hrow := rowsOf_ne (ty := 92) (e := 2) ((mem_ks (v := vC)).1 hin)
      have hput : putE (.c (.int .i64 (e.t : Int))) (.own (nm 1 e.t)) ((keysE 1 (ksL kC E')).map fun pp => (pp.1.kill (nm 1 e.t), pp.2.kill (nm 1 e.t))) (some (q, .top)) = keysE 1 (ksL kC E') := q3
      have hmX := (SB_r2 (E := E')).trans hrow
      refine W.regionX tab_ok follows_mixed ⟨upd (upd (upd (upd (upd (fun _ => .top) 2 (.ptr 52 0)) 3 (.ptr 53 0)) 10 (.c (.sl ((E.map castS).map cS)))) 11 (.c (.int .i64 E.length))) 12 (.c (.int .i64 k)), soB (E' ++ [e])⟩ ?_ ?_
      ·as_aux_lemma =>
       refine rx_field (base := 50) tab_ok (by decide) (by decide +kernel) 0 rfl rfl zb6q25 rfl rfl (by decide +kernel) (by decide +kernel) ⟨_, zb6q15, ?_⟩
       refine rx_field (base := 50) tab_ok (by decide) (by decide +kernel) 2 rfl rfl zb6q25 rfl rfl (by decide +kernel) (by decide +kernel) ⟨_, zb6q15, ?_⟩
       refine rx_runs (base := 50) tab_ok (by decide) ?_
       repeat' (first
        | exact trivial
        | refine runsw_end (by decide +kernel) ?_
        | refine first_exec 4 (by decide +kernel) ⟨_, zb6q15, ?_⟩
        | refine first_exec 5 (by decide +kernel) ⟨_, zb6q15, ?_⟩
        | refine first_exec 6 (by decide +kernel) ⟨_, zb6q15, ?_⟩
        | refine first_exec 7 (by decide +kernel) ⟨_, zb6q15, ?_⟩
        | refine first_exec 8 (by decide +kernel) ⟨_, zb6q15, ?_⟩
        | refine first_exec 9 (by decide +kernel) ⟨_, zb6q15, ?_⟩
        | refine first_exec 10 (by decide +kernel) ⟨_, zb6q15, ?_⟩
        | refine first_exec 11 (by decide +kernel) ⟨_, zb6q15, ?_⟩
        | refine first_exec 12 (by decide +kernel) ⟨_, zb6q15, ?_⟩
        | refine first_exec 13 (by decide +kernel) ⟨_, zb6q15, ?_⟩
        | refine first_exec 14 (by decide +kernel) ⟨_, zb6q15, ?_⟩
        | refine first_exec 1 (by decide +kernel) ⟨_, zb6q15, ?_⟩
        | refine first_exec 3 (by decide +kernel) ⟨_, zb6q15, ?_⟩
        | refine runs_node [1, 3, 15] (by decide +kernel) (by decide) ?_
        | refine runs_node [1, 15] (by decide +kernel) (by decide) ?_
        | refine runs_node [3, 15] (by decide +kernel) (by decide) ?_
        | refine runs_node [15] (by decide +kernel) (by decide) ?_
        | refine runs_node [16] (by decide +kernel) (by decide) ?_
        | refine step_exec ⟨_, zb6q15, ?_⟩ ?_
        | refine step_put tab_ok (ents := ((keysE 1 (ksL kC E')).map fun pp => (pp.1.kill (nm 1 e.t), pp.2.kill (nm 1 e.t)))) rfl rfl (.inl rfl) rfl zb6q19 zb6q22 rfl zb6q19 (by rfl) zb6q19 q2 ?_ ?_
        | refine step_append tab_ok rfl (nm 1 e.t) true rfl rfl rfl rfl rfl rfl zb6q22 zb6q25 zb6q25 rfl rfl rfl rfl (hk0 _) (fun z hz => by simp at hz; subst hz; rfl) zb6q33 (by decide) ?_ ?_)
       all_goals
        refine le_mk ?sle ?mle ?swf ?mwf (kept _) (by rfl)
        case swf => repeat (first | exact swf_top _ | refine swf_upd ?_ zb6q37)
        case sle => repeat (first | exact sle_top _ | exact sle_refl _ | refine sle_upd ?_ zb6q31)
        case mwf => exact soB_wf hn hE''
        case mle =>
         refine mle_so ?_ ?_ ?_ ?_ ?_ (fun z => ?f1) (fun z => ?f2) (fun z => ?f3)
         ·simp only [exb, Nat.reduceAdd, Nat.reduceLeDiff, Nat.reduceEqDiff, Nat.reduceMul, Int.reduceToNat, reduceIte, Int.reduceLE, Int.reduceNeg, SB_52, SB_53, SB_55, SB_56, SB_57, SB_58, nms, nm_small, nm_small', Nat.reduceLT, p1, p2, p3, p4, q7, fr1, fr2, hput]
         ·simp only [exb, Nat.reduceAdd, Nat.reduceLeDiff, Nat.reduceEqDiff, Nat.reduceMul, Int.reduceToNat, reduceIte, Int.reduceLE, Int.reduceNeg, SB_52, SB_53, SB_55, SB_56, SB_57, SB_58, nms, nm_small, nm_small', Nat.reduceLT, p1, p2, p3, p4, q7, fr1, fr2, hput]
         ·simp only [exb, Nat.reduceAdd, Nat.reduceLeDiff, Nat.reduceEqDiff, Nat.reduceMul, Int.reduceToNat, reduceIte, Int.reduceLE, Int.reduceNeg, SB_52, SB_53, SB_55, SB_56, SB_57, SB_58, nms, nm_small, nm_small', Nat.reduceLT, p1, p2, p3, p4, q7, fr1, fr2, hput]
         ·simp only [exb, Nat.reduceAdd, Nat.reduceLeDiff, Nat.reduceEqDiff, Nat.reduceMul, Int.reduceToNat, reduceIte, Int.reduceLE, Int.reduceNeg, SB_52, SB_53, SB_55, SB_56, SB_57, SB_58, nms, nm_small, nm_small', Nat.reduceLT, p1, p2, p3, p4, q7, fr1, fr2, hput]
         ·simp only [exb, Nat.reduceAdd, Nat.reduceLeDiff, Nat.reduceEqDiff, Nat.reduceMul, Int.reduceToNat, reduceIte, Int.reduceLE, Int.reduceNeg, SB_52, SB_53, SB_55, SB_56, SB_57, SB_58, nms, nm_small, nm_small', Nat.reduceLT, p1, p2, p3, p4, q7, fr1, fr2, hput]
         case f1 =>
          exact .inr zb6q5
         case f3 =>
          exact .inr zb6q4
         case f2 =>
          by_cases ez : z = e.t
          ·subst ez
           exact .inr (by simp only [exb, Nat.reduceAdd, Nat.reduceLeDiff, Nat.reduceEqDiff, Nat.reduceMul, Int.reduceToNat, reduceIte, Int.reduceLE, Int.reduceNeg, SB_52, SB_53, SB_55, SB_56, SB_57, SB_58, nms, nm_small, nm_small', Nat.reduceLT, SB_r2 (E := E' ++ [e]), rowsOf_push q5, hval, p1, p2, p3, p4, q7, fr1, fr2, hput])
          ·exact .inr (by simp only [exb, Nat.reduceAdd, Nat.reduceLeDiff, Nat.reduceEqDiff, Nat.reduceMul, Int.reduceToNat, reduceIte, Int.reduceLE, Int.reduceNeg, SB_52, SB_53, SB_55, SB_56, SB_57, SB_58, nms, nm_small, nm_small', Nat.reduceLT, SB_r2 (E := E'), SB_r2 (E := E' ++ [e]), rowsOf_kill, ez, rowsOf_congr (q6 z ez), p1, p2, p3, p4, q7, fr1, fr2, hput])
      ·intro st' hle
       refine W.weaken hle ?_
       repeat (first | refine W.seq ?_ | refine W.block ?_ | refine W.skip ?_ | refine W.exit ?_ | refine W.region tab_ok 50 (by decide) (exec_run zb6q29) ?_)
       refine ⟨k + 1, hlt, by omega, ?_⟩
       rw [htk]
       refine le_mk ?sle ?mle ?swf ?mwf (kept _) (by rfl)
       case swf => repeat (first | exact swf_top _ | refine swf_upd ?_ zb6q37)
       case sle => repeat (first | exact sle_top _ | exact sle_refl _ | refine sle_upd ?_ zb6q30)
       case mwf => exact soB_wf hn hE''
       case mle => exact mle_refl _
     ·have q1 := find_absent (id := 0) (b := 1) hin
      rw [if_neg hin] at q7
      have hnil : selL kC vC E' e.t = [] := Classical.byContradiction fun h => hin (mem_ks.2 h)
      have hrow := rowsOf_nil (ty := 92) (e := 2) hnil
      rw [hnil] at q5
      have hput := putE_new (b := 1) (z := e.t) (ks := ksL kC E')
      have hmX := (SB_r2 (E := E')).trans hrow
      refine W.regionX tab_ok follows_mixed ⟨upd (upd (upd (upd (upd (fun _ => .top) 2 (.ptr 52 0)) 3 (.ptr 53 0)) 10 (.c (.sl ((E.map castS).map cS)))) 11 (.c (.int .i64 E.length))) 12 (.c (.int .i64 k)), soB (E' ++ [e])⟩ ?_ ?_
      ·as_aux_lemma =>
       refine rx_field (base := 50) tab_ok (by decide) (by decide +kernel) 0 rfl rfl zb6q25 rfl rfl (by decide +kernel) (by decide +kernel) ⟨_, zb6q15, ?_⟩
       refine rx_field (base := 50) tab_ok (by decide) (by decide +kernel) 2 rfl rfl zb6q25 rfl rfl (by decide +kernel) (by decide +kernel) ⟨_, zb6q15, ?_⟩
       refine rx_runs (base := 50) tab_ok (by decide) ?_
       repeat' (first
        | exact trivial
        | refine runsw_end (by decide +kernel) ?_
        | refine first_exec 4 (by decide +kernel) ⟨_, zb6q15, ?_⟩
        | refine first_exec 5 (by decide +kernel) ⟨_, zb6q15, ?_⟩
        | refine first_exec 6 (by decide +kernel) ⟨_, zb6q15, ?_⟩
        | refine first_exec 7 (by decide +kernel) ⟨_, zb6q15, ?_⟩
        | refine first_exec 8 (by decide +kernel) ⟨_, zb6q15, ?_⟩
        | refine first_exec 9 (by decide +kernel) ⟨_, zb6q15, ?_⟩
        | refine first_exec 10 (by decide +kernel) ⟨_, zb6q15, ?_⟩
        | refine first_exec 11 (by decide +kernel) ⟨_, zb6q15, ?_⟩
        | refine first_exec 12 (by decide +kernel) ⟨_, zb6q15, ?_⟩
        | refine first_exec 13 (by decide +kernel) ⟨_, zb6q15, ?_⟩
        | refine first_exec 14 (by decide +kernel) ⟨_, zb6q15, ?_⟩
        | refine first_exec 1 (by decide +kernel) ⟨_, zb6q15, ?_⟩
        | refine first_exec 3 (by decide +kernel) ⟨_, zb6q15, ?_⟩
        | refine runs_node [1, 3, 15] (by decide +kernel) (by decide) ?_
        | refine runs_node [1, 15] (by decide +kernel) (by decide) ?_
        | refine runs_node [3, 15] (by decide +kernel) (by decide) ?_
        | refine runs_node [15] (by decide +kernel) (by decide) ?_
        | refine runs_node [16] (by decide +kernel) (by decide) ?_
        | refine step_exec ⟨_, zb6q15, ?_⟩ ?_
        | refine step_put tab_ok (ents := (keysE 1 (ksL kC E'))) rfl rfl (.inl rfl) rfl zb6q19 zb6q22 rfl zb6q19 (by rfl) zb6q19 q1 ?_ ?_
        | refine step_appendNil tab_ok rfl (nm 1 e.t) true rfl rfl rfl rfl rfl rfl zb6q22 zb6q22 zb6q25 rfl rfl rfl rfl (fun z hz => by simp at hz; subst hz; rfl) zb6q33 (by decide) ?_ ?_)
       all_goals
        refine le_mk ?sle ?mle ?swf ?mwf (kept _) (by rfl)
        case swf => repeat (first | exact swf_top _ | refine swf_upd ?_ zb6q37)
        case sle => repeat (first | exact sle_top _ | exact sle_refl _ | refine sle_upd ?_ zb6q31)
        case mwf => exact soB_wf hn hE''
        case mle =>
         refine mle_so ?_ ?_ ?_ ?_ ?_ (fun z => ?f1) (fun z => ?f2) (fun z => ?f3)
         ·simp only [exb, Nat.reduceAdd, Nat.reduceLeDiff, Nat.reduceEqDiff, Nat.reduceMul, Int.reduceToNat, reduceIte, Int.reduceLE, Int.reduceNeg, SB_52, SB_53, SB_55, SB_56, SB_57, SB_58, nms, nm_small, nm_small', Nat.reduceLT, p1, p2, p3, p4, q7, hput]
         ·simp only [exb, Nat.reduceAdd, Nat.reduceLeDiff, Nat.reduceEqDiff, Nat.reduceMul, Int.reduceToNat, reduceIte, Int.reduceLE, Int.reduceNeg, SB_52, SB_53, SB_55, SB_56, SB_57, SB_58, nms, nm_small, nm_small', Nat.reduceLT, p1, p2, p3, p4, q7, hput]
         ·simp only [exb, Nat.reduceAdd, Nat.reduceLeDiff, Nat.reduceEqDiff, Nat.reduceMul, Int.reduceToNat, reduceIte, Int.reduceLE, Int.reduceNeg, SB_52, SB_53, SB_55, SB_56, SB_57, SB_58, nms, nm_small, nm_small', Nat.reduceLT, p1, p2, p3, p4, q7, hput]
         ·simp only [exb, Nat.reduceAdd, Nat.reduceLeDiff, Nat.reduceEqDiff, Nat.reduceMul, Int.reduceToNat, reduceIte, Int.reduceLE, Int.reduceNeg, SB_52, SB_53, SB_55, SB_56, SB_57, SB_58, nms, nm_small, nm_small', Nat.reduceLT, p1, p2, p3, p4, q7, hput]
         ·simp only [exb, Nat.reduceAdd, Nat.reduceLeDiff, Nat.reduceEqDiff, Nat.reduceMul, Int.reduceToNat, reduceIte, Int.reduceLE, Int.reduceNeg, SB_52, SB_53, SB_55, SB_56, SB_57, SB_58, nms, nm_small, nm_small', Nat.reduceLT, p1, p2, p3, p4, q7, hput]
         case f1 =>
          exact .inr zb6q9
         case f3 =>
          exact .inr zb6q8
         case f2 =>
          by_cases ez : z = e.t
          ·subst ez
           exact .inr (by simp only [exb, Nat.reduceAdd, Nat.reduceLeDiff, Nat.reduceEqDiff, Nat.reduceMul, Int.reduceToNat, reduceIte, Int.reduceLE, Int.reduceNeg, SB_52, SB_53, SB_55, SB_56, SB_57, SB_58, nms, nm_small, nm_small', Nat.reduceLT, SB_r2 (E := E' ++ [e]), rowsOf_push q5, hval, p1, p2, p3, p4, q7, hput])
          ·exact .inr (by simp only [exb, Nat.reduceAdd, Nat.reduceLeDiff, Nat.reduceEqDiff, Nat.reduceMul, Int.reduceToNat, reduceIte, Int.reduceLE, Int.reduceNeg, SB_52, SB_53, SB_55, SB_56, SB_57, SB_58, nms, nm_small, nm_small', Nat.reduceLT, SB_r2 (E := E'), SB_r2 (E := E' ++ [e]), rowsOf_kill, ez, rowsOf_congr (q6 z ez), p1, p2, p3, p4, q7, hput])
      ·intro st' hle
       refine W.weaken hle ?_
       repeat (first | refine W.seq ?_ | refine W.block ?_ | refine W.skip ?_ | refine W.exit ?_ | refine W.region tab_ok 50 (by decide) (exec_run zb6q29) ?_)
       refine ⟨k + 1, hlt, by omega, ?_⟩
       rw [htk]
       refine le_mk ?sle ?mle ?swf ?mwf (kept _) (by rfl)
       case swf => repeat (first | exact swf_top _ | refine swf_upd ?_ zb6q37)
       case sle => repeat (first | exact sle_top _ | exact sle_refl _ | refine sle_upd ?_ zb6q30)
       case mwf => exact soB_wf hn hE''
       case mle => exact mle_refl _
    ·intro h; cases h
   have hkC : kC e = none := by unfold kC; rw [if_neg k4]
   have n4 : ¬ (e.k : Int) = 4 := by omega
   by_cases k5 : e.k = 5
   ·have hkR : kR e = some e.f := by unfold kR; rw [if_pos k5]
    have n5 : (e.k : Int) = 5 := by omega
    have hcx5 : cS (castS e) = [.int .i64 (e.f : Int), .int .i64 (e.t : Int), .int .i64 5, .int .i64 (e.s : Int)] := by rw [hcx, n5]
    obtain ⟨p1, p2⟩ := sel_other (l := E') (v := vP) hkP
    obtain ⟨p3, p4⟩ := sel_other (l := E') (v := vC) hkC
    obtain ⟨q5, q6, q7⟩ := sel_this (l := E') (v := vR) hkR
    have hval : vR e = [.int .i64 (e.f : Int), .int .i64 (e.t : Int), .int .i64 5, .int .i64 (e.s : Int)] := by unfold vR; rw [hcx, n5]
    have fr1 := far_raw (b := 0) (id := nm 2 e.f) (ks := ksL kP E') (fun z _ => by unfold nm; omega)
    have fr2 := far_raw (b := 1) (id := nm 2 e.f) (ks := ksL kC E') (fun z _ => by unfold nm; omega)
    repeat (first | refine W.seq ?_ | refine W.block ?_ | refine W.skip ?_ | refine W.exit ?_ | refine W.region tab_ok 50 (by decide) (exec_run zb6q26) ?_)
    refine W.cond rfl ?_ ?_
    ·intro h; cases h
    intro _
    repeat (first | refine W.seq ?_ | refine W.block ?_ | refine W.skip ?_ | refine W.exit ?_ | refine W.region tab_ok 50 (by decide) (exec_run zb6q28) ?_)
    refine W.cond rfl ?_ ?_
    ·intro h; cases h
    intro _
    repeat (first | refine W.seq ?_ | refine W.block ?_ | refine W.skip ?_ | refine W.exit ?_ | refine W.region tab_ok 50 (by decide) (exec_run zb6q28) ?_)
    refine W.cond rfl ?_ ?_
    ·intro h; cases h
    intro _
    repeat (first | refine W.seq ?_ | refine W.block ?_ | refine W.skip ?_ | refine W.exit ?_ | refine W.region tab_ok 50 (by decide) (exec_run (by simp only [exb, Nat.reduceAdd, Nat.reduceLeDiff, Nat.reduceEqDiff, Nat.reduceMul, Int.reduceToNat, reduceIte, Int.reduceLE, Int.reduceNeg, SB_52, SB_53, SB_55, SB_56, SB_57, SB_58, nms, nm_small, nm_small', Nat.reduceLT, n1, n2, n4, n5, eq_self]; rfl)) ?_)
    refine W.cond rfl ?_ ?_
    ·intro _
     (repeat (first | refine W.seq ?_ | refine W.block ?_ | refine W.skip ?_ | refine W.exit ?_))
     by_cases hin : e.f ∈ ksL kR E'
     ·skip
      obtain ⟨q, q1, q2, q3⟩ := find_there (b := 2) (ks_nodup E') hin
      rw [if_pos hin] at q7
      have hrow := rowsOf_ne (ty := 54) (e := 4) ((mem_ks (v := vR)).1 hin)
      have hput : putE (.c (.int .i64 (e.f : Int))) (.own (nm 2 e.f)) ((keysE 2 (ksL kR E')).map fun pp => (pp.1.kill (nm 2 e.f), pp.2.kill (nm 2 e.f))) (some (q, .top)) = keysE 2 (ksL kR E') := q3
      have hmX := (SB_r3 (E := E')).trans hrow
      refine W.regionX tab_ok follows_mixed ⟨upd (upd (upd (upd (upd (fun _ => .top) 2 (.ptr 52 0)) 3 (.ptr 53 0)) 10 (.c (.sl ((E.map castS).map cS)))) 11 (.c (.int .i64 E.length))) 12 (.c (.int .i64 k)), soB (E' ++ [e])⟩ ?_ ?_
      ·as_aux_lemma =>
       refine rx_field (base := 50) tab_ok (by decide) (by decide +kernel) 0 rfl rfl zb6q27 rfl rfl (by decide +kernel) (by decide +kernel) ⟨_, zb6q16, ?_⟩
       refine rx_field (base := 50) tab_ok (by decide) (by decide +kernel) 2 rfl rfl zb6q27 rfl rfl (by decide +kernel) (by decide +kernel) ⟨_, zb6q16, ?_⟩
       refine rx_runs (base := 50) tab_ok (by decide) ?_
       repeat' (first
        | exact trivial
        | refine runsw_end (by decide +kernel) ?_
        | refine first_exec 4 (by decide +kernel) ⟨_, zb6q16, ?_⟩
        | refine first_exec 5 (by decide +kernel) ⟨_, zb6q16, ?_⟩
        | refine first_exec 6 (by decide +kernel) ⟨_, zb6q16, ?_⟩
        | refine first_exec 7 (by decide +kernel) ⟨_, zb6q16, ?_⟩
        | refine first_exec 8 (by decide +kernel) ⟨_, zb6q16, ?_⟩
        | refine first_exec 9 (by decide +kernel) ⟨_, zb6q16, ?_⟩
        | refine first_exec 10 (by decide +kernel) ⟨_, zb6q16, ?_⟩
        | refine first_exec 1 (by decide +kernel) ⟨_, zb6q16, ?_⟩
        | refine first_exec 3 (by decide +kernel) ⟨_, zb6q16, ?_⟩
        | refine runs_node [1, 3, 11] (by decide +kernel) (by decide) ?_
        | refine runs_node [1, 11] (by decide +kernel) (by decide) ?_
        | refine runs_node [3, 11] (by decide +kernel) (by decide) ?_
        | refine runs_node [11] (by decide +kernel) (by decide) ?_
        | refine runs_node [12] (by decide +kernel) (by decide) ?_
        | refine step_exec ⟨_, zb6q16, ?_⟩ ?_
        | refine step_put tab_ok (ents := ((keysE 2 (ksL kR E')).map fun pp => (pp.1.kill (nm 2 e.f), pp.2.kill (nm 2 e.f)))) rfl rfl (.inl rfl) rfl zb6q20 zb6q23 rfl zb6q20 (by rfl) zb6q20 q2 ?_ ?_
        | refine step_append tab_ok rfl (nm 2 e.f) true rfl rfl rfl rfl rfl rfl zb6q23 zb6q27 zb6q27 rfl rfl rfl rfl (hk0 _) (fun z hz => by simp at hz; subst hz; rfl) zb6q34 (by decide) ?_ ?_)
       all_goals
        refine le_mk ?sle ?mle ?swf ?mwf (kept _) (by rfl)
        case swf => repeat (first | exact swf_top _ | refine swf_upd ?_ zb6q37)
        case sle => repeat (first | exact sle_top _ | exact sle_refl _ | refine sle_upd ?_ zb6q31)
        case mwf => exact soB_wf hn hE''
        case mle =>
         refine mle_so ?_ ?_ ?_ ?_ ?_ (fun z => ?f1) (fun z => ?f2) (fun z => ?f3)
         ·simp only [exb, Nat.reduceAdd, Nat.reduceLeDiff, Nat.reduceEqDiff, Nat.reduceMul, Int.reduceToNat, reduceIte, Int.reduceLE, Int.reduceNeg, SB_52, SB_53, SB_55, SB_56, SB_57, SB_58, nms, nm_small, nm_small', Nat.reduceLT, p1, p2, p3, p4, q7, fr1, fr2, hput]
         ·simp only [exb, Nat.reduceAdd, Nat.reduceLeDiff, Nat.reduceEqDiff, Nat.reduceMul, Int.reduceToNat, reduceIte, Int.reduceLE, Int.reduceNeg, SB_52, SB_53, SB_55, SB_56, SB_57, SB_58, nms, nm_small, nm_small', Nat.reduceLT, p1, p2, p3, p4, q7, fr1, fr2, hput]
         ·simp only [exb, Nat.reduceAdd, Nat.reduceLeDiff, Nat.reduceEqDiff, Nat.reduceMul, Int.reduceToNat, reduceIte, Int.reduceLE, Int.reduceNeg, SB_52, SB_53, SB_55, SB_56, SB_57, SB_58, nms, nm_small, nm_small', Nat.reduceLT, p1, p2, p3, p4, q7, fr1, fr2, hput]
         ·simp only [exb, Nat.reduceAdd, Nat.reduceLeDiff, Nat.reduceEqDiff, Nat.reduceMul, Int.reduceToNat, reduceIte, Int.reduceLE, Int.reduceNeg, SB_52, SB_53, SB_55, SB_56, SB_57, SB_58, nms, nm_small, nm_small', Nat.reduceLT, p1, p2, p3, p4, q7, fr1, fr2, hput]
         ·simp only [exb, Nat.reduceAdd, Nat.reduceLeDiff, Nat.reduceEqDiff, Nat.reduceMul, Int.reduceToNat, reduceIte, Int.reduceLE, Int.reduceNeg, SB_52, SB_53, SB_55, SB_56, SB_57, SB_58, nms, nm_small, nm_small', Nat.reduceLT, p1, p2, p3, p4, q7, fr1, fr2, hput]
         case f1 =>
          exact .inr zb6q5
         case f2 =>
          exact .inr zb6q3
         case f3 =>
          by_cases ez : z = e.f
          ·subst ez
           exact .inr (by simp only [exb, Nat.reduceAdd, Nat.reduceLeDiff, Nat.reduceEqDiff, Nat.reduceMul, Int.reduceToNat, reduceIte, Int.reduceLE, Int.reduceNeg, SB_52, SB_53, SB_55, SB_56, SB_57, SB_58, nms, nm_small, nm_small', Nat.reduceLT, SB_r3 (E := E' ++ [e]), rowsOf_push q5, hval, p1, p2, p3, p4, q7, fr1, fr2, hput])
          ·exact .inr (by simp only [exb, Nat.reduceAdd, Nat.reduceLeDiff, Nat.reduceEqDiff, Nat.reduceMul, Int.reduceToNat, reduceIte, Int.reduceLE, Int.reduceNeg, SB_52, SB_53, SB_55, SB_56, SB_57, SB_58, nms, nm_small, nm_small', Nat.reduceLT, SB_r3 (E := E'), SB_r3 (E := E' ++ [e]), rowsOf_kill, ez, rowsOf_congr (q6 z ez), p1, p2, p3, p4, q7, fr1, fr2, hput])
      ·intro st' hle
       refine W.weaken hle ?_
       repeat (first | refine W.seq ?_ | refine W.block ?_ | refine W.skip ?_ | refine W.exit ?_ | refine W.region tab_ok 50 (by decide) (exec_run zb6q29) ?_)
       refine ⟨k + 1, hlt, by omega, ?_⟩
       rw [htk]
       refine le_mk ?sle ?mle ?swf ?mwf (kept _) (by rfl)
       case swf => repeat (first | exact swf_top _ | refine swf_upd ?_ zb6q37)
       case sle => repeat (first | exact sle_top _ | exact sle_refl _ | refine sle_upd ?_ zb6q30)
       case mwf => exact soB_wf hn hE''
       case mle => exact mle_refl _
     ·have q1 := find_absent (id := 0) (b := 2) hin
      rw [if_neg hin] at q7
      have hnil : selL kR vR E' e.f = [] := Classical.byContradiction fun h => hin (mem_ks.2 h)
      have hrow := rowsOf_nil (ty := 54) (e := 4) hnil
      rw [hnil] at q5
      have hput := putE_new (b := 2) (z := e.f) (ks := ksL kR E')
      have hmX := (SB_r3 (E := E')).trans hrow
      refine W.regionX tab_ok follows_mixed ⟨upd (upd (upd (upd (upd (fun _ => .top) 2 (.ptr 52 0)) 3 (.ptr 53 0)) 10 (.c (.sl ((E.map castS).map cS)))) 11 (.c (.int .i64 E.length))) 12 (.c (.int .i64 k)), soB (E' ++ [e])⟩ ?_ ?_
      ·as_aux_lemma =>
       refine rx_field (base := 50) tab_ok (by decide) (by decide +kernel) 0 rfl rfl zb6q27 rfl rfl (by decide +kernel) (by decide +kernel) ⟨_, zb6q16, ?_⟩
       refine rx_field (base := 50) tab_ok (by decide) (by decide +kernel) 2 rfl rfl zb6q27 rfl rfl (by decide +kernel) (by decide +kernel) ⟨_, zb6q16, ?_⟩
       refine rx_runs (base := 50) tab_ok (by decide) ?_
       repeat' (first
        | exact trivial
        | refine runsw_end (by decide +kernel) ?_
        | refine first_exec 4 (by decide +kernel) ⟨_, zb6q16, ?_⟩
        | refine first_exec 5 (by decide +kernel) ⟨_, zb6q16, ?_⟩
        | refine first_exec 6 (by decide +kernel) ⟨_, zb6q16, ?_⟩
        | refine first_exec 7 (by decide +kernel) ⟨_, zb6q16, ?_⟩
        | refine first_exec 8 (by decide +kernel) ⟨_, zb6q16, ?_⟩
        | refine first_exec 9 (by decide +kernel) ⟨_, zb6q16, ?_⟩
        | refine first_exec 10 (by decide +kernel) ⟨_, zb6q16, ?_⟩
        | refine first_exec 1 (by decide +kernel) ⟨_, zb6q16, ?_⟩
        | refine first_exec 3 (by decide +kernel) ⟨_, zb6q16, ?_⟩
        | refine runs_node [1, 3, 11] (by decide +kernel) (by decide) ?_
        | refine runs_node [1, 11] (by decide +kernel) (by decide) ?_
        | refine runs_node [3, 11] (by decide +kernel) (by decide) ?_
        | refine runs_node [11] (by decide +kernel) (by decide) ?_
        | refine runs_node [12] (by decide +kernel) (by decide) ?_
        | refine step_exec ⟨_, zb6q16, ?_⟩ ?_
        | refine step_put tab_ok (ents := (keysE 2 (ksL kR E'))) rfl rfl (.inl rfl) rfl zb6q20 zb6q23 rfl zb6q20 (by rfl) zb6q20 q1 ?_ ?_
        | refine step_appendNil tab_ok rfl (nm 2 e.f) true rfl rfl rfl rfl rfl rfl zb6q23 zb6q23 zb6q27 rfl rfl rfl rfl (fun z hz => by simp at hz; subst hz; rfl) zb6q34 (by decide) ?_ ?_)
       all_goals
        refine le_mk ?sle ?mle ?swf ?mwf (kept _) (by rfl)
        case swf => repeat (first | exact swf_top _ | refine swf_upd ?_ zb6q37)
        case sle => repeat (first | exact sle_top _ | exact sle_refl _ | refine sle_upd ?_ zb6q31)
        case mwf => exact soB_wf hn hE''
        case mle =>
         refine mle_so ?_ ?_ ?_ ?_ ?_ (fun z => ?f1) (fun z => ?f2) (fun z => ?f3)
         ·simp only [exb, Nat.reduceAdd, Nat.reduceLeDiff, Nat.reduceEqDiff, Nat.reduceMul, Int.reduceToNat, reduceIte, Int.reduceLE, Int.reduceNeg, SB_52, SB_53, SB_55, SB_56, SB_57, SB_58, nms, nm_small, nm_small', Nat.reduceLT, p1, p2, p3, p4, q7, hput]
         ·simp only [exb, Nat.reduceAdd, Nat.reduceLeDiff, Nat.reduceEqDiff, Nat.reduceMul, Int.reduceToNat, reduceIte, Int.reduceLE, Int.reduceNeg, SB_52, SB_53, SB_55, SB_56, SB_57, SB_58, nms, nm_small, nm_small', Nat.reduceLT, p1, p2, p3, p4, q7, hput]
         ·simp only [exb, Nat.reduceAdd, Nat.reduceLeDiff, Nat.reduceEqDiff, Nat.reduceMul, Int.reduceToNat, reduceIte, Int.reduceLE, Int.reduceNeg, SB_52, SB_53, SB_55, SB_56, SB_57, SB_58, nms, nm_small, nm_small', Nat.reduceLT, p1, p2, p3, p4, q7, hput]
         ·simp only [exb, Nat.reduceAdd, Nat.reduceLeDiff, Nat.reduceEqDiff, Nat.reduceMul, Int.reduceToNat, reduceIte, Int.reduceLE, Int.reduceNeg, SB_52, SB_53, SB_55, SB_56, SB_57, SB_58, nms, nm_small, nm_small', Nat.reduceLT, p1, p2, p3, p4, q7, hput]
         ·simp only [exb, Nat.reduceAdd, Nat.reduceLeDiff, Nat.reduceEqDiff, Nat.reduceMul, Int.reduceToNat, reduceIte, Int.reduceLE, Int.reduceNeg, SB_52, SB_53, SB_55, SB_56, SB_57, SB_58, nms, nm_small, nm_small', Nat.reduceLT, p1, p2, p3, p4, q7, hput]
         case f1 =>
          exact .inr zb6q9
         case f2 =>
          exact .inr zb6q7
         case f3 =>
          by_cases ez : z = e.f
          ·subst ez
           exact .inr (by simp only [exb, Nat.reduceAdd, Nat.reduceLeDiff, Nat.reduceEqDiff, Nat.reduceMul, Int.reduceToNat, reduceIte, Int.reduceLE, Int.reduceNeg, SB_52, SB_53, SB_55, SB_56, SB_57, SB_58, nms, nm_small, nm_small', Nat.reduceLT, SB_r3 (E := E' ++ [e]), rowsOf_push q5, hval, p1, p2, p3, p4, q7, hput])
          ·exact .inr (by simp only [exb, Nat.reduceAdd, Nat.reduceLeDiff, Nat.reduceEqDiff, Nat.reduceMul, Int.reduceToNat, reduceIte, Int.reduceLE, Int.reduceNeg, SB_52, SB_53, SB_55, SB_56, SB_57, SB_58, nms, nm_small, nm_small', Nat.reduceLT, SB_r3 (E := E'), SB_r3 (E := E' ++ [e]), rowsOf_kill, ez, rowsOf_congr (q6 z ez), p1, p2, p3, p4, q7, hput])
      ·intro st' hle
       refine W.weaken hle ?_
       repeat (first | refine W.seq ?_ | refine W.block ?_ | refine W.skip ?_ | refine W.exit ?_ | refine W.region tab_ok 50 (by decide) (exec_run zb6q29) ?_)
       refine ⟨k + 1, hlt, by omega, ?_⟩
       rw [htk]
       refine le_mk ?sle ?mle ?swf ?mwf (kept _) (by rfl)
       case swf => repeat (first | exact swf_top _ | refine swf_upd ?_ zb6q37)
       case sle => repeat (first | exact sle_top _ | exact sle_refl _ | refine sle_upd ?_ zb6q30)
       case mwf => exact soB_wf hn hE''
       case mle => exact mle_refl _
    ·intro h; cases h
   have hkR : kR e = none := by unfold kR; rw [if_neg k5]
   have n5 : ¬ (e.k : Int) = 5 := by omega
   repeat (first | refine W.seq ?_ | refine W.block ?_ | refine W.skip ?_ | refine W.exit ?_ | refine W.region tab_ok 50 (by decide) (exec_run zb6q26) ?_)
   refine W.cond rfl ?_ ?_
   ·intro h; cases h
   intro _
   repeat (first | refine W.seq ?_ | refine W.block ?_ | refine W.skip ?_ | refine W.exit ?_ | refine W.region tab_ok 50 (by decide) (exec_run zb6q28) ?_)
   refine W.cond rfl ?_ ?_
   ·intro h; cases h
   intro _
   repeat (first | refine W.seq ?_ | refine W.block ?_ | refine W.skip ?_ | refine W.exit ?_ | refine W.region tab_ok 50 (by decide) (exec_run zb6q28) ?_)
   refine W.cond rfl ?_ ?_
   ·intro h; cases h
   intro _
   repeat (first | refine W.seq ?_ | refine W.block ?_ | refine W.skip ?_ | refine W.exit ?_ | refine W.region tab_ok 50 (by decide) (exec_run zb6q28) ?_)
   refine W.cond rfl ?_ ?_
   ·intro h; cases h
   intro _
   repeat (first | refine W.seq ?_ | refine W.block ?_ | refine W.skip ?_ | refine W.exit ?_ | refine W.region tab_ok 50 (by decide) (exec_run zb6q28) ?_)
   refine ⟨k + 1, hlt, by omega, ?_⟩
   rw [htk]
   have hsame : soB (E' ++ [e]) = soB E' := by
    unfold soB soM soG
    rw [(sel_other hkP (v := vP)).1, (sel_other hkP (v := vP)).2, (sel_other hkC (v := vC)).1, (sel_other hkC (v := vC)).2, (sel_other hkR (v := vR)).1, (sel_other hkR (v := vR)).2]
   refine le_mk ?sle ?mle ?swf ?mwf (kept _) (by rfl)
   case swf => repeat (first | exact swf_top _ | refine swf_upd ?_ zb6q37)
   case sle => repeat (first | exact sle_top _ | exact sle_refl _ | refine sle_upd ?_ zb6q30)
   case mwf => exact soB_wf hn hE''
   case mle =>
    rw [hsame]
    exact mle_so zb6q36 zb6q36 zb6q36 zb6q36 zb6q36 (fun z => .inr zb6q35) (fun z => .inr zb6q35) (fun z => .inr zb6q35)
  ·intro hge
   simp only [decide_eq_false_iff_not, Int.ofNat_lt] at hge
   obtain rfl : k = E.length := by omega
   rw [List.take_length] at hE'
   subst hE'
   repeat (first | refine W.seq ?_ | refine W.block ?_ | refine W.skip ?_ | refine W.exit ?_ | refine W.region tab_ok 50 (by decide) (exec_run zb6q29) ?_)
   refine W.ret ⟨.inr rfl, by rfl, ?_, ?mle⟩
   simp only [Try.f50, resE, resOne, fin, toT, exb, Nat.reduceAdd, Nat.reduceLeDiff, Nat.reduceEqDiff, Nat.reduceMul, Int.reduceToNat, reduceIte, Int.reduceLE, Int.reduceNeg]
   case mle =>
    unfold soM
    refine mle_upd (mle_upd (mle_upd (mle_grid (fun z => .inr ?_) (fun z => .inr ?_) (fun z => .inr ?_) (fun z => .inl rfl) (fun z => .inl rfl)) ?_) ?_) ?_
    ·simp only [upd_app, nm_small, Nat.reduceLT, reduceIte, SB_r1]
    ·simp only [upd_app, nm_small, Nat.reduceLT, reduceIte, SB_r2]
    ·simp only [upd_app, nm_small, Nat.reduceLT, reduceIte, SB_r3]
    ·simp only [upd_app, Nat.reduceEqDiff, reduceIte, SB_56]
    ·simp only [upd_app, Nat.reduceEqDiff, reduceIte, SB_57]
    ·simp only [upd_app, Nat.reduceEqDiff, reduceIte, SB_58]
end V
end Go.Proofs.Ytmhchhmhpoldhaa
end
section
namespace Go.Proofs.Ytmhchhmhpoldhaa
namespace V
open Go.RowKit
def encE (p : Int × Int) : List Value := [.int .i64 p.1, .int .i64 p.2]
theorem encE_len (p : Int × Int) : (encE p).length = 2 := rfl
theorem cE_len2 {L : List (Int × Int)} : ∀ x ∈ L.map cE, x.length = 2 := fun x hx => by obtain ⟨z, -, rfl⟩ := List.mem_map.1 hx; rfl
theorem flat_cE : ∀ L : List (Int × Int), flat (L.map cE) = L.flatMap fun p => [C.int .i64 p.1, C.int .i64 p.2]
 | [] => rfl
 | z :: L => by
  have := flat_cE L
  simp only [flat, List.map_cons, List.flatten_cons, cE, List.flatMap_cons] at this ⊢
  rw [this]
def okE (p : Int × Int) : Prop := (Lit.int .i64 p.1).wf = true ∧ (Lit.int .i64 p.2).wf = true
section
variable {w : World} {I : Nat → Nat → Prop}
theorem rcs_edges : ∀ {L : List (Int × Int)} {vs : List Value}, RCs w I vs (L.flatMap fun p => [C.int .i64 p.1, C.int .i64 p.2]) → vs = L.flatMap encE ∧ ∀ p ∈ L, okE p
 | [], [], _ => ⟨rfl, fun z hz => by cases hz⟩
 | [], _ :: _, h => h.elim
 | p :: L, [], h => h.elim
 | p :: L, [v], h => by
  have h := h.2
  exact h.elim
 | p :: L, v :: u :: vs, h => by
  have h0 : RC w I v (.int .i64 p.1) := h.1
  have h1 : RC w I u (.int .i64 p.2) := h.2.1
  have h2 : RCs w I vs (L.flatMap fun p => [C.int .i64 p.1, C.int .i64 p.2]) := h.2.2
  obtain ⟨e, he⟩ := rcs_edges h2
  obtain ⟨e0, w0⟩ := RC.toInt h0
  obtain ⟨e1, w1⟩ := RC.toInt h1
  exact ⟨by rw [e0, e1, e]; rfl, fun q hq => by rcases List.mem_cons.1 hq with rfl | hq; exact ⟨w0, w1⟩; exact he q hq⟩
theorem edges_rcs : ∀ {L : List (Int × Int)}, (∀ p ∈ L, okE p) → RCs w I (L.flatMap encE) (L.flatMap fun p => [C.int .i64 p.1, C.int .i64 p.2])
 | [], _ => trivial
 | p :: L, h => ⟨.int (h p (by simp)).1, .int (h p (by simp)).2, edges_rcs fun q hq => h q (by simp [hq])⟩
end
theorem fm_len (L : List (Int × Int)) : (L.flatMap encE).length = L.length * 2 := by
 induction L with
 | nil => rfl
 | cons p L ih => rw [List.flatMap_cons, List.length_append, ih, encE_len, List.length_cons]; omega
theorem fm_at : ∀ (L : List (Int × Int)) (i j : Nat), j < 2 → (L.flatMap encE)[i * 2 + j]? = (L[i]?).bind fun p => (encE p)[j]?
 | [], i, j, _ => by simp
 | p :: L, 0, j, hj => by
  rw [List.flatMap_cons, List.getElem?_append_left (by rw [encE_len]; omega)]
  simp
 | p :: L, i + 1, j, hj => by
  rw [List.flatMap_cons, List.getElem?_append_right (by rw [encE_len]; omega), encE_len, show (i + 1) * 2 + j - 2 = i * 2 + j by omega, fm_at L i j hj]
  simp
theorem flatK_eq (L : List (Int × Int)) : Sort.flatK encE 2 L.toArray = (L.flatMap encE).toArray := by
 refine Array.ext (by rw [Sort.size_flatK, List.size_toArray, List.size_toArray, fm_len]) fun t h1 h2 => ?_
 have ht : t < L.length * 2 := by simpa using h1
 have hi : t / 2 < L.length := by omega
 have e1 := fm_at L (t / 2) (t % 2) (by omega)
 rw [show t / 2 * 2 + t % 2 = t by omega, List.getElem?_eq_getElem hi, Option.bind_some, List.getElem?_eq_getElem (by rw [fm_len]; exact ht), List.getElem?_eq_getElem (by rw [encE_len]; omega)] at e1
 have e1 := Option.some.inj e1
 have e2 := Sort.get_flatK encE 2 L.toArray t (by simpa using ht)
 rw [getElem!_pos _ t (by simpa using ht)] at e2
 rw [e2, List.getElem_toArray, e1]
 have hi' : t / 2 < L.toArray.size := by simpa using hi
 rw [getElem!_pos L.toArray (t / 2) hi']
 rw [List.getElem_toArray, getElem!_pos (encE L[t / 2]) (t % 2) (by rw [encE_len]; omega)]
theorem sortE_mut {P : Go.Program} {f g : FuncId} {F : List (Int × Int) → List (Int × Int)} (hF : ∀ L, (F L).length = L.length ∧ (∀ p, p ∈ F L → p ∈ L) ∧ F [] = []) (hen : ∀ args w, (callFunc f args).run P w = .ok (.enter f args) w)
  (hS : ∀ (blk off cap : Nat) (L : List (Int × Int)) (w : World), Sort.HoldsK encE 2 w blk off L.toArray → blk < w.heap.size → L.length < 4611686018427387904 →
   Calls P f #[.slice (some ⟨blk, off, none⟩) L.length cap, .func (.func g) #[] #[]] w fun e w' => e = .returned (.tuple #[]) ∧ ∃ n os, w' = sortWorldK encE 2 w blk off n (F L).toArray os)
  (hN : ∀ (p : Option Addr) (cap : Nat) (w : World), Calls P f #[.slice p 0 cap, .func (.func g) #[] #[]] w fun e w' => e = .returned (.tuple #[]) ∧ w' = w)
  (zs : List (Int × Int)) (hlen : zs.length < 4611686018427387904) (M : Mem) (q0 : Nat) {ty : TypeId} (hM : M q0 = some (.mrow ty 2 (zs.map cE))) :
  CallE P f [.own q0, .fn g []] M [] (.tup []) (upd M q0 (some (.mrow ty 2 ((F zs).map cE)))) := by
 have liv : ∀ j, (M j).isSome = true → (upd M q0 (some (O.mrow ty 2 ((F zs).map cE))) j).isSome = true := fun j hj => by
  unfold upd; split
  ·rfl
  ·exact hj
 refine ⟨hen, fun j hj => by simp [A.ids] at hj, liv, fun hw i o ho j hj => ?_, ?_⟩
 ·unfold upd at ho
  split at ho
  ·cases ho; simp [O.ids] at hj
  ·exact liv j (hw i o ho j hj)
 intro w0 I0 B I w vals hm hv
 match vals, hv with
 | [v, u], ⟨h1, h2, _⟩ =>
  obtain ⟨hvB, -⟩ := h1
  subst hvB
  have hu : u = .func (.func g) #[] #[] := h2
  subst hu
  obtain ⟨vs, hrow, hvs, hlx, hno⟩ := hm.objs q0 _ hM
  rw [flat_cE] at hvs
  obtain ⟨rfl, hwf⟩ := rcs_edges hvs
  rw [List.length_map] at hrow
  obtain ⟨hl', hF2, hF0⟩ := hF zs
  have hwf' : ∀ z ∈ F zs, okE z := fun z hz => hwf z (hF2 z hz)
  obtain ⟨-, ho⟩ := hrow
  rcases ho with ⟨e, hn⟩ | ⟨g', off, cap, cur, e, hg, hnc, hmx, hsz, htk⟩
  ·obtain rfl : zs = [] := List.length_eq_zero_iff.1 hn
   show Calls P f #[B q0, _] w _
   rw [e]
   refine (hN none 0 w).mono ?_
   rintro e' w' ⟨rfl, rfl⟩
   refine ⟨_, B, I, rfl, ?_, Ext.refl _ _, fun _ _ _ => rfl, ⟨[], rfl, trivial⟩⟩
   have : upd M q0 (some (O.mrow ty 2 ((F []).map cE))) = M := by
    funext j; unfold upd; split
    ·rename_i q; subst q; rw [hM, hF0]
    ·rfl
   rw [this]; exact hm
  ·have hglt : g' < w.heap.size := (Array.getElem?_eq_some_iff.1 hg).1
   have hcell : ∀ j, j < zs.length * 2 → cur[off + j]? = (zs.flatMap encE)[j]? := fun j hj => by
    rw [← htk, List.getElem?_take, if_pos hj, List.getElem?_drop, Array.getElem?_toList]
   show Calls P f #[B q0, _] w _
   rw [e]
   refine (hS g' off cap zs w (fun j hj => ?_) hglt hlen).mono ?_
   ·have hj : j < zs.length * 2 := by rw [Sort.size_flatK, List.size_toArray] at hj; exact hj
    rw [flatK_eq]
    have hj' : j < (zs.flatMap encE).toArray.size := by rw [List.size_toArray, fm_len]; exact hj
    refine ⟨?_, ?_⟩
    ·simp only [World.cell?, hg]
     rw [hcell j hj, getElem!_pos _ j hj', List.getElem?_eq_getElem (by rw [fm_len]; exact hj)]
     rfl
    ·simp [World.frozen?, hg]
   rintro e' w' ⟨rfl, n, os, rfl⟩
   unfold sortWorldK Sort.putRowK
   rw [flatK_eq]
   obtain ⟨X, hX⟩ : ∃ X, X = ((F zs).flatMap encE).toArray := ⟨_, rfl⟩
   have hXs : X.size = zs.length * 2 := by rw [hX, List.size_toArray, fm_len, hl']
   rw [← hX]
   have h1 : (Sort.putRow id (Sort.ahead w n) g' off X).heap[g']? = some (.cells (Sort.putCells id off X cur) ty (0, 0)) := by
    simp only [Sort.putRow, Sort.mapBlock, Sort.ahead, Array.getElem?_modify, if_true, hg, Option.map_some, Sort.onCells]
   have h2 : ∀ k, k ≠ g' → (Sort.putRow id (Sort.ahead w n) g' off X).heap[k]? = w.heap[k]? := fun k hk => by
    simp only [Sort.putRow, Sort.mapBlock, Sort.ahead, Array.getElem?_modify, if_neg (Ne.symm hk)]
   have hf : foot B q0 (.mrow ty 2 (zs.map cE)) g' := by show (B q0).ownBlock = some g'; rw [e]; rfl
   have hf' : ∀ k, foot B q0 (.mrow ty 2 ((F zs).map cE)) k → k = g' := fun k hk => by
    have hk : (B q0).ownBlock = some k := hk
    rw [e] at hk; cases hk; rfl
   have hIg : ∀ p, ¬ I g' p := fun p => hno g' (by rw [e]; rfl) p
   have hcs : (Sort.putCells id off X cur).size = cur.size := by simp [Sort.putCells]
   have hbig : off + zs.length * 2 ≤ cur.size := by omega
   have hput : ∀ j, j < zs.length * 2 → (Sort.putCells id off X cur)[off + j]? = X[j]? := fun j hj => by
    unfold Sort.putCells
    rw [Array.getElem?_mapIdx, Array.getElem?_eq_getElem (show off + j < cur.size by omega), Option.map_some, if_pos ⟨by omega, by omega⟩, Nat.add_sub_cancel_left, getElem!_pos X j (by omega), Array.getElem?_eq_getElem (show j < X.size by omega)]
    rfl
   obtain ⟨hm1, hE1⟩ := hm.turn (w' := Sort.putRow id (Sort.ahead w n) g' off X) (o' := .mrow ty 2 ((F zs).map cE)) hM hf hf' hIg rfl rfl rfl (by simp [Sort.putRow, Sort.mapBlock, Sort.ahead]) h2 (fun i hi => by simp [O.ids] at hi) (fun _ => by
    refine ⟨(F zs).flatMap encE, ⟨by rw [fm_len, List.length_map], ?_⟩, by rw [flat_cE]; exact edges_rcs hwf', cE_len2, fun b hb p => ?_⟩
    ·refine .inr ⟨g', off, cap, _, by rw [e, List.length_map, hl'], h1, by rw [List.length_map, hl']; exact hnc, hmx, by rw [hcs]; exact hsz, ?_⟩
     refine List.ext_getElem? fun j => ?_
     rw [List.getElem?_take]
     split
     ·rename_i hj
      have hj : j < zs.length * 2 := by rw [List.length_map, hl'] at hj; exact hj
      rw [List.getElem?_drop, Array.getElem?_toList, hput j hj, hX]
      simp
     ·rename_i hj
      rw [List.getElem?_eq_none (by rw [fm_len]; rw [List.length_map] at hj; omega)]
    ·rw [e] at hb
     have : g' = b := by simpa [Value.ownBlock] using hb
     subst this
     exact hIg p)
   have hbl : Below (Sort.putRow id (Sort.ahead w n) g' off X).heap.size (Sort.putRow id (Sort.ahead w n) g' off X) (Sort.grow (Sort.putRow id (Sort.ahead w n) g' off X) os) :=
    ⟨rfl, rfl, rfl, by simp [Sort.grow], fun k hk => by simp only [Sort.grow]; rw [Array.getElem?_append_left hk]⟩
   refine ⟨_, B, I, rfl, hm1.call hbl, hE1.trans ⟨fun _ _ k => k, fun b o k => hbl.cell (p := ⟨b, o, none⟩) (hm1.there b o k)⟩, fun _ _ _ => rfl, ⟨[], rfl, trivial⟩⟩
end V
end Go.Proofs.Ytmhchhmhpoldhaa
end
section
namespace Go.Proofs.Ytmhchhmhpoldhaa
namespace V
open Go.RowKit G
theorem ltE (x y : Int × Int) : ltOf cmpE x y = decide (x.1 < y.1 ∨ (x.1 = y.1 ∧ x.2 < y.2)) := by
 unfold ltOf cmpE Lib.compareInt
 by_cases h1 : x.1 < y.1
 ·simp [h1]
 ·by_cases h2 : y.1 < x.1
  ·simp [h1, h2]; omega
  ·have h3 : x.1 = y.1 := by omega
   by_cases h4 : x.2 < y.2
   ·simp [h3, h4]
   ·by_cases h5 : y.2 < x.2 <;> simp [h3, h4, h5]
theorem swoE : Sort.SWO (ltOf cmpE) where
 irrefl x := by rw [ltE]; simp
 trans x y z h1 h2 := by rw [ltE] at *; simp at *; omega
 ntrans x y z h1 h2 := by rw [ltE] at *; simp at *; omega
def sortE (L : List (Int × Int)) : List (Int × Int) := L.mergeSort fun x y => !(ltOf cmpE) y x
theorem sortE_len (L : List (Int × Int)) : (sortE L).length = L.length := List.length_mergeSort L
theorem mem_sortE {L : List (Int × Int)} {p : Int × Int} : p ∈ sortE L ↔ p ∈ L := List.mem_mergeSort
theorem sortE_ok (L : List (Int × Int)) (hlen : L.length < 4611686018427387904) (M : Mem) (id : Nat) {ty : TypeId} (hM : M id = some (.mrow ty 2 (L.map cE))) :
  CallE Try.prog 52 [.own id, .fn 53 []] M [] (.tup []) (upd M id (some (.mrow ty 2 ((sortE L).map cE)))) := by
 refine sortE_mut (F := sortE) (fun L => ⟨sortE_len L, fun p hp => mem_sortE.1 hp, by simp [sortE]⟩) (enters_of Try.func52 (by kernel_rfl) rfl) (fun blk off cap L w h1 h2 h3 => ?_) (fun p cap w => ?_) L hlen M id hM
 ·have eg : ∀ args w, (callFunc 53 args).run Try.prog w = .ok (.enter 53 args) w := enters_of Try.func53 (by kernel_rfl) rfl
  exact AnyQ.slices_SortFunc_total Try.laysSort52 2 Try.isAgg72 Try.sizeOf72 encE encE_len (fun x v hv => by simp [encE] at hv; rcases hv with rfl | rfl <;> rfl) cmpE swoE 53 #[] blk off cap L.toArray w eg
   (fun _ _ _ _ x y => cmpE_any x.1 x.2 y.1 y.2 _) h1 h2 (by simpa using h3) (fun x y a b => by
    rw [ltE] at a b
    simp at a b
    exact Prod.ext (by omega) (by omega))
 ·exact AnyF.slices_SortFunc_none { Try.laysSort52 with } p cap _ w
theorem sortE_rising {L : List (Nat × Nat)} (hn : L.Nodup) : ∃ K : List (Nat × Nat), sortE (L.map fun p => ((p.1 : Int), (p.2 : Int))) = K.map (fun p => ((p.1 : Int), (p.2 : Int))) ∧ K.Pairwise lexLt ∧ ∀ p, p ∈ K ↔ p ∈ L := by
 have hmem : ∀ p, p ∈ sortE (L.map fun p => ((p.1 : Int), (p.2 : Int))) → ∃ q ∈ L, p = ((q.1 : Int), (q.2 : Int)) := fun p hp => by
  obtain ⟨q, hq, e⟩ := List.mem_map.1 (mem_sortE.1 hp)
  exact ⟨q, hq, e.symm⟩
 have hnd : (sortE (L.map fun p => ((p.1 : Int), (p.2 : Int)))).Nodup := by
  refine (List.mergeSort_perm _ _).nodup_iff.2 (List.pairwise_map.2 (hn.imp fun {a b} hab e => hab ?_))
  simp only [Prod.mk.injEq] at e
  exact Prod.ext (by omega) (by omega)
 have hpw : (sortE (L.map fun p => ((p.1 : Int), (p.2 : Int)))).Pairwise fun x y => (!(ltOf cmpE) y x) = true := by
  refine List.pairwise_mergeSort (fun a b c h1 h2 => ?_) (fun a b => ?_) _
  ·simp only [Bool.not_eq_true'] at *
   exact swoE.ntrans c b a h2 h1
  ·rw [ltE, ltE]
   by_cases h : b.1 < a.1 ∨ (b.1 = a.1 ∧ b.2 < a.2)
   ·have : ¬ (a.1 < b.1 ∨ (a.1 = b.1 ∧ a.2 < b.2)) := by omega
    simp [this]
   ·simp [h]
 refine ⟨(sortE (L.map fun p => ((p.1 : Int), (p.2 : Int)))).map (fun p => (p.1.toNat, p.2.toNat)), ?_, ?_, fun p => ?_⟩
 ·rw [List.map_map]
  refine ((List.map_congr_left fun p hp => ?_).trans (List.map_id _)).symm
  obtain ⟨q, -, rfl⟩ := hmem p hp
  simp
 ·rw [List.pairwise_map]
  refine (hpw.and hnd).imp_of_mem fun {x y} hx hy h => ?_
  obtain ⟨a, -, rfl⟩ := hmem x hx
  obtain ⟨b, -, rfl⟩ := hmem y hy
  obtain ⟨h1, h2⟩ := h
  rw [ltE] at h1
  simp only [Bool.not_eq_true', decide_eq_false_iff_not] at h1
  have h3 : a ≠ b := fun e => h2 (by rw [e])
  rcases lex_total h3 with q | q
  ·simpa using q
  ·exfalso
   unfold lexLt at q
   exact h1 (by omega)
 ·rw [List.mem_map]
  constructor
  ·rintro ⟨x, hx, rfl⟩
   obtain ⟨q, hq, rfl⟩ := hmem x hx
   simpa using hq
  ·intro hp
   exact ⟨((p.1 : Int), (p.2 : Int)), mem_sortE.2 (List.mem_map.2 ⟨p, hp, rfl⟩), by simp⟩
end V
end Go.Proofs.Ytmhchhmhpoldhaa
end
