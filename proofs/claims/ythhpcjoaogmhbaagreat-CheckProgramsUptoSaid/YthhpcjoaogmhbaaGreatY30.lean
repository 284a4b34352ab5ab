/- Joined by my own program, in build order: Eq2, Vnil, Vmap, Frzb, Ty, On, Bk0, Rwb, Bk1, Vnp, Bk. -/
import Derived.Test.YthhpcjoaogmhbaaGreatY29
import Derived.Test.YthhpcjoaogmhbaaGreatY28
import Derived.Test.YthhpcjoaogmhbaaGreatY27
set_option linter.unusedVariables false
set_option linter.unusedSimpArgs false
namespace Go.Proofs.YthhpcjoaogmhbaaGreat
theorem zy30q1 {p : Prop} (h : p := by (simp only [exec1, exb, Nat.reduceAdd, Nat.reduceLeDiff, Nat.reduceEqDiff, Nat.reduceMul, Int.reduceToNat, reduceIte, Int.reduceLE, Int.reduceNeg, hc0, he, cb, bc, eb, be, ce, ec, Nat.add_left_cancel_iff, Nat.add_eq_left, Nat.left_eq_add, upd_same, killM_app, killS_app, A.kill, O.kill, List.map_cons, List.map_nil, Option.map_some]; rfl)) : p := h
theorem zy30q2 {p : Prop} (h : p := by (simp only [exb, Nat.reduceAdd, Nat.reduceLeDiff, Nat.reduceEqDiff, Nat.reduceMul, Int.reduceToNat, reduceIte, Int.reduceLE, Int.reduceNeg, hc0, he, cb, bc, eb, be, ce, ec, Nat.add_left_cancel_iff, Nat.add_eq_left, Nat.left_eq_add, upd_same, List.map_cons, List.length_cons, List.length_map, hz2, cStr, hi, hi2]; rfl)) : p := h
theorem zy30q3 {p : Prop} (h : p := by (simp only [exb, Nat.reduceAdd, Nat.reduceLeDiff, Nat.reduceEqDiff, Nat.reduceMul, Int.reduceToNat, reduceIte, Int.reduceLE, Int.reduceNeg, hc0, he, cb, bc, eb, be, ce, ec, Nat.add_left_cancel_iff, Nat.add_eq_left, Nat.left_eq_add, upd_same, List.map_cons, List.length_cons, List.length_map, hz, hz2, cStr]; rfl)) : p := h
theorem zy30q4 {p : Prop} (h : p := by (simp only [exb, Nat.reduceAdd, Nat.reduceLeDiff, Nat.reduceEqDiff, Nat.reduceMul, Int.reduceToNat, reduceIte, Int.reduceLE, Int.reduceNeg, hc0, he, cb, bc, eb, be, ce, ec, Nat.add_left_cancel_iff, Nat.add_eq_left, Nat.left_eq_add, upd_same, List.map_cons, List.length_cons, List.length_map, hz2, cStr, hi]; rfl)) : p := h
theorem zy30q5 {p : Prop} (h : p := by (simp only [exb, Nat.reduceAdd, Nat.reduceLeDiff, Nat.reduceEqDiff, Nat.reduceMul, Int.reduceToNat, reduceIte, Int.reduceLE, Int.reduceNeg, hc0, he, cb, bc, eb, be, ce, ec, Nat.add_left_cancel_iff, Nat.add_eq_left, Nat.left_eq_add, upd_same, List.map_cons, cStr, h12, h02]; rfl)) : p := h
theorem zy30q6 {p : Prop} (h : p := by (simp only [exb, Nat.reduceAdd, Nat.reduceLeDiff, Nat.reduceEqDiff, Nat.reduceMul, Int.reduceToNat, reduceIte, Int.reduceLE, Int.reduceNeg, BB.tabs, V.tabs, hc0, he, cb, bc, eb, be, ce, ec, Nat.add_left_cancel_iff, Nat.add_eq_left, Nat.left_eq_add, upd_same]; rfl)) : p := h
theorem zy30q7 {p : Prop} (h : p := by (simp only [exb, Nat.reduceAdd, Nat.reduceLeDiff, Nat.reduceEqDiff, Nat.reduceMul, Int.reduceToNat, reduceIte, Int.reduceLE, Int.reduceNeg, hc0, he, cb, bc, eb, be, ce, ec, Nat.add_left_cancel_iff, Nat.add_eq_left, Nat.left_eq_add, upd_same, rowO]; rfl)) : p := h
theorem zy30q8 {p : Prop} (h : p := by (simp only [exec1, exb, Nat.reduceAdd, Nat.reduceLeDiff, Nat.reduceEqDiff, Nat.reduceMul, Int.reduceToNat, reduceIte, Int.reduceLE, Int.reduceNeg, hc0, he, cb, bc, eb, be, ce, ec, Nat.add_left_cancel_iff, Nat.add_eq_left, Nat.left_eq_add, upd_same]; rfl)) : p := h
theorem zy30q9 {p : Prop} (h : p := by (simp only [exb, Nat.reduceAdd, Nat.reduceLeDiff, Nat.reduceEqDiff, Nat.reduceMul, Int.reduceToNat, reduceIte, Int.reduceLE, Int.reduceNeg, hc0, he, cb, bc, eb, be, ce, ec, Nat.add_left_cancel_iff, Nat.add_eq_left, Nat.left_eq_add, upd_same]; rfl)) : p := h
theorem zy30q10 {p : Prop} (h : p := by (simp only [exb, Nat.reduceAdd, Nat.reduceLeDiff, Nat.reduceEqDiff, Nat.reduceMul, Int.reduceToNat, reduceIte, Int.reduceLE, Int.reduceNeg, upd_same, hjb, hbj, hf2, putE, hw11, hw01]; rfl)) : p := h
theorem zy30q11 {p : Prop} (h : p := by (simp only [exb, Nat.reduceAdd, Nat.reduceLeDiff, Nat.reduceEqDiff, Nat.reduceMul, Int.reduceToNat, reduceIte, Int.reduceLE, Int.reduceNeg, methodC, zeroMethod, cMethod, V.tabs]; rfl)) : p := h
theorem zy30q12 {p : Prop} (h : p := by (simp only [exb, Nat.reduceAdd, Nat.reduceLeDiff, Nat.reduceEqDiff, Nat.reduceMul, Int.reduceToNat, reduceIte, Int.reduceLE, Int.reduceNeg, OO.tabs, V.tabs, upd_same, hjb, hbj]; rfl)) : p := h
theorem zy30q13 {p : Prop} (h : p := by (simp only [exb, Nat.reduceAdd, Nat.reduceLeDiff, Nat.reduceEqDiff, Nat.reduceMul, Int.reduceToNat, reduceIte, Int.reduceLE, Int.reduceNeg, upd_same, hjb, hbj, hfd, V.tabs]; rfl)) : p := h
theorem zy30q14 {p : Prop} (h : p := by (simp only [exb, Nat.reduceAdd, Nat.reduceLeDiff, Nat.reduceEqDiff, Nat.reduceMul, Int.reduceToNat, reduceIte, Int.reduceLE, Int.reduceNeg, X.tabs, V.tabs, hc1, hc2]; rfl)) : p := h
theorem zy30q15 {p : Prop} (h : p := by (first | rfl | (simp only [upd_app, killS_app, A.kill, entry_zero, entry_succ, Nat.reduceEqDiff, reduceIte, wrap_succ (show k + 1 < 9223372036854775808 by omega)]; done))) : p := h
theorem zy30q16 {p : Prop} (h : p := by (simp only [exb, Nat.reduceAdd, Nat.reduceLeDiff, Nat.reduceEqDiff, Nat.reduceMul, Int.reduceToNat, reduceIte, Int.reduceLE, Int.reduceNeg, List.length_map, hd]; rfl)) : p := h
theorem zy30q17 {p : Prop} (h : p := by (simp only [exb, Nat.reduceAdd, Nat.reduceLeDiff, Nat.reduceEqDiff, Nat.reduceMul, Int.reduceToNat, reduceIte, Int.reduceLE, Int.reduceNeg, ai, bi, an, bn]; rfl)) : p := h
theorem zy30q18 {p : Prop} (h : p := by (simp only [exb, Nat.reduceAdd, Nat.reduceLeDiff, Nat.reduceEqDiff, Nat.reduceMul, Int.reduceToNat, reduceIte, Int.reduceLE, Int.reduceNeg, upd_same, hjb, hbj])) : p := h
theorem zy30q19 {p : Prop} (h : p := by (simp only [exb, Nat.reduceAdd, Nat.reduceLeDiff, Nat.reduceEqDiff, Nat.reduceMul, Int.reduceToNat, reduceIte, Int.reduceLE, Int.reduceNeg, hi, hi2, ckC]; rfl)) : p := h
theorem zy30q20 {p : Prop} (h : p := by (simp only [exb, Nat.reduceAdd, Nat.reduceLeDiff, Nat.reduceEqDiff, Nat.reduceMul, Int.reduceToNat, reduceIte, Int.reduceLE, Int.reduceNeg, hi, hi2]; rfl)) : p := h
theorem zy30q21 {p : Prop} (h : p := by (simp only [exb, Nat.reduceAdd, Nat.reduceLeDiff, Nat.reduceEqDiff, Nat.reduceMul, Int.reduceToNat, reduceIte, Int.reduceLE, Int.reduceNeg, ai, bi]; rfl)) : p := h
theorem zy30q22 {p : Prop} (h : p := by (simp only [exb, Nat.reduceAdd, Nat.reduceLeDiff, Nat.reduceEqDiff, Nat.reduceMul, Int.reduceToNat, reduceIte, Int.reduceLE, Int.reduceNeg, hat]; rfl)) : p := h
theorem zy30q23 {p : Prop} (h : p := by (simp only [exb, Nat.reduceAdd, Nat.reduceLeDiff, Nat.reduceEqDiff, Nat.reduceMul, Int.reduceToNat, reduceIte, Int.reduceLE, Int.reduceNeg, ckC]; rfl)) : p := h
theorem zy30q24 {p : Prop} (h : p := by (first | rfl | (simp only [upd_app, killS_app, A.kill, entry_zero, entry_succ, Nat.reduceEqDiff, reduceIte, ce, be, cb, bc, eb, ec]; done))) : p := h
theorem zy30q25 {p : Prop} (h : p := by (first | rfl | (simp only [upd_app, killS_app, A.kill, entry_zero, entry_succ, Nat.reduceEqDiff, reduceIte, List.length_map]; done))) : p := h
theorem zy30q26 {p : Prop} (h : p := by (first | rfl | (simp only [upd_app, killS_app, A.kill, entry_zero, entry_succ, Nat.reduceEqDiff, reduceIte]; done))) : p := h
theorem zy30q27 {p : Prop} (h : p := by (simp [A.ids, upd_app, hc0, he, cb, bc, eb, be, ce, ec, Nat.add_left_cancel_iff, ce, be, cb, bc, eb, ec])) : p := h
theorem zy30q28 {p : Prop} (h : p := by (simp [A.ids, upd_app, hc0, he, cb, bc, eb, be, ce, ec, Nat.add_left_cancel_iff])) : p := h
theorem zy30q29 {p : Prop} (h : p := by (repeat (first | exact ov_base | refine ov_e ?_ | refine ov_new (hfar _) ?_))) : p := h
theorem zy30q30 {p : Prop} (h : p := by (simp only [asLs, asL, asC, upd_app, eb, if_false, if_true, eq_self]; rfl)) : p := h
theorem zy30q31 {p : Prop} (h : p := by (intro j hj; rw [List.mem_singleton] at hj; subst hj; exact ⟨_, _, rfl⟩)) : p := h
theorem zy30q32 {p : Prop} (h : p := by (simp only [upd_app, cb, bc, eb, be, ce, ec, if_false]; exact hfar _)) : p := h
theorem zy30q33 {p : Prop} (h : p := by (simp only [upd_app, cb, ce, if_false]; exact hc0)) : p := h
end Go.Proofs.YthhpcjoaogmhbaaGreat
section
namespace Go.Proofs.YthhpcjoaogmhbaaGreat
namespace V
open Go.RowKit
def ckC (cs : List Class) (main : List Stmt) (inn ret : ByteArray) (env : List Slot) : List C := [.sl (cs.map cClass), .sl (cStmts main), .str inn, .str ret, .sl (env.map cSlot)]
theorem typ2_E (p : Program) (inn ret : ByteArray) (env : List Slot) (hlen : p.classes.length ≤ 1000000000) (hchk : ∀ m, COk Tryz.prog 6 [.agg (cProg p)] m (.c (.int .i64 0))) (x : ByteArray) (y : Slot) (M : Mem)
 (h2 : M 2 = some (.box 41 [.rptr (ckC p.classes p.main inn ret env)])) (hfar : ∀ d, M (1000 + d) = none) :
 CallE Tryz.prog 75 [.c (.str x), .agg (cSlot y), .ptr 2 0] M [] (.c (.bool (fitR 0 p.classes x y.type))) M := by
 have hfit := fun m => fits_ok p 0 [.str inn, .str ret, .sl (env.map cSlot)] x y.type hlen hchk m
 obtain ⟨yt, yn⟩ := y
 refine (ok_eff tab_ok [] Tryz.func75 (by kernel_rfl) rfl rfl (by rfl) (by rfl) ?ids ?res ?sub ?wfm (fun hWF Rr hkeep => ?_))
 case ids => intro a ha j hj; simp at ha; rcases ha with rfl | rfl | rfl <;> simp [A.ids] at hj; subst hj; simp [h2]
 case res => intro j hj; simp [A.ids] at hj
 case sub => exact fun j hj => hj
 case wfm => exact fun hw => hw
 have h4 : M 1004 = none := hfar 4
 repeat (first | refine W.seq ?_ | refine W.block ?_ | refine W.skip ?_ | refine W.exit ?_ | refine W.region tab_ok 1000 (by decide) (exec_run (by simp only [exb, Nat.reduceAdd, Nat.reduceLeDiff, Nat.reduceEqDiff, Nat.reduceMul, Int.reduceToNat, reduceIte, Int.reduceLE, Int.reduceNeg, cSlot, h2, h4, ckC]; rfl)) ?_)
 refine W.regionK tab_ok 1000 (by decide) ?_
 refine runk_split 4 (by simp only [exb, Nat.reduceAdd, Nat.reduceLeDiff, Nat.reduceEqDiff, Nat.reduceMul, Int.reduceToNat, reduceIte, Int.reduceLE, Int.reduceNeg, h2, h4, cSlot, ckC]; rfl) ?_
 refine runk_call rfl rfl rfl rfl rfl (by simp) cw3 (hfit _) ?_
 refine xe0 ?_
 refine W.ret ⟨.inr rfl, by rfl, ?_, ?mle⟩
 simp only [Tryz.f75, resE, resOne, fin, toT, exb, Nat.reduceAdd, Nat.reduceLeDiff, Nat.reduceEqDiff, Nat.reduceMul, Int.reduceToNat, reduceIte, Int.reduceLE, Int.reduceNeg]
 case mle => exact mle_skip (mle_refl _) h4
theorem equalF_E (p : Program) (inn ret : ByteArray) (env : List Slot) (hlen : p.classes.length ≤ 1000000000) (hchk : ∀ m, COk Tryz.prog 6 [.agg (cProg p)] m (.c (.int .i64 0))) (a : List ByteArray) (b : List Slot) (ha : a.length ≤ 1000000000) (M : Mem)
 (h2 : M 2 = some (.box 41 [.rptr (ckC p.classes p.main inn ret env)])) (hfar : ∀ d, M (500 + d) = none) :
 CallE Tryz.prog 74 [.c (.sl (a.map cStr)), .c (.sl (b.map cSlot)), .fn 75 [2]] M [] (.c (.bool (eqFit p.classes a b))) M := by
 have h9 : M 509 = none := hfar 9
 have h2o : ∀ o : O, (upd M 509 (some o)) 2 = some (.box 41 [.rptr (ckC p.classes p.main inn ret env)]) := fun o => by rw [upd_ne _ _ (by decide)]; exact h2
 have hk := fun x y o => typ2_E p inn ret env hlen hchk x y (upd M 509 (some o)) (by rw [upd_ne _ _ (by decide)]; exact h2) (fun d => by rw [upd_ne _ _ (by omega), show 1000 + d = 500 + (500 + d) by omega]; exact hfar _)
 refine (ok_eff tab_ok [] Tryz.func74 (by kernel_rfl) rfl rfl (by rfl) (by rfl) ?ids ?res ?sub ?wfm (fun hWF Rr hkeep => ?_))
 case ids => intro a ha j hj; simp at ha; rcases ha with rfl | rfl | rfl <;> simp [A.ids] at hj; subst hj; simp [h2]
 case res => intro j hj; simp [A.ids] at hj
 case sub => exact fun j hj => hj
 case wfm => exact fun hw => hw
 have kept : ∀ j, Rr.keep j → (M j).isSome = true := fun j hj => by rw [hkeep] at hj; exact hj.1
 by_cases hl : a.length = b.length
 ·have hd : decide ((a.length : Int) = (b.length : Int)) = true := by simp [hl]
  repeat (first | refine W.seq ?_ | refine W.block ?_ | refine W.skip ?_ | refine W.exit ?_ | refine W.region tab_ok 500 (by decide) (exec_run zy30q16) ?_)
  refine W.cond rfl (fun h => absurd h (by simp)) (fun _ => ?_)
  repeat (first | refine W.seq ?_ | refine W.block ?_ | refine W.skip ?_ | refine W.exit ?_ | refine W.region tab_ok 500 (by decide) xr0 ?_)
  refine W.loop (ι := Nat) (fun k => ⟨upd (upd (upd (upd (upd (fun _ => .top) 1 (.c (.sl (b.map cSlot)))) 2 (.fn 75 [2])) 15 (.c (.sl (a.map cStr)))) 16 (.c (.int .i64 a.length))) 17 (.c (.int .i64 k)), M⟩) (fun k => k ≤ a.length ∧ eqFit p.classes (a.take k) (b.take k) = true) (fun k => a.length - k) 0 ?start ⟨Nat.zero_le _, by simp [zipAll]⟩ ?round
  case start =>
   refine le_mk ?sle ?mle ?swf ?mwf kept (by rfl)
   case swf => repeat (first | exact swf_top _ | refine swf_upd ?_ (by simp [A.ids, upd_app, h2, List.length_map]))
   case mwf => repeat (first | exact mwf_base hWF (fun i hi => by repeat (first | exact hi | refine live_upd i ?_)) | refine mwf_upd ?_ (by simp [A.ids, O.ids, upd_app, h2, List.length_map]))
   case mle => repeat (first | exact mle_refl _ | refine mle_upd ?_ (by first | rfl | (simp only [upd_app, killM_app, O.kill, A.kill, Nat.reduceEqDiff, reduceIte, Option.map_some, Option.map_none, List.map_cons, List.map_nil, h2, List.length_map]; done)))
   case sle => repeat (first | exact sle_top _ | exact sle_refl _ | refine sle_upd ?_ (by first | rfl | (simp only [upd_app, killS_app, A.kill, entry_zero, entry_succ, Nat.reduceEqDiff, reduceIte, h2, List.length_map]; done)))
  case round =>
   rintro k ⟨hkl, hall⟩
   repeat (first | refine W.seq ?_ | refine W.block ?_ | refine W.skip ?_ | refine W.exit ?_ | refine W.region tab_ok 500 (by decide) xr0 ?_)
   refine W.cond rfl ?_ ?_
   ·intro hlt
    simp only [decide_eq_true_eq, Int.ofNat_lt] at hlt
    obtain ⟨x, hx⟩ : ∃ x, a[k]? = some x := ⟨_, List.getElem?_eq_getElem hlt⟩
    obtain ⟨y, hy⟩ : ∃ y, b[k]? = some y := ⟨_, List.getElem?_eq_getElem (by omega)⟩
    have ht := zipAll_take (p := fun t s => fitR 0 p.classes t s.type) hl hx hy hall
    obtain ⟨yt, yn⟩ := y
    repeat (first | refine W.seq ?_ | refine W.block ?_ | refine W.skip ?_ | refine W.exit ?_ | refine W.region tab_ok 500 (by decide) (exec_run (by simp only [exb, Nat.reduceAdd, Nat.reduceLeDiff, Nat.reduceEqDiff, Nat.reduceMul, Int.reduceToNat, reduceIte, Int.reduceLE, Int.reduceNeg, at_map hx, at_map hy, cStr, cSlot, h9]; rfl)) ?_)
    simp only [upd_upd]
    refine W.regionK tab_ok 500 (by decide) ?_
    refine runk_split 3 (by simp only [exb, Nat.reduceAdd, Nat.reduceLeDiff, Nat.reduceEqDiff, Nat.reduceMul, Int.reduceToNat, reduceIte, Int.reduceLE, Int.reduceNeg, at_map hx, at_map hy, cStr, cSlot]; rfl) ?_
    refine runk_callE (D := []) (ids := [2]) rfl rfl rfl rfl rfl (fun j hj => by simp at hj) (by intro j hj; rw [List.mem_singleton] at hj; subst hj; exact ⟨_, _, h2o (.box 45 [.c (.str yt), .c (.str yn)])⟩) (by exact cw3) (hk x ⟨yt, yn⟩ _) ?_
    simp only [killL, putS, upd_upd]
    refine xe0 ?_
    refine W.cond rfl ?_ ?_
    ·intro hne
     have hf : fitR 0 p.classes x yt = false := by simpa using hne
     repeat (first | refine W.seq ?_ | refine W.block ?_ | refine W.skip ?_ | refine W.exit ?_ | refine W.region tab_ok 500 (by decide) xr0 ?_)
     refine W.ret ⟨.inr rfl, by rfl, ?_, ?mle⟩
     simp only [Tryz.f74, resE, resOne, fin, toT, exb, Nat.reduceAdd, Nat.reduceLeDiff, Nat.reduceEqDiff, Nat.reduceMul, Int.reduceToNat, reduceIte, Int.reduceLE, Int.reduceNeg]
     ·simp only [eqFit, zipAll_no (k := k + 1) hl (ht.trans hf)]
     case mle => exact mle_skip (mle_refl _) h9
    ·intro heq
     have hf : fitR 0 p.classes x yt = true := by simpa using heq
     repeat (first | refine W.seq ?_ | refine W.block ?_ | refine W.skip ?_ | refine W.exit ?_ | refine W.region tab_ok 500 (by decide) xr0 ?_)
     refine ⟨k + 1, ⟨hlt, ht.trans hf⟩, by omega, ?_⟩
     refine le_mk ?sle ?mle ?swf ?mwf (fun j hj => by repeat (first | exact kept j hj | refine live_upd j ?_)) (by rfl)
     case swf => repeat (first | exact swf_top _ | refine swf_upd ?_ (by simp [A.ids, upd_app, h2]))
     case mwf => exact mwf_base hWF (fun i hi => by repeat (first | exact hi | refine live_upd i ?_))
     case mle => exact mle_skip (mle_refl _) h9
     case sle => repeat (first | exact sle_top _ | exact sle_refl _ | refine sle_upd ?_ zy30q15)
   ·intro hge
    simp only [decide_eq_false_iff_not, Int.ofNat_lt] at hge
    obtain rfl : k = a.length := by omega
    rw [List.take_length, hl, List.take_length] at hall
    repeat (first | refine W.seq ?_ | refine W.block ?_ | refine W.skip ?_ | refine W.exit ?_ | refine W.region tab_ok 500 (by decide) xr0 ?_)
    refine W.ret ⟨.inr rfl, by rfl, ?_, ?mle⟩
    simp only [Tryz.f74, resE, resOne, fin, toT, exb, Nat.reduceAdd, Nat.reduceLeDiff, Nat.reduceEqDiff, Nat.reduceMul, Int.reduceToNat, reduceIte, Int.reduceLE, Int.reduceNeg, hall]
    case mle => exact mle_refl _
 ·have hd : decide ((a.length : Int) = (b.length : Int)) = false := by simp; omega
  repeat (first | refine W.seq ?_ | refine W.block ?_ | refine W.skip ?_ | refine W.exit ?_ | refine W.region tab_ok 500 (by decide) (exec_run zy30q16) ?_)
  refine W.cond rfl (fun _ => ?_) (fun h => absurd h (by simp))
  repeat (first | refine W.seq ?_ | refine W.block ?_ | refine W.skip ?_ | refine W.exit ?_ | refine W.region tab_ok 500 (by decide) xr0 ?_)
  refine W.ret ⟨.inr rfl, by rfl, ?_, ?mle⟩
  simp only [Tryz.f74, resE, resOne, fin, toT, exb, Nat.reduceAdd, Nat.reduceLeDiff, Nat.reduceEqDiff, Nat.reduceMul, Int.reduceToNat, reduceIte, Int.reduceLE, Int.reduceNeg, zipAll_len hl]
  case mle => exact mle_refl _
end V
end Go.Proofs.YthhpcjoaogmhbaaGreat
end
section
namespace Go.Proofs.YthhpcjoaogmhbaaGreat
namespace V
open Go.RowKit
structure HAppendNil (T : Tab) (ops : Array Oper) (o : Oper) (st : St) (c : Call) (x y : Operand) (t d id e n b : Nat) (zs : List Value) (ys : List (List C)) : Prop where
 want : wantA ops o st.s = some true
 op : o.op = .call c
 callee : c.callee = .builtin .append
 args : c.args = #[x, y]
 tys : c.argTypes = #[t, t]
 dst : o.dst = some d
 at_ : ev st.s x = .nil
 free : st.m id = none
 val : asC st.m (ev st.s y) = some (.sl ys)
 elem : T.elem t = some (e, n)
 bytes : T.bytes e = some b
 zero : T.zero e = some zs
 zlen : zs.length = n
 lens : ∀ z ∈ ys, z.length = n
 bound : ys.length * b ≤ 140737488355328
 small : ys.length ≤ maxLen
section
variable {P : Go.Program} {T : Tab} (hT : T.Ok P) {kp : Nat → Prop} {ops : Array Oper}
theorem killed_free {m : Mem} {id : Nat} (hw : ∀ i o, m i = some o → ∀ j ∈ o.ids, (m j).isSome = true) (hM : m id = none) (j : Nat) : (m j).map (O.kill id) = m j := congrFun (kill_free hw hM) j
theorem nilW {st : St} {id : Nat} {o' : O} (hw : WF st) (hl : ∀ i ∈ o'.ids, (st.m i).isSome = true) (d : Nat) : WF ⟨upd st.s d (.own id), upd st.m id (some o')⟩ := by
 have hlv : ∀ i, (st.m i).isSome = true → (upd st.m id (some o') i).isSome = true := fun i hi => live_upd i hi
 refine ⟨fun t i hi => ?_, fun k z hz i hi => hlv i ?_⟩
 ·dsimp only at hi
  unfold upd at hi
  split at hi
  ·simp [A.ids] at hi; subst hi; show (upd st.m i (some o') i).isSome = true; rw [upd_same]; rfl
  ·exact hlv i (hw.ids t i hi)
 ·dsimp only at hz
  unfold upd at hz
  split at hz
  ·cases hz; exact hl i hi
  ·exact hw.live k z hz i hi
include hT
theorem eff_appendNil {o : Oper} {st : St} {c : Call} {x y : Operand} {t d id e n b : Nat} (fz : Bool) {zs : List Value} {ys : List (List C)} (h : HAppendNil T ops o st c x y t d id e n b zs ys) :
 Eff P T kp ops o st ⟨upd st.s d (.own id), upd st.m id (some (rowO fz e n ys))⟩ := by
 refine ⟨by rw [h.op]; simp [kind, h.callee], fun hw => ?_, fun R n0 ds a w K Q hR hr hd hK => ?_⟩
 ·exact nilW hw (fun i hi => by cases fz <;> simp [rowO, O.ids] at hi) d
 ·obtain ⟨B0, I, hm0, hx0, hkp0, hs0⟩ := hr.ex
  rw [want_snd hs0 h.want, if_pos rfl]
  have hne : ∀ j, (st.m j).isSome = true → j ≠ id := fun j hj e' => by subst e'; rw [h.free] at hj; cases hj
  obtain ⟨hu, hn0, i, hi, hin⟩ := hT.elem _ _ _ h.elem
  obtain ⟨i2, hi2, hib⟩ := hT.bytes _ _ h.bytes
  obtain ⟨i3, z, hi3, hz, hzc, -⟩ := hT.zero _ _ h.zero
  have e1 : i2 = i := Option.some.inj (hi2.symm.trans hi)
  have e2 : i3 = i := Option.some.inj (hi3.symm.trans hi)
  subst e1 e2
  have hxn : a.eval x = .slice none 0 0 := by have := ev_rv hs0 x; rw [h.at_] at this; exact this
  obtain ⟨ad, my, cap, news, hyv, hn, hnl, hcellsN, hrcs, hone⟩ := news_of hn0 (asC_rc hm0 h.val (ev_rv hs0 y)) h.lens
  have hm1 := hm0.newNil (id := id) h.free fz e n
  generalize hB : upd B0 id (Value.slice none 0 0) = B at hm1
  have hx : a.eval x = B id := by rw [hxn, ← hB, upd_same]
  have harr : upd st.m id (some (rowO fz e n [])) id = some (rowO fz e n []) := upd_same ..
  have hm := hm1
  have fin : ∃ v' w' I', (Builtin.append_ #[t, t] o.type #[B id, .slice ad my cap]).run P w = .ok v' w' ∧ (∃ aa nn cc, v' = .slice aa nn cc) ∧ MR R.w0 R.I0 (upd B id v') I' (upd (killM id (upd st.m id (some (rowO fz e n [])))) id (some (rowO fz e n ([] ++ ys)))) w' ∧ Ext w w' I I' := by
   cases fz with
   | true =>
     obtain ⟨vs, hv, hvs, hlx, hiff⟩ := hm.objs id _ harr
     obtain ⟨v', w', r1, r2, r3, r4, r5, r6⟩ := run_append_two (P := P) w t o.type e i3 z n b hu hi3 hz hin hib (by rw [hzc]; simpa using h.zlen) hn0 (B id) 0 vs hv ad my cap news hnl hcellsN hone (by rw [← hn, Nat.zero_add]; exact h.small) (by rw [← hn, Nat.zero_add]; exact h.bound)
     rw [← hn] at r2
     obtain ⟨I', hm', hE⟩ := hm.append harr hv hvs hlx hiff r2 hrcs h.lens r3 r4 r5 r6
     refine ⟨v', w', I', r1, ?_, hm', hE⟩
     rcases r2.2 with ⟨q, -⟩ | ⟨g, cap, cur, q, -⟩
     ·exact ⟨_, _, _, q⟩
     ·exact ⟨_, _, _, q⟩
   | false =>
     obtain ⟨vs, hv, hvs, hlx, hI⟩ := hm.objs id _ harr
     obtain ⟨v', w', r1, r2, r3, r4, r5, r6⟩ := run_append_at (P := P) w t o.type e i3 z n b hu hi3 hz hin hib (by rw [hzc]; simpa using h.zlen) hn0 (B id) 0 vs hv ad my cap news hnl hcellsN hone (by rw [← hn, Nat.zero_add]; exact h.small) (by rw [← hn, Nat.zero_add]; exact h.bound)
     rw [← hn] at r2
     obtain ⟨hm', hE⟩ := hm.appendM harr hvs hlx hI r2 hrcs h.lens r3 r4 r5 r6
     obtain ⟨ad', cap', q, -⟩ := r2.shape
     exact ⟨v', w', I, r1, ⟨_, _, _, q⟩, hm', hE⟩
  obtain ⟨v', w', I', r1, hsh, hm', hE⟩ := fin
  have hrun : (execOp a.eval o).run P w = .ok (.value v') w' := by
   obtain ⟨cal, args, tys⟩ := c
   have h7 := h.callee
   have h8 := h.args
   have h9 := h.tys
   simp only at h7 h8 h9
   subst h7 h8 h9
   simp only [execOp, h.op, resolve, invoke, builtin, Sem.run_bind, Sem.run_pure, Result.andThen_ok, List.map_toArray, List.map_cons, List.map_nil, hx, hyv, r1]
  unfold Oper.wp Oper.upon
  rw [hrun]
  have hdlt : ∀ q, o.dst = some q → q < a.tmps.size := fun q hq => by rw [hr.size]; exact hd q hq
  have hmem : upd (killM id (upd st.m id (some (rowO fz e n [])))) id (some (rowO fz e n ([] ++ ys))) = upd st.m id (some (rowO fz e n ys)) := by
   funext j
   unfold upd
   split
   ·rfl
   ·rename_i e'
    show ((if j = id then _ else st.m j).map (O.kill id)) = st.m j
    rw [if_neg e']
    exact killed_free hr.wf.live h.free j
  rw [hmem] at hm'
  have hput := putS_rv (dst := o.dst) (r := A.own id) (v := v') (B := upd B id v') (w := w') (I := I') (s := st.s) (fun t' => (hs0 t').mono hE fun j hj => by
   rw [upd_ne _ _ (hne j (hr.ids t' j hj)), ← hB, upd_ne _ _ (hne j (hr.ids t' j hj))]) ⟨(upd_same B id v').symm, hsh⟩ hdlt
  rw [h.dst] at hput
  have hwf : WF ⟨upd st.s d (.own id), upd st.m id (some (rowO fz e n ys))⟩ := nilW hr.wf (fun i hi => by cases fz <;> simp [rowO, O.ids] at hi) d
  refine hK _ _ ⟨⟨_, I', hm', hx0.trans hE, fun j hj => ?_, by rw [h.dst]; exact hput⟩, hwf.ids, by rw [(put_dst_size _ _ _).1]; exact hr.size, hr.nn, by
   rw [(put_dst_size _ _ _).2]
   have hdd : DID ≠ d := fun q => absurd (hd d h.dst) (Nat.not_lt.2 (q ▸ hr.nn))
   show a.defers = dfs (upd st.s d (.own id) DID) ++ ds
   rw [upd_ne _ _ hdd]; exact hr.defs, fun j hj => ?_⟩
  ·rw [upd_ne _ _ (hne j (hr.kept j hj)), ← hB, upd_ne _ _ (hne j (hr.kept j hj))]; exact hkp0 j hj
  ·have := hr.kept j hj
   show (upd st.m id _ j).isSome = true
   unfold upd; split
   ·rfl
   ·exact this
theorem runk_appendNil {base : Nat} {o : Oper} {l : List Oper} {st : St} {k : St → Prop} {c : Call} {x y : Operand} {t d : Nat} (id : Nat) {e n b : Nat} (fz : Bool) {zs : List Value} {ys : List (List C)} (h : wantA ops o st.s = some true) (hop : o.op = .call c) (hc : c.callee = .builtin .append) (ha : c.args = #[x, y]) (ht : c.argTypes = #[t, t]) (hd : o.dst = some d)
 (hx : ev st.s x = .nil) (hm : st.m id = none) (hy : asC st.m (ev st.s y) = some (.sl ys)) (h1 : T.elem t = some (e, n)) (h2 : T.bytes e = some b) (h3 : T.zero e = some zs) (h4 : zs.length = n) (hl : ∀ z ∈ ys, z.length = n) (hb : ys.length * b ≤ 140737488355328) (hb0 : 0 < b)
 (ht2 : RunK P T kp base ops l ⟨upd st.s d (.own id), upd st.m id (some (rowO fz e n ys))⟩ k) : RunK P T kp base ops (o :: l) st k :=
 runk_step (.eff (eff_appendNil hT fz ⟨h, hop, hc, ha, ht, hd, hx, hm, hy, h1, h2, h3, h4, hl, hb, app_small hb hb0⟩)) ht2
end
def tabL : Tab := { tab with lit := true }
namespace L
theorem tab_ok : tabL.Ok Tryz.prog := ⟨V.tab_ok.ty, V.tab_ok.zero, V.tab_ok.elem, V.tab_ok.off, V.tab_ok.bool, V.tab_ok.fields, V.tab_ok.bytes, V.tab_ok.nilk, V.tab_ok.int, V.tab_ok.map, V.tab_ok.str, V.tab_ok.one, V.tab_ok.seq⟩
theorem tabs : tabL.ty = tab.ty ∧ tabL.zero = tab.zero ∧ tabL.elem = tab.elem ∧ tabL.off = tab.off ∧ tabL.bool = tab.bool ∧ tabL.fields = tab.fields ∧ tabL.bytes = tab.bytes ∧ tabL.nilk = tab.nilk ∧ tabL.int = tab.int ∧ tabL.map = tab.map ∧ tabL.str = tab.str ∧ tabL.one = tab.one ∧ tabL.seq = tab.seq ∧ tabL.eff = tab.eff ∧ tabL.lit = true := ⟨rfl, rfl, rfl, rfl, rfl, rfl, rfl, rfl, rfl, rfl, rfl, rfl, rfl, rfl, rfl⟩
end L
end V
end Go.Proofs.YthhpcjoaogmhbaaGreat
end
section
namespace Go.Proofs.YthhpcjoaogmhbaaGreat
namespace V
open Go.RowKit
def valA : A → Option A1
 | .agg xs => some (.agg xs)
 | a => a.down
def putE (key y : A1) (ents : List (A1 × A1)) : Option (Nat × A1) → List (A1 × A1)
 | some (i, _) => ents.set i (key, y)
 | none => ents ++ [(key, y)]
structure HPut (T : Tab) (ops : Array Oper) (o : Oper) (st : St) (t : Nat) (x k v : Operand) (j kt e : Nat) (key y : A1) (ents : List (A1 × A1)) (r : Option (Nat × A1)) : Prop where
 want : wantA ops o st.s = some true
 op : o.op = .mapUpdate t x k v ∨ o.op = .insert t x k v
 dst : o.dst = none
 at_ : ev st.s x = .map j
 obj : st.m j = some (.map ents)
 map : T.map t = some (kt, e)
 keyed : toKey (ev st.s k) = some key
 kty : keyTy T kt key = true
 val : valA (ev st.s v) = some y
 find : findE key ents = some r
section
variable {P : Go.Program} {T : Tab} {w0 w : World} {I0 I : Nat → Nat → Prop} {B : Nat → Value} {m : Mem}
theorem valA_r1 {a : A} {y : A1} {v : Value} (h : valA a = some y) (hv : RV B w I a v) : R1 B w I y v ∧ ∀ j ∈ y.ids, j ∈ a.ids := by
 unfold valA at h
 split at h
 ·cases h; exact ⟨hv, fun j hj => by simp [A1.ids] at hj⟩
 ·exact ⟨down_rv h hv, down_ids h⟩
theorem REs.set : ∀ {l : List (A1 × A1)} {es : List MapEntry} (i : Nat) (p : A1 × A1) (e : MapEntry), REs B w I l es → R1 B w I p.1 e.key → R1 B w I p.2 e.val → REs B w I (l.set i p) (es.set i e)
 | [], [], _, _, _, _, _, _ => trivial
 | _ :: _, _ :: _, 0, _, _, h, h1, h2 => ⟨⟨h1, h2⟩, h.2⟩
 | _ :: _, _ :: _, i + 1, p, e, h, h1, h2 => ⟨h.1, REs.set i p e h.2 h1 h2⟩
theorem REs.push : ∀ {l : List (A1 × A1)} {es : List MapEntry} (p : A1 × A1) (e : MapEntry), REs B w I l es → R1 B w I p.1 e.key → R1 B w I p.2 e.val → REs B w I (l ++ [p]) (es ++ [e])
 | [], [], _, _, _, h1, h2 => ⟨⟨h1, h2⟩, trivial⟩
 | _ :: _, _ :: _, p, e, h, h1, h2 => ⟨h.1, REs.push p e h.2 h1 h2⟩
theorem MR.mapTurn (h : MR w0 I0 B I m w) {j r : Nat} {ents ents' : List (A1 × A1)} {es es' : Array MapEntry} {clock clock' : Nat} (hj : m j = some (.map ents)) (hB : B j = .map (some r)) (hh : w.heap[r]? = some (.map es clock)) (hno : ∀ p, ¬ I r p) (hes : REs B w I ents' es'.toList) (hl : ∀ i ∈ (O.map ents').ids, (m i).isSome = true) :
 MR w0 I0 B I (upd m j (some (.map ents'))) { w with heap := w.heap.setIfInBounds r (.map es' clock') } ∧ Ext w { w with heap := w.heap.setIfInBounds r (.map es' clock') } I I := by
 have hs := MapKept.heap_set (o' := .map es' clock') hh
 refine h.turn hj (b := r) hB (fun k hk => ?_) hno rfl rfl rfl (by simp) (fun k hk => hs.2 k hk) hl (fun hE => ⟨r, es', clock', hB, hs.1, hes.mono hE (fun _ _ => rfl), hno⟩)
 have hk : B j = .map (some k) := hk
 rw [hB] at hk; cases hk; rfl
end
variable {P : Go.Program} {T : Tab} (hT : T.Ok P) {kp : Nat → Prop} {ops : Array Oper}
theorem setEnts_ids {key y : A1} {ents : List (A1 × A1)} {r : Option (Nat × A1)} : ∀ i ∈ (O.map (putE key y ents r)).ids, i ∈ (O.map ents).ids ∨ i ∈ key.ids ∨ i ∈ y.ids := by
 intro i hi
 obtain ⟨p, hp, hq⟩ := List.mem_flatMap.1 hi
 have : p ∈ ents ∨ p = (key, y) := by
  unfold putE at hp
  split at hp
  ·exact List.mem_or_eq_of_mem_set hp
  ·simpa using hp
 rcases this with h | rfl
 ·exact .inl (List.mem_flatMap.2 ⟨p, h, hq⟩)
 ·exact .inr (by simpa using hq)
include hT
theorem eff_put {o : Oper} {st : St} {t : Nat} {x k v : Operand} {j kt e : Nat} {key y : A1} {ents : List (A1 × A1)} {r : Option (Nat × A1)} (h : HPut T ops o st t x k v j kt e key y ents r) :
 Eff P T kp ops o st ⟨st.s, upd st.m j (some (.map (putE key y ents r)))⟩ := by
 have yl : ∀ {i : Nat}, WF st → i ∈ y.ids → (st.m i).isSome = true := fun {i} hw hi => by
  have : ∀ {a : A}, valA a = some y → i ∈ a.ids := fun {a} ha => by
   unfold valA at ha
   split at ha
   ·cases ha; simp [A1.ids] at hi
   ·exact down_ids ha i hi
  have hi' := this h.val
  cases hv : v with
  | tmp t => rw [hv] at hi'; exact hw.ids t i hi'
  | const c => rw [hv] at hi'; simp only [ev, ofConst_ids] at hi'; simp at hi'
  | func f => rw [hv] at hi'; simp [ev, A.ids] at hi'
  | global g => rw [hv] at hi'; simp [ev, A.ids] at hi'
 have kl : key.ids = [] := by
  have := h.keyed
  unfold toKey at this
  split at this <;> cases this <;> rfl
 have live : WF st → ∀ i ∈ (O.map (putE key y ents r)).ids, (st.m i).isSome = true := fun hw i hi => by
  rcases setEnts_ids i hi with q | q | q
  ·exact hw.live j _ h.obj i q
  ·rw [kl] at q; simp at q
  ·exact yl hw q
 have liv : ∀ i, (st.m i).isSome = true → (upd st.m j (some (O.map (putE key y ents r))) i).isSome = true := fun i hi => by
  unfold upd; split
  ·rfl
  ·exact hi
 have wf : WF st → WF ⟨st.s, upd st.m j (some (.map (putE key y ents r)))⟩ := fun hw => ⟨fun t i hi => liv i (hw.ids t i hi), fun id z hz i hi => by
  have hz : upd st.m j (some (O.map (putE key y ents r))) id = some z := hz
  unfold upd at hz
  split at hz
  ·cases hz; exact liv i (live hw i hi)
  ·exact liv i (hw.live id z hz i hi)⟩
 refine ⟨by rcases h.op with e | e <;> rw [e] <;> rfl, wf, fun R n0 ds a w K Q hR hr hd hK => ?_⟩
 obtain ⟨B, I, hm, hx0, hkp0, hs⟩ := hr.ex
 rw [want_snd hs h.want, if_pos rfl]
 have hx := ev_rv hs x
 rw [h.at_] at hx
 obtain ⟨hkr, -⟩ := toKey_r1 h.keyed (ev_rv hs k)
 obtain ⟨hyr, -⟩ := valA_r1 h.val (ev_rv hs v)
 have hfine := keyTy_fine (P := P) hT h.kty hkr
 have hmap := hT.map _ _ _ h.map
 obtain ⟨q, es, clock, hB, hheap, hes, hno⟩ := hm.objs j _ h.obj
 have hxv : a.eval x = .map (some q) := hx.1.trans hB
 have fin : ∃ es' clock', (Instr.mapUpdate t (a.eval x) (a.eval k) (a.eval v)).run P w = .ok () { w with heap := w.heap.setIfInBounds q (.map es' clock') } ∧ REs B w I (putE key y ents r) es'.toList := by
  rw [hxv]
  rcases find_snd hT h.kty hkr hes h.find with ⟨e1, e2⟩ | ⟨i, v', e', k', e1, e2, e3, e4, e5, e6⟩
  ·subst e1
   refine ⟨es.push ⟨a.eval k, a.eval v, clock⟩, clock + 1, ?_, by simpa [putE] using hes.push (key, y) ⟨a.eval k, a.eval v, clock⟩ hkr hyr⟩
   simp [Instr.mapUpdate, run_underlying hmap, MapKept.run_getObj_map hheap, hfine.check, e2, MapKept.run_setObj_map _ hheap, Result.andThen]
  ·subst e1
   have hj : es[i]? = some e' := by simpa using e3
   refine ⟨es.modify i (fun z => { z with key := a.eval k, val := a.eval v }), clock, ?_, ?_⟩
   ·simp [Instr.mapUpdate, run_underlying hmap, MapKept.run_getObj_map hheap, hfine.check, e2, hj, e5, hfine.stays, MapKept.run_setObj_map _ hheap, Result.andThen]
   ·rw [Array.toList_modify, ChangeMaps.modify_eq_set _ _ _ _ e3]
    exact hes.set i (key, y) _ hkr hyr
 obtain ⟨es', clock', r1, r2⟩ := fin
 obtain ⟨hm', hE⟩ := hm.mapTurn (clock' := clock') h.obj hB hheap hno r2 (live hr.wf)
 have hrun : (execOp a.eval o).run P w = .ok .skip { w with heap := w.heap.setIfInBounds q (.map es' clock') } := by
  rcases h.op with e | e <;> simp only [execOp, e, Sem.run_bind, r1, Result.andThen_ok] <;> rfl
 unfold Oper.wp Oper.upon
 rw [hrun]
 have hput : a.put o.dst undef = a := by rw [h.dst]; rfl
 show K (a.put o.dst undef) _
 rw [hput]
 exact hK _ _ ⟨⟨B, I, hm', hx0.trans hE, hkp0, fun t => (hs t).mono hE (fun _ _ => rfl)⟩, (wf hr.wf).ids, hr.size, hr.nn, hr.defs, fun j' hj' => liv j' (hr.kept j' hj')⟩
omit hT in
theorem SR.rewin {R : Ref} {n : Nat} {ds : List Deferred} {st : St} {a : Act} {w : World} (t id : Nat) {ty e lo hi : Nat} {xs : List (List C)} (hr : SR R n ds st a w) (htn : t ≠ DID) (ht : st.s t = .win id e lo hi) (hj : st.m id = some (.mrow ty e xs)) (hh : hi ≤ xs.length) (hkp : ¬ R.keep id) :
 SR R n ds ⟨upd (killS id st.s) t (.own id), upd (killM id st.m) id (some (.mrow ty e ((xs.take hi).drop lo)))⟩ a w := by
 obtain ⟨B, I, hm, hx0, hkp0, hs⟩ := hr.ex
 have hx := hs t
 rw [ht] at hx
 obtain ⟨ad, n0, cap, hB, hlo, hhi, hv⟩ := hx
 obtain ⟨vs, hrow, hvs, hlx, hno⟩ := hm.objs id _ hj
 have hn0 : n0 = xs.length ∧ xs.length ≤ cap := by
  obtain ⟨ad', cp, e5, e6⟩ := hrow.shape
  rw [hB] at e5; cases e5; exact ⟨rfl, e6⟩
 obtain ⟨rfl, hnc⟩ := hn0
 have hvl := hvs.length
 have hfl := flat_len hlx
 have hlen : ((xs.take hi).drop lo).length = hi - lo := by simp; omega
 have hl1 : vs.length = xs.length * e := hrow.1
 have hle1 : hi * e ≤ xs.length * e := Nat.mul_le_mul_right e hh
 have hle2 : lo * e ≤ hi * e := Nat.mul_le_mul_right e hlo
 have hsub : (hi - lo) * e = hi * e - lo * e := Nat.sub_mul ..
 generalize hv' : a.tmps.getD t undef = v' at hv
 have hvl' : ((vs.take (hi * e)).drop (lo * e)).length = (hi - lo) * e := by simp; omega
 have hrow' : rowAt w ty e v' (hi - lo) ((vs.take (hi * e)).drop (lo * e)) := by
  refine ⟨hvl', ?_⟩
  rcases hrow.2 with ⟨e1, e2⟩ | ⟨g, off, c, cur, e1, hg, hnc', hm', hsz, htk⟩
  ·rw [hB] at e1
   simp only [Value.slice.injEq] at e1
   obtain ⟨rfl, -, rfl⟩ := e1
   obtain rfl : hi = 0 := by omega
   obtain rfl : lo = 0 := by omega
   exact .inl ⟨by rw [hv]; rfl, rfl⟩
  ·rw [hB] at e1
   cases e1
   by_cases hcl : cap = lo
   ·subst hcl
    obtain rfl : hi = cap := by omega
    refine .inr ⟨g, off, 0, cur, by rw [hv]; simp, hg, by omega, by omega, by omega, ?_⟩
    rw [Nat.sub_self, Nat.zero_mul, List.take_zero]
    exact (List.eq_nil_of_length_eq_zero (by rw [hvl']; simp)).symm
   ·have hcs : (cap - lo) * e = cap * e - lo * e := Nat.sub_mul ..
    have hle3 : lo * e ≤ cap * e := Nat.mul_le_mul_right e (by omega)
    refine .inr ⟨g, off + lo * e, cap - lo, cur, by rw [hv, if_neg hcl]; simp [Addr.add], hg, by omega, by omega, by omega, ?_⟩
    rw [← htk, List.take_take, Nat.min_eq_left (by omega), List.drop_take, List.drop_drop, ← hsub]
 have hob : v'.ownBlock = (B id).ownBlock ∨ v'.ownBlock = none := by
  rw [hv, hB]
  cases ad with
  | none => right; split <;> rfl
  | some z =>
    left
    split
    ·rfl
    ·obtain ⟨zb, zo, zs⟩ := z
     simp only [Value.ownBlock, Addr.add, Option.map_some]
     split <;> rfl
 have hflat : flat ((xs.take hi).drop lo) = ((flat xs).take (hi * e)).drop (lo * e) := by
  have ft : ∀ (k : Nat) (l : List (List C)), (∀ x ∈ l, x.length = e) → flat (l.take k) = (flat l).take (k * e) := by
   intro k
   induction k with
   | zero => intro l _; simp [flat]
   | succ k ih =>
     intro l hl
     cases l with
     | nil => simp [flat]
     | cons x l =>
       have hx := hl x (by simp)
       have := ih l (fun y hy => hl y (List.mem_cons_of_mem _ hy))
       have hk : (k + 1) * e = e + k * e := by rw [Nat.add_mul]; omega
       simp only [flat, List.take_succ_cons, List.flatten_cons] at this ⊢
       have h1 : x.length ≤ e + k * e := by omega
       have h2 : e + k * e - x.length = k * e := by omega
       rw [this, hk, List.take_append, List.take_of_length_le h1, h2]
  have fd : ∀ (k : Nat) (l : List (List C)), (∀ x ∈ l, x.length = e) → flat (l.drop k) = (flat l).drop (k * e) := by
   intro k
   induction k with
   | zero => intro l _; simp [flat]
   | succ k ih =>
     intro l hl
     cases l with
     | nil => simp [flat]
     | cons x l =>
       have hx := hl x (by simp)
       have := ih l (fun y hy => hl y (List.mem_cons_of_mem _ hy))
       have hk : (k + 1) * e = e + k * e := by rw [Nat.add_mul]; omega
       simp only [flat, List.drop_succ_cons, List.flatten_cons] at this ⊢
       have h1 : x.length ≤ e + k * e := by omega
       have h2 : e + k * e - x.length = k * e := by omega
       rw [this, hk, List.drop_append, List.drop_eq_nil_of_le h1, h2, List.nil_append]
  rw [fd _ _ (fun x hx => hlx x (List.mem_of_mem_take hx)), ft _ _ hlx]
 have hm' := hm.reval (id := id) (o' := .mrow ty e ((xs.take hi).drop lo)) (v' := v') (w' := w) (I' := I) hj rfl rfl rfl (Nat.le_refl _) (fun _ _ _ => rfl)
  (fun k hk => by
    have hk : (upd B id v' id).ownBlock = some k := hk
    rw [upd_same] at hk
    rcases hob with q | q
    ·rw [q] at hk; exact ⟨(hm.low id _ hj k hk).2, .inl hk⟩
    ·rw [q] at hk; cases hk)
  (Ext.refl _ _) (fun b p hp => .inl hp)
  ⟨_, by rw [upd_same, hlen]; exact hrow', by rw [hflat]; exact (hvs.take _).drop _, fun x hx => hlx x (List.mem_of_mem_take (List.mem_of_mem_drop hx)), fun b hb p hp => by
    rw [upd_same] at hb
    rcases hob with q | q
    ·rw [q] at hb; exact hno b hb p hp
    ·rw [q] at hb; cases hb⟩ (fun i hi => by simp [O.ids] at hi)
 have hwf := killW hr.wf hj (o' := .mrow ty e ((xs.take hi).drop lo)) (fun i hi => by simp [O.ids] at hi) t (.own id) (fun i hi => by simp [A.ids] at hi; subst hi; simp [hj])
 refine ⟨⟨_, I, hm', hx0, fun j hj' => ?_, fun t' => ?_⟩, hwf.ids, hr.size, hr.nn, ?_, fun j hj' => ?_⟩
 ·rw [upd_ne _ _ (fun e => by subst e; exact hkp hj')]; exact hkp0 j hj'
 ·by_cases htt : t' = t
  ·subst htt
   show RV _ _ _ (upd _ t' _ t') _
   rw [upd_same, hv']
   obtain ⟨ad', cp', q, -⟩ := hrow'.shape
   exact ⟨(upd_same ..).symm, _, _, _, q⟩
  ·show RV _ _ _ (upd _ t _ t') _
   rw [upd_ne _ _ htt]
   rcases (A.kill_ids (id := id) (a := st.s t')).2 with q | ⟨q, hnn⟩
   ·rw [killS_app, q]; trivial
   ·rw [killS_app, q]
    exact (hs t').mono (Ext.refl _ _) fun j hj => upd_ne _ _ (fun e => hnn (e ▸ hj))
 ·show a.defers = dfs (upd (killS id st.s) t (.own id) DID) ++ ds
  rw [upd_ne _ _ (fun q => htn q.symm), killS_app, dfs_kill]; exact hr.defs
 ·have := hr.kept j hj'
  show (upd (killM id st.m) id _ j).isSome = true
  unfold upd; split
  ·rfl
  ·simpa [killM_app] using this
omit hT in
theorem W.rewin {R : Ref} {n : Nat} {ds : List Deferred} {st : St} {c : Code} {K : Exit → St → Prop} (t id : Nat) {ty e lo hi : Nat} {xs : List (List C)} (htn : t ≠ DID) (ht : st.s t = .win id e lo hi) (hj : st.m id = some (.mrow ty e xs)) (hh : hi ≤ xs.length) (hkp : ¬ R.keep id)
 (h : W P R n ds ⟨upd (killS id st.s) t (.own id), upd (killM id st.m) id (some (.mrow ty e ((xs.take hi).drop lo)))⟩ c K) : W P R n ds st c K :=
 fun a w hr => h a w (hr.rewin t id htn ht hj hh hkp)
theorem runk_put {base : Nat} {o : Oper} {l : List Oper} {st : St} {k : St → Prop} {t : Nat} {x kx v : Operand} {j kt e : Nat} {key y : A1} {ents : List (A1 × A1)} {r : Option (Nat × A1)} (h : wantA ops o st.s = some true) (hop : o.op = .mapUpdate t x kx v ∨ o.op = .insert t x kx v) (hd : o.dst = none)
 (hx : ev st.s x = .map j) (hm : st.m j = some (.map ents)) (h1 : T.map t = some (kt, e)) (hk : toKey (ev st.s kx) = some key) (hkt : keyTy T kt key = true) (hv : valA (ev st.s v) = some y) (hf : findE key ents = some r)
 (ht2 : RunK P T kp base ops l ⟨st.s, upd st.m j (some (.map (putE key y ents r)))⟩ k) : RunK P T kp base ops (o :: l) st k :=
 runk_step (.eff (eff_put hT ⟨h, hop, hd, hx, hm, h1, hk, hkt, hv, hf⟩)) ht2
end V
end Go.Proofs.YthhpcjoaogmhbaaGreat
end
section
namespace Go.Proofs.YthhpcjoaogmhbaaGreat
namespace V
open Go.RowKit
theorem W.freezeBox {P : Go.Program} {R : Ref} {n : Nat} {ds : List Deferred} {st : St} {c : Code} {K : Exit → St → Prop} (j k id : Nat) {tyb ty : TypeId} {e : Nat} {cells : List A} {xs : List (List C)} (hj : st.m j = some (.box tyb cells)) (hk : cells[k]? = some (.own id)) (hid : st.m id = some (.mrow ty e xs)) (hji : j ≠ id) (hkp : ¬ R.keep id)
 (h : W P R n ds ⟨killS id st.s, upd (upd (killM id st.m) id (some (.arr ty e []))) j (some (.box tyb ((cells.map (A.kill id)).set k (.c (.sl xs)))))⟩ c K) : W P R n ds st c K := by
 intro a w hr
 refine h a w ?_
 obtain ⟨⟨B, I, hm, hx0, hkp0, hs⟩, h2, h3, hnn, h4, h5⟩ := hr
 obtain ⟨I', hm', hE, hrc⟩ := hm.freeze hid
 have hBne : ∀ i, i ≠ id → upd B id (.slice none 0 0) i = B i := fun i hi => upd_ne _ _ hi
 have hj' : upd (killM id st.m) id (some (.arr ty e [])) j = some (.box tyb (cells.map (A.kill id))) := by
  rw [upd_ne _ _ hji, killM_app, hj]; rfl
 obtain ⟨b, vs, q1, q2, q3, q4⟩ := hm'.objs j _ hj'
 obtain ⟨b0, vs0, p1, p2, p3, p4⟩ := hm.objs j _ hj
 have hbb : b0 = b := by
  rw [hBne j hji, p1] at q1; cases q1; rfl
 subst hbb
 have hvv : vs0 = vs := by
  rw [p2] at q2
  have := Option.some.inj q2
  simp at this; exact this
 subst hvv
 have liv0 : ∀ i, (st.m i).isSome = true → (upd (killM id st.m) id (some (.arr ty e [])) i).isSome = true := fun i hi => by
  unfold upd; split
  ·rfl
  ·rw [killM_app]; simpa using hi
 obtain ⟨hm2, hE2⟩ := hm'.turn (w' := w) (o' := .box tyb ((cells.map (A.kill id)).set k (.c (.sl xs)))) hj' ⟨0, q1⟩ (fun q hq => by obtain ⟨off, hq⟩ := hq; rw [q1] at hq; cases hq; rfl) q4 rfl rfl rfl rfl (fun _ _ => rfl) (fun i hi => by
  obtain ⟨a', ha', hi'⟩ := List.mem_flatMap.1 hi
  rcases List.mem_or_eq_of_mem_set ha' with ha' | rfl
  ·exact hm'.live j _ hj' i (List.mem_flatMap.2 ⟨a', ha', hi'⟩)
  ·simp [A.ids] at hi') (fun _ => by
  refine ⟨b0, vs0, q1, q2, ?_, q4⟩
  have hl := q3.length
  refine RVs.of (by rw [List.length_set]; exact hl) fun q a' v' ha' hv' => ?_
  rw [List.getElem?_set] at ha'
  split at ha'
  ·rename_i hq
   subst hq
   split at ha'
   ·cases ha'
    obtain ⟨v2, r1, r2, r3⟩ := p3.at k _ hk
    rw [hv'] at r1; cases r1
    have hv : v' = B id := r2.1
    exact ⟨by show RC _ _ _ _; rw [hv]; exact hrc, r3⟩
   ·cases ha'
  ·obtain ⟨v2, r1, r2, r3⟩ := q3.at q _ ha'
   rw [hv'] at r1; cases r1
   exact ⟨r2, r3⟩)
 have liv : ∀ i, (st.m i).isSome = true → (upd (upd (killM id st.m) id (some (.arr ty e []))) j (some (.box tyb ((cells.map (A.kill id)).set k (.c (.sl xs))))) i).isSome = true := fun i hi => live_upd i (liv0 i hi)
 refine ⟨⟨_, I', hm2, hx0.trans hE, fun i hi => (hBne i (fun e => hkp (e ▸ hi))).trans (hkp0 i hi), fun u => ?_⟩, fun u i hi => ?_, h3, hnn, ?_, fun i hi => liv i (h5 i hi)⟩
 ·show RV _ w I' (killS id st.s u) _
  rw [killS_app]
  rcases (A.kill_ids (id := id) (a := st.s u)).2 with q | ⟨q, hn⟩
  ·rw [q]; trivial
  ·rw [q]
   exact (hs u).mono hE fun i hi => hBne i (fun e => hn (e ▸ hi))
 ·replace hi : i ∈ (killS id st.s u).ids := hi
  rw [killS_app] at hi
  exact liv i (h2 u i ((A.kill_ids (id := id) (a := st.s u)).1 i hi).1)
 ·show _ = dfs (killS id st.s DID) ++ ds
  rw [killS_app, dfs_kill]; exact h4
end V
end Go.Proofs.YthhpcjoaogmhbaaGreat
end
section
namespace Go.Proofs.YthhpcjoaogmhbaaGreat
namespace V
open Go.RowKit
def tabX : Tab := { tab with eff := fun f => f == 74 }
theorem X.tab_ok : tabX.Ok Tryz.prog := ⟨V.tab_ok.ty, V.tab_ok.zero, V.tab_ok.elem, V.tab_ok.off, V.tab_ok.bool, V.tab_ok.fields, V.tab_ok.bytes, V.tab_ok.nilk, V.tab_ok.int, V.tab_ok.map, V.tab_ok.str, V.tab_ok.one, V.tab_ok.seq⟩
theorem X.tabs : tabX.ty = tab.ty ∧ tabX.zero = tab.zero ∧ tabX.elem = tab.elem ∧ tabX.off = tab.off ∧ tabX.bool = tab.bool ∧ tabX.fields = tab.fields ∧ tabX.bytes = tab.bytes ∧ tabX.nilk = tab.nilk ∧ tabX.int = tab.int ∧ tabX.map = tab.map ∧ tabX.str = tab.str ∧ tabX.one = tab.one ∧ tabX.seq = tab.seq := ⟨rfl, rfl, rfl, rfl, rfl, rfl, rfl, rfl, rfl, rfl, rfl, rfl, rfl⟩
mutual
def KidsE : Expr → Prop
 | ⟨k, _, _, kids⟩ => (k = 7 → kids.length = 1) ∧ (k = 10 → 1 ≤ kids.length) ∧ (k = 18 → kids.length = 2) ∧ kids.length ≤ 1048576 ∧ KidsEs kids
def KidsEs : List Expr → Prop
 | [] => True
 | x :: l => KidsE x ∧ KidsEs l
end
theorem KidsEs.mem : ∀ {l : List Expr} {x : Expr}, KidsEs l → x ∈ l → KidsE x
 | y :: l, x, h, hx => by
   simp only [KidsEs] at h
   rcases List.mem_cons.1 hx with rfl | hx
   ·exact h.1
   ·exact KidsEs.mem h.2 hx
theorem typsB_append (cs : List Class) (inn : ByteArray) (env : List Slot) : ∀ (l : List Expr) (x : Expr) {ts : List ByteArray}, typsB cs inn env l = some ts → typsB cs inn env (l ++ [x]) = (typB cs inn env x).map fun t => ts ++ [t]
 | [], x, ts, h => by
   simp only [typsB] at h
   cases h
   simp only [List.nil_append, typsB]
   cases typB cs inn env x <;> rfl
 | y :: l, x, ts, h => by
   simp only [typsB] at h
   simp only [List.cons_append, typsB]
   cases hy : typB cs inn env y with
   | none => rw [hy] at h; cases h
   | some t =>
     rw [hy] at h
     cases hl : typsB cs inn env l with
     | none => rw [hl] at h; cases h
     | some us =>
       rw [hl] at h
       cases h
       simp only
       rw [typsB_append cs inn env l x hl]
       cases typB cs inn env x <;> rfl
theorem typsB_none (cs : List Class) (inn : ByteArray) (env : List Slot) : ∀ (l r : List Expr), typsB cs inn env l = none → typsB cs inn env (l ++ r) = none
 | [], r, h => by simp only [typsB] at h; cases h
 | y :: l, r, h => by
   simp only [typsB] at h
   simp only [List.cons_append, typsB]
   cases hy : typB cs inn env y with
   | none => rfl
   | some t =>
     rw [hy] at h
     simp only
     cases hl : typsB cs inn env l with
     | none => rw [typsB_none cs inn env l r hl]; rfl
     | some us => rw [hl] at h; cases h
theorem typsB_len (cs : List Class) (inn : ByteArray) (env : List Slot) : ∀ (l : List Expr) {ts : List ByteArray}, typsB cs inn env l = some ts → ts.length = l.length
 | [], ts, h => by simp only [typsB] at h; cases h; rfl
 | y :: l, ts, h => by
   simp only [typsB] at h
   cases hy : typB cs inn env y with
   | none => rw [hy] at h; cases h
   | some t =>
     rw [hy] at h
     cases hl : typsB cs inn env l with
     | none => rw [hl] at h; cases h
     | some us => rw [hl] at h; cases h; simp [typsB_len cs inn env l hl]
def rowT (ts : List ByteArray) (n : Nat) : List (List C) := ts.map cStr ++ List.replicate (n - ts.length) [C.str tNo]
theorem rowT_nil (n : Nat) : rowT [] n = List.replicate n [C.str tNo] := by simp [rowT]
theorem rowT_set {ts : List ByteArray} {n : Nat} {t : ByteArray} (h : ts.length < n) : (rowT ts n).set ts.length [C.str t] = rowT (ts ++ [t]) n := by
 unfold rowT
 obtain ⟨d, hd⟩ : ∃ d, n - ts.length = d + 1 := ⟨n - ts.length - 1, by omega⟩
 have hd2 : n - (ts ++ [t]).length = d := by rw [List.length_append, List.length_singleton]; omega
 rw [hd, hd2, List.set_append_right _ _ (by simp), List.length_map, Nat.sub_self, List.replicate_succ, List.set_cons_zero, List.map_append, List.append_assoc]
 rfl
theorem rowT_at {ts : List ByteArray} {n : Nat} (h : ts.length < n) : (rowT ts n)[ts.length]? = some [C.str tNo] := by
 unfold rowT
 obtain ⟨d, hd⟩ : ∃ d, n - ts.length = d + 1 := ⟨n - ts.length - 1, by omega⟩
 rw [hd, List.getElem?_append_right (by simp), List.length_map, Nat.sub_self, List.replicate_succ]; rfl
theorem rowT_full {ts : List ByteArray} {n : Nat} (h : ts.length = n) : rowT ts n = ts.map cStr := by
 unfold rowT
 rw [h, Nat.sub_self]; simp
theorem rowT_len {ts : List ByteArray} {n : Nat} (h : ts.length ≤ n) : (rowT ts n).length = n := by
 unfold rowT
 rw [List.length_append, List.length_map, List.length_replicate]; omega
theorem fieldsR_len {cs : List Class} (hS : SmallC cs) (hlen : cs.length ≤ 16) (n : ByteArray) : (fieldsR 0 cs n).length ≤ 1000000000 := by
 unfold fieldsR
 rw [if_pos rfl]
 have h1 := slotsUp_len hS (upX cs (cs.length + 1) 0 n)
 have h2 := upX_len cs (cs.length + 1) 0 n
 have h3 : (upX cs (cs.length + 1) 0 n).length ≤ 17 := by omega
 have := Nat.mul_le_mul_right 1048576 h3
 omega
section
variable (p : Program) (inn ret : ByteArray) (env : List Slot) (hS : SmallC p.classes) (hB : SmallB p.classes) (hlen : p.classes.length ≤ 16) (henv : env.length ≤ 1000000000) (hchk : ∀ m, COk Tryz.prog 6 [.agg (cProg p)] m (.c (.int .i64 0)))
include hS hB hlen henv hchk
set_option maxHeartbeats 8000000 in
theorem typ_both : ∀ (n : Nat) (x : Expr), SizeOf.sizeOf x ≤ n → KidsE x → ∀ m, TOk Tryz.prog 43 [.rptr (ckC p.classes p.main inn ret env), .agg (cExpr x)] m mism ((typB p.classes inn env x).map fun t => .c (.str t)) := by
 intro n
 induction n using Nat.strongRecOn with
 | ind n ih =>
 rintro ⟨k, nn, nm, kids⟩ hn hK m
 have hsz := Expr.mk.sizeOf_spec k nn nm kids
 simp only [KidsE] at hK
 obtain ⟨k7, k10, k18, kl, kk⟩ := hK
 simp only [cExpr, cExprs_map]
 refine (ok_both tab_ok (ch := mism) ((typB p.classes inn env ⟨k, nn, nm, kids⟩).map fun t => A.c (.str t)) Tryz.func43 (by kernel_rfl) rfl rfl (by rfl) ?rid (by rfl) (fun R hkeep => ?_) m)
 case rid => rintro x hx; first | (cases hx; rfl) | (split at hx <;> first | (cases hx; rfl) | cases hx) | (obtain ⟨y, -, rfl⟩ := Option.map_eq_some_iff.1 hx; rfl)
 have hkl : (kids.length : Int) ≤ 9223372036854775807 := by omega
 have hkb : kids.length * 16 ≤ 140737488355328 := by omega
 repeat (first | refine W.seq ?_ | refine W.block ?_ | refine W.skip ?_ | refine W.exit ?_ | refine W.g ?_ (by simp only [exb, Nat.reduceAdd, Nat.reduceLeDiff, Nat.reduceEqDiff, Nat.reduceMul, Int.reduceToNat, reduceIte, Int.reduceLE, Int.reduceNeg, List.length_map, hkl, hkb, Int.toNat_natCast, Int.natCast_nonneg, and_self]; rfl))
 refine W.loop (ι := List ByteArray) (fun ts => ⟨upd (upd (upd (upd (upd (upd (fun _ => .top) 2 (.ptr 2 0)) 3 (.ptr 3 0)) 5 (.ptr 5 0)) 20 (.c (.sl (kids.map cExpr)))) 21 (.c (.int .i64 kids.length))) 22 (.c (.int .i64 ts.length)),
  upd (upd (upd (upd Mem.nil 2 (some (.box 41 [.rptr (ckC p.classes p.main inn ret env)]))) 3 (some (.box 30 [.c (.int .i64 k), .c (.int .i64 nn), .c (.str nm), .c (.sl (kids.map cExpr))]))) 5 (some (.box 52 [.own 18]))) 18 (some (.mrow 9 1 (rowT ts kids.length)))⟩)
  (fun ts => ts.length ≤ kids.length ∧ typsB p.classes inn env (kids.take ts.length) = some ts) (fun ts => kids.length - ts.length) [] ?start ⟨Nat.zero_le _, by simp [typsB]⟩ ?round
 case start =>
  refine le_L ?sle ?mle (kept_not hkeep)
  case mle => repeat (first | exact mle_nil _ | exact mle_refl _ | refine mle_upd ?_ (by first | rfl | (simp only [upd_app, killM_app, Nat.reduceEqDiff, reduceIte, rowT_nil]; done)))
  case sle => repeat (first | exact sle_top _ | exact sle_refl _ | refine sle_upd ?_ (by first | rfl | (simp only [upd_app, entry_zero, entry_succ, Nat.reduceEqDiff, reduceIte, rowT_nil]; done)))
 case round =>
  rintro ts ⟨hk, hall⟩
  refine W.go ?_
  refine W.cond rfl ?_ ?_
  ·intro hlt
   simp only [decide_eq_true_eq, Int.ofNat_lt] at hlt
   obtain ⟨x, hx⟩ : ∃ x, kids[ts.length]? = some x := ⟨_, List.getElem?_eq_getElem hlt⟩
   have hxm := List.mem_of_getElem? hx
   have hxs := List.sizeOf_lt_of_mem hxm
   have hT := ih (SizeOf.sizeOf x) (by omega) x (Nat.le_refl _) (kk.mem hxm)
   have htk : kids.take (ts.length + 1) = kids.take ts.length ++ [x] := by rw [List.take_add_one, hx]; rfl
   have happ := typsB_append p.classes inn env (kids.take ts.length) x hall
   have hrl := rowT_len (ts := ts) (n := kids.length) (by omega)
   have hlt' : ts.length < (rowT ts kids.length).length := by omega
   rw [← htk] at happ
   have hat := at_map (f := cExpr) hx
   obtain ⟨xk, xn, xm, xks⟩ := x
   simp only [cExpr, cExprs_map] at hT hat
   cases ht : typB p.classes inn env ⟨xk, xn, xm, xks⟩ with
   | some t =>
     rw [ht] at happ
     repeat (first | refine W.seq ?_ | refine W.block ?_ | refine W.skip ?_ | refine W.exit ?_ | refine W.g ?_ zy30q22)
     refine W.regionDK tab_ok 0 follows_mixed (by kernel_rfl) (by decide) ?_
     have hT1 : ∀ m, COk Tryz.prog 43 [.rptr (ckC p.classes p.main inn ret env), .agg [.int .i64 xk, .int .i64 xn, .str xm, .sl (xks.map cExpr)]] m (.c (.str t)) := fun m => by have := hT m; rw [ht] at this; exact this
     refine xs0 4 ?_
     refine runk_callR rfl rfl rfl rfl rfl (by simp) (cvrs_cons cvr_refl (cvrs_cons cvr_refl cvrs_nil)) (by rfl) (by rfl) hT1 ?_
     refine runk_exec (by simp only [exb, Nat.reduceAdd, Nat.reduceLeDiff, Nat.reduceEqDiff, Nat.reduceMul, Int.reduceToNat, reduceIte, Int.reduceLE, Int.reduceNeg, hlt', rowT_at hlt, rowT_set hlt]; rfl) ?_
     refine W.go ?_
     refine ⟨ts ++ [t], ⟨by simp only [List.length_append, List.length_singleton]; omega, by rw [List.length_append, List.length_singleton, happ]; rfl⟩, by simp only [List.length_append, List.length_singleton]; omega, ?_⟩
     refine le_L ?sle ?mle (kept_not hkeep)
     case mle => repeat (first | exact mle_nil _ | exact mle_refl _ | refine mle_upd ?_ (by first | rfl | (simp only [upd_app, killM_app, Nat.reduceEqDiff, reduceIte, rowT_set hlt, List.length_append, List.length_singleton, wrap_succ (show ts.length + 1 < 9223372036854775808 by omega)]; done)))
     case sle => repeat (first | exact sle_top _ | exact sle_refl _ | refine sle_upd ?_ (by first | rfl | (simp only [upd_app, entry_zero, entry_succ, Nat.reduceEqDiff, reduceIte, rowT_set hlt, List.length_append, List.length_singleton, wrap_succ (show ts.length + 1 < 9223372036854775808 by omega)]; done)))
   | none =>
     rw [ht] at happ
     have hno : typB p.classes inn env ⟨k, nn, nm, kids⟩ = none := by
      have := typsB_none p.classes inn env (kids.take (ts.length + 1)) (kids.drop (ts.length + 1)) happ
      rw [List.take_append_drop] at this
      simp only [typB, this, Option.bind_none]
     rw [hno]
     repeat (first | refine W.seq ?_ | refine W.block ?_ | refine W.skip ?_ | refine W.exit ?_ | refine W.g ?_ zy30q22)
     refine W.panD' (base := 0) (ch := mism) tab_ok 4 [29, 30, 1000000] follows_mixed (by kernel_rfl) (by decide) rfl ?_
     refine xe0 ?_
     intro st' hs hm
     refine ⟨_, xs_callR rfl rfl rfl rfl (by intro j hj; simp at hj) (cvrs_cons (.inl (.inl (hs 29 (by decide)).symm)) (cvrs_cons (.inl (.inl (hs 30 (by decide)).symm)) cvrs_nil)) (fun m => by have := hT m; rw [ht] at this; exact this), ?_, rfl⟩
     show dfs (st'.s 1000000) = []
     rw [hs 1000000 (by decide)]; rfl
  ·intro hge
   simp only [decide_eq_false_iff_not, Int.ofNat_lt] at hge
   have htl : ts.length = kids.length := by omega
   rw [htl, List.take_length] at hall
   have hty : typB p.classes inn env ⟨k, nn, nm, kids⟩ = typK p.classes inn env k nm ts := by simp only [typB, hall, Option.bind_some]
   rw [hty, rowT_full htl]
   refine W.go ?_
   have htl9 : ts.length ≤ 1000000000 := by omega
   have hlen9 : p.classes.length ≤ 1000000000 := by omega
   refine W.cond rfl ?_ ?_
   ·skip
    intro h
    simp only [decide_eq_true_eq] at h
    subst h
    rw [show typK _ _ _ _ _ _ = _ from rfl]
    refine W.go ?_
    refine W.ret ⟨by rfl, .inr rfl, ?_⟩
    simp only [Tryz.f43, resA, resOne, toT, fin, exb, Nat.reduceAdd, Nat.reduceLeDiff, Nat.reduceEqDiff, Nat.reduceMul, Int.reduceToNat, reduceIte, Int.reduceLE, Int.reduceNeg, Option.map_some]
   intro h2
   simp only [decide_eq_false_iff_not] at h2
   refine W.go ?_
   refine W.cond rfl ?_ ?_
   ·skip
    intro h
    simp only [decide_eq_true_eq] at h
    subst h
    cases hi : isT inn tNo with
    | true =>
      rw [show typK _ _ _ _ _ _ = none from by simp [typK, hi]]
      unfold isT at hi
      have hi2 := hi
      rw [empty_toList] at hi2
      (repeat (first | refine W.seq ?_ | refine W.block ?_))
      refine W.panR (base := 0) (ch := mism) tab_ok 5 (by decide) rfl ?_
      refine runk_exec zy30q19 ?_
      exact ⟨_, xs_call rfl rfl rfl rfl (by simp) cw1 (must_no _), by rfl, rfl⟩
    | false =>
      rw [show typK _ _ _ _ _ _ = some inn from by simp [typK, hi]]
      unfold isT at hi
      have hi2 := hi
      rw [empty_toList] at hi2
      (repeat (first | refine W.seq ?_ | refine W.block ?_))
      refine W.regionK tab_ok 0 (by decide) ?_
      refine runk_split 5 zy30q19 ?_
      refine runk_call rfl rfl rfl rfl rfl (by simp) cw1 (must_yes _) ?_
      refine xe0 ?_
      repeat (first | refine W.seq ?_ | refine W.block ?_ | refine W.skip ?_ | refine W.exit ?_ | refine W.g ?_ zy30q23)
      refine W.ret ⟨by rfl, .inr rfl, ?_⟩
      simp only [Tryz.f43, resA, resOne, toT, fin, exb, Nat.reduceAdd, Nat.reduceLeDiff, Nat.reduceEqDiff, Nat.reduceMul, Int.reduceToNat, reduceIte, Int.reduceLE, Int.reduceNeg, Option.map_some]
   intro h3
   simp only [decide_eq_false_iff_not] at h3
   refine W.go ?_
   refine W.cond rfl ?_ ?_
   ·skip
    intro h
    simp only [decide_eq_true_eq] at h
    subst h
    have hpk := pick_both env nm henv
    cases hp : pickB env nm with
    | none =>
      have hpx : ∀ m, XOk Tryz.prog 71 [.c (.sl (env.map cSlot)), .c (.str nm)] m mism := fun m => by have := hpk m; rw [hp] at this; exact this
      rw [show typK _ _ _ _ _ _ = none from by simp [typK, hp]]
      (repeat (first | refine W.seq ?_ | refine W.block ?_))
      refine W.panD' (base := 0) (ch := mism) tab_ok 6 [56, 58, 1000000] follows_mixed (by kernel_rfl) (by decide) rfl ?_
      refine runk_exec zy30q23 ?_
      intro st' hs hm
      refine ⟨_, xs_call rfl rfl rfl rfl (by intro j hj; simp at hj) (cvs_cons (.inl (hs 56 (by decide)).symm) (cvs_cons (.inl (hs 58 (by decide)).symm) cvs_nil)) (hpx _), ?_, rfl⟩
      show dfs (st'.s 1000000) = []
      rw [hs 1000000 (by decide)]; rfl
    | some t =>
      have hpt : ∀ m, COk Tryz.prog 71 [.c (.sl (env.map cSlot)), .c (.str nm)] m (.c (.str t)) := fun m => by have := hpk m; rw [hp] at this; exact this
      cases hi : isT t tNo with
      | true =>
        rw [show typK _ _ _ _ _ _ = none from by simp [typK, hp, hi]]
        unfold isT at hi
        have hi2 := hi
        rw [empty_toList] at hi2
        (repeat (first | refine W.seq ?_ | refine W.block ?_))
        refine W.regionDK tab_ok 0 follows_mixed (by kernel_rfl) (by decide) ?_
        refine runk_split 6 zy30q23 ?_
        refine runk_call rfl rfl rfl rfl rfl (by simp) cw2 (hpt _) ?_
        refine xe0 ?_
        (repeat (first | refine W.seq ?_ | refine W.block ?_))
        refine W.panR (base := 0) (ch := mism) tab_ok 2 (by decide) rfl ?_
        refine runk_exec zy30q20 ?_
        exact ⟨_, xs_call rfl rfl rfl rfl (by simp) cw1 (must_no _), by rfl, rfl⟩
      | false =>
        rw [show typK _ _ _ _ _ _ = some t from by simp [typK, hp, hi]]
        unfold isT at hi
        have hi2 := hi
        rw [empty_toList] at hi2
        (repeat (first | refine W.seq ?_ | refine W.block ?_))
        refine W.regionDK tab_ok 0 follows_mixed (by kernel_rfl) (by decide) ?_
        refine runk_split 6 zy30q23 ?_
        refine runk_call rfl rfl rfl rfl rfl (by simp) cw2 (hpt _) ?_
        refine xe0 ?_
        (repeat (first | refine W.seq ?_ | refine W.block ?_))
        refine W.regionK tab_ok 0 (by decide) ?_
        refine runk_split 2 zy30q20 ?_
        refine runk_call rfl rfl rfl rfl rfl (by simp) cw1 (must_yes _) ?_
        refine xe0 ?_
        refine W.go ?_
        refine W.ret ⟨by rfl, .inr rfl, ?_⟩
        simp only [Tryz.f43, resA, resOne, toT, fin, exb, Nat.reduceAdd, Nat.reduceLeDiff, Nat.reduceEqDiff, Nat.reduceMul, Int.reduceToNat, reduceIte, Int.reduceLE, Int.reduceNeg, Option.map_some]
   intro h4
   simp only [decide_eq_false_iff_not] at h4
   refine W.go ?_
   refine W.cond rfl ?_ ?_
   ·skip
    intro h
    simp only [decide_eq_true_eq] at h
    subst h
    have hcl := isClass_ok p.classes [.sl (cStmts p.main), .str inn, .str ret, .sl (env.map cSlot)] nm hlen9
    cases hc : p.classes.any (isNm nm) with
    | false =>
      rw [hc] at hcl
      rw [show typK _ _ _ _ _ _ = none from by simp [typK, hc]]
      (repeat (first | refine W.seq ?_ | refine W.block ?_))
      refine W.panR (base := 0) (ch := mism) tab_ok 4 (by decide) rfl ?_
      refine xs0 3 ?_
      refine runk_call rfl rfl rfl rfl rfl (by simp) cw2 (hcl _) ?_
      refine xe0 ?_
      exact ⟨_, xs_call rfl rfl rfl rfl (by simp) cw1 (must_no _), by rfl, rfl⟩
    | true =>
      rw [hc] at hcl
      rw [show typK _ _ _ _ _ _ = some nm from by simp [typK, hc]]
      (repeat (first | refine W.seq ?_ | refine W.block ?_))
      refine W.regionK tab_ok 0 (by decide) ?_
      refine xs0 3 ?_
      refine runk_call rfl rfl rfl rfl rfl (by simp) cw2 (hcl _) ?_
      refine xs0 0 ?_
      refine runk_call rfl rfl rfl rfl rfl (by simp) cw1 (must_yes _) ?_
      refine xe0 ?_
      refine W.go ?_
      refine W.ret ⟨by rfl, .inr rfl, ?_⟩
      simp only [Tryz.f43, resA, resOne, toT, fin, exb, Nat.reduceAdd, Nat.reduceLeDiff, Nat.reduceEqDiff, Nat.reduceMul, Int.reduceToNat, reduceIte, Int.reduceLE, Int.reduceNeg, Option.map_some]
   intro h5
   simp only [decide_eq_false_iff_not] at h5
   refine W.go ?_
   refine W.cond rfl ?_ ?_
   ·skip
    intro h
    simp only [decide_eq_true_eq] at h
    subst h
    cases hw : eqTL ts [tInt] with
    | true =>
      have hwt : ∀ m, COk Tryz.prog 69 [.c (.sl (([tInt]).map cStr)), .rptr [.sl (ts.map cStr)]] m (.tup []) := fun m => by have := want_both [tInt] ts htl9 m; rw [hw] at this; exact this
      (repeat (first | refine W.seq ?_ | refine W.block ?_))
      refine W.regionK tab_ok 0 (by decide) ?_
      refine xs0 2 ?_
      refine runk_callR rfl rfl rfl rfl rfl zy30q31 (cvrs_cons cvr_refl (cvrs_cons (cvr_ptr rfl rfl) cvrs_nil)) (by rfl) (by rfl) hwt ?_
      refine xe0 ?_
      refine W.go ?_
      rw [show typK _ _ _ _ _ _ = _ from by simp [typK, hw]; rfl]
      refine W.ret ⟨by rfl, .inr rfl, ?_⟩
      simp only [Tryz.f43, resA, resOne, toT, fin, exb, Nat.reduceAdd, Nat.reduceLeDiff, Nat.reduceEqDiff, Nat.reduceMul, Int.reduceToNat, reduceIte, Int.reduceLE, Int.reduceNeg, Option.map_some]
    | false =>
      have hwt : ∀ m, XOk Tryz.prog 69 [.c (.sl (([tInt]).map cStr)), .rptr [.sl (ts.map cStr)]] m mism := fun m => by have := want_both [tInt] ts htl9 m; rw [hw] at this; exact this
      rw [show typK _ _ _ _ _ _ = none from by simp [typK, hw]]
      (repeat (first | refine W.seq ?_ | refine W.block ?_))
      refine W.panR (base := 0) (ch := mism) tab_ok 2 (by decide) rfl ?_
      refine xe0 ?_
      exact ⟨_, xs_callR rfl rfl rfl rfl zy30q31 (cvrs_cons cvr_refl (cvrs_cons (cvr_ptr rfl rfl) cvrs_nil)) hwt, by rfl, rfl⟩
   intro h6
   simp only [decide_eq_false_iff_not] at h6
   refine W.go ?_
   refine W.cond rfl ?_ ?_
   ·skip
    intro h
    simp only [decide_eq_true_eq] at h
    subst h
    have k1 := k7 rfl
    obtain ⟨t0, rfl⟩ : ∃ t0, ts = [t0] := List.length_eq_one_iff.1 (by omega)
    have hf := E.fieldsP_ok p 0 t0 hS hlen9 (fun _ => hlen) hchk
    have hpk := pick_both (fieldsR 0 p.classes t0) nm (fieldsR_len hS hlen t0)
    cases hp : pickB (fieldsR 0 p.classes t0) nm with
    | none =>
      have hpx : ∀ m, XOk Tryz.prog 71 [.c (.sl ((fieldsR 0 p.classes t0).map cSlot)), .c (.str nm)] m mism := fun m => by have := hpk m; rw [hp] at this; exact this
      rw [show typK _ _ _ _ _ _ = none from by simp [typK, hp, hdT]]
      (repeat (first | refine W.seq ?_ | refine W.block ?_))
      refine W.panD' (base := 0) (ch := mism) tab_ok 10 [87, 89, 1000000] follows_mixed (by kernel_rfl) (by decide) rfl ?_
      refine runk_split 7 zy30q23 ?_
      refine runk_call rfl rfl rfl rfl rfl (by simp) cw2 (hf _) ?_
      refine xe0 ?_
      intro st' hs hm
      refine ⟨_, xs_call rfl rfl rfl rfl (by intro j hj; simp at hj) (cvs_cons (.inl (hs 87 (by decide)).symm) (cvs_cons (.inl (hs 89 (by decide)).symm) cvs_nil)) (hpx _), ?_, rfl⟩
      show dfs (st'.s 1000000) = []
      rw [hs 1000000 (by decide)]; rfl
    | some t =>
      have hpt : ∀ m, COk Tryz.prog 71 [.c (.sl ((fieldsR 0 p.classes t0).map cSlot)), .c (.str nm)] m (.c (.str t)) := fun m => by have := hpk m; rw [hp] at this; exact this
      rw [show typK _ _ _ _ _ _ = some t from by simp [typK, hp, hdT]]
      (repeat (first | refine W.seq ?_ | refine W.block ?_))
      refine W.regionDK tab_ok 0 follows_mixed (by kernel_rfl) (by decide) ?_
      refine runk_split 7 zy30q23 ?_
      refine runk_call rfl rfl rfl rfl rfl (by simp) cw2 (hf _) ?_
      refine xs0 2 ?_
      refine runk_call rfl rfl rfl rfl rfl (by simp) cw2 (hpt _) ?_
      refine xe0 ?_
      refine W.go ?_
      refine W.ret ⟨by rfl, .inr rfl, ?_⟩
      simp only [Tryz.f43, resA, resOne, toT, fin, exb, Nat.reduceAdd, Nat.reduceLeDiff, Nat.reduceEqDiff, Nat.reduceMul, Int.reduceToNat, reduceIte, Int.reduceLE, Int.reduceNeg, Option.map_some]
   intro h7
   simp only [decide_eq_false_iff_not] at h7
   refine W.go ?_
   refine W.cond rfl ?_ ?_
   ·skip
    intro h
    simp only [decide_eq_true_eq] at h
    subst h
    cases hw : eqTL ts [tInts, tInt] with
    | true =>
      have hwt : ∀ m, COk Tryz.prog 69 [.c (.sl (([tInts, tInt]).map cStr)), .rptr [.sl (ts.map cStr)]] m (.tup []) := fun m => by have := want_both [tInts, tInt] ts htl9 m; rw [hw] at this; exact this
      (repeat (first | refine W.seq ?_ | refine W.block ?_))
      refine W.regionK tab_ok 0 (by decide) ?_
      refine xs0 2 ?_
      refine runk_callR rfl rfl rfl rfl rfl zy30q31 (cvrs_cons cvr_refl (cvrs_cons (cvr_ptr rfl rfl) cvrs_nil)) (by rfl) (by rfl) hwt ?_
      refine xe0 ?_
      refine W.go ?_
      rw [show typK _ _ _ _ _ _ = _ from by simp [typK, hw]; rfl]
      refine W.ret ⟨by rfl, .inr rfl, ?_⟩
      simp only [Tryz.f43, resA, resOne, toT, fin, exb, Nat.reduceAdd, Nat.reduceLeDiff, Nat.reduceEqDiff, Nat.reduceMul, Int.reduceToNat, reduceIte, Int.reduceLE, Int.reduceNeg, Option.map_some]
    | false =>
      have hwt : ∀ m, XOk Tryz.prog 69 [.c (.sl (([tInts, tInt]).map cStr)), .rptr [.sl (ts.map cStr)]] m mism := fun m => by have := want_both [tInts, tInt] ts htl9 m; rw [hw] at this; exact this
      rw [show typK _ _ _ _ _ _ = none from by simp [typK, hw]]
      (repeat (first | refine W.seq ?_ | refine W.block ?_))
      refine W.panR (base := 0) (ch := mism) tab_ok 2 (by decide) rfl ?_
      refine xe0 ?_
      exact ⟨_, xs_callR rfl rfl rfl rfl zy30q31 (cvrs_cons cvr_refl (cvrs_cons (cvr_ptr rfl rfl) cvrs_nil)) hwt, by rfl, rfl⟩
   intro h8
   simp only [decide_eq_false_iff_not] at h8
   refine W.go ?_
   refine W.cond rfl ?_ ?_
   ·skip
    intro h
    simp only [decide_eq_true_eq] at h
    subst h
    cases hw : eqTL ts [tInts] with
    | true =>
      have hwt : ∀ m, COk Tryz.prog 69 [.c (.sl (([tInts]).map cStr)), .rptr [.sl (ts.map cStr)]] m (.tup []) := fun m => by have := want_both [tInts] ts htl9 m; rw [hw] at this; exact this
      (repeat (first | refine W.seq ?_ | refine W.block ?_))
      refine W.regionK tab_ok 0 (by decide) ?_
      refine xs0 2 ?_
      refine runk_callR rfl rfl rfl rfl rfl zy30q31 (cvrs_cons cvr_refl (cvrs_cons (cvr_ptr rfl rfl) cvrs_nil)) (by rfl) (by rfl) hwt ?_
      refine xe0 ?_
      refine W.go ?_
      rw [show typK _ _ _ _ _ _ = _ from by simp [typK, hw]; rfl]
      refine W.ret ⟨by rfl, .inr rfl, ?_⟩
      simp only [Tryz.f43, resA, resOne, toT, fin, exb, Nat.reduceAdd, Nat.reduceLeDiff, Nat.reduceEqDiff, Nat.reduceMul, Int.reduceToNat, reduceIte, Int.reduceLE, Int.reduceNeg, Option.map_some]
    | false =>
      have hwt : ∀ m, XOk Tryz.prog 69 [.c (.sl (([tInts]).map cStr)), .rptr [.sl (ts.map cStr)]] m mism := fun m => by have := want_both [tInts] ts htl9 m; rw [hw] at this; exact this
      rw [show typK _ _ _ _ _ _ = none from by simp [typK, hw]]
      (repeat (first | refine W.seq ?_ | refine W.block ?_))
      refine W.panR (base := 0) (ch := mism) tab_ok 2 (by decide) rfl ?_
      refine xe0 ?_
      exact ⟨_, xs_callR rfl rfl rfl rfl zy30q31 (cvrs_cons cvr_refl (cvrs_cons (cvr_ptr rfl rfl) cvrs_nil)) hwt, by rfl, rfl⟩
   intro h9
   simp only [decide_eq_false_iff_not] at h9
   refine W.go ?_
   refine W.cond rfl ?_ ?_
   ·skip
    intro h
    simp only [decide_eq_true_eq] at h
    subst h
    have k1 := k10 rfl
    obtain ⟨t0, tr, rfl⟩ : ∃ t0 tr, ts = t0 :: tr := by
     have h2 : 1 ≤ ts.length := by omega
     match ts, h2 with
     | t0 :: tr, _ => exact ⟨t0, tr, rfl⟩
    have hmm := methodP_ok p 0 t0 nm hS hB hlen9 hchk
    cases hmt : methodR 0 p.classes t0 nm with
    | none =>
      rw [hmt] at hmm
      rw [show typK _ _ _ _ _ _ = none from by simp [typK, hmt, hdT]]
      (repeat (first | refine W.seq ?_ | refine W.block ?_))
      refine W.regionDK tab_ok 0 follows_mixed (by kernel_rfl) (by decide) ?_
      refine runk_split 9 zy30q23 ?_
      refine runk_call rfl rfl rfl rfl rfl (by simp) cw3 (hmm _) ?_
      refine runk_exec zy30q11 ?_
      (repeat (first | refine W.seq ?_ | refine W.block ?_))
      refine W.panD' (base := 0) (ch := mism) tab_ok 9 [125, 1000000] follows_mixed (by kernel_rfl) (by decide) rfl ?_
      refine xe0 ?_
      intro st' hs hm
      refine ⟨_, xs_call rfl rfl rfl rfl (by intro j hj; simp at hj) (cvs_cons (.inl (hs 125 (by decide)).symm) cvs_nil) (must_no _), ?_, rfl⟩
      show dfs (st'.s 1000000) = []
      rw [hs 1000000 (by decide)]; rfl
    | some res =>
      obtain ⟨⟨mt, mn, mps, mb⟩, cn⟩ := res
      rw [hmt] at hmm
      (repeat (first | refine W.seq ?_ | refine W.block ?_))
      refine W.regionDK tab_ok 0 follows_mixed (by kernel_rfl) (by decide) ?_
      refine runk_split 9 zy30q23 ?_
      refine runk_call rfl rfl rfl rfl rfl (by simp) cw3 (hmm _) ?_
      refine runk_exec zy30q11 ?_
      (repeat (first | refine W.seq ?_ | refine W.block ?_))
      have htr : tr.length ≤ 1000000000 := by simp only [List.length_cons] at htl9; omega
      have hc1 : (tr.length ≤ tr.length ∧ (False ∨ ∀ (x : List C), x ∈ cStr t0 :: List.map cStr tr → x.length = 1)) = True := eq_true ⟨Nat.le_refl _, .inr fun x hx => by
       rcases List.mem_cons.1 hx with rfl | hx
       ·rfl
       ·obtain ⟨y, -, rfl⟩ := List.mem_map.1 hx; rfl⟩
      have hc2 : (tr.map cStr).take tr.length = tr.map cStr := List.take_of_length_le (by simp)
      refine W.freezeBox 5 0 18 rfl rfl rfl (by decide) (nokeep hkeep) ?_
      refine W.weaken (st' := ⟨upd (upd (upd (upd (fun _ => .top) 2 (.ptr 2 0)) 5 (.ptr 5 0)) 10 (.ptr 10 0)) 12 (.c (.bool true)), upd (upd (upd Mem.nil 2 (some (.box 41 [.rptr (ckC p.classes p.main inn ret env)]))) 5 (some (.box 52 [.c (.sl ((t0 :: tr).map cStr))]))) 10 (some (.box 49 [.c (.str mt), .c (.str mn), .c (.sl (mps.map cSlot)), .c (.sl (cStmts mb))]))⟩) ?le ?_
      case le =>
       exact le_D (kept_not hkeep)
      cases he : eqFit p.classes tr mps with
      | false =>
        rw [show typK _ _ _ _ _ _ = none from by simp [typK, hmt, hdT, he]]
        refine W.panD' (base := 0) (ch := mism) X.tab_ok 9 [125, 1000000] follows_mixed (by kernel_rfl) (by decide) rfl ?_
        refine runk_split 7 zy30q14 ?_
        refine runk_callE (D := []) rfl rfl rfl rfl rfl (fun j hj => by simp at hj) (by simp) cw3 (equalF_E p inn ret env hlen9 hchk tr mps htr _ rfl (fun d => by simp only [upd_app, mem_nil_app]; repeat (rw [if_neg (by omega)]))) ?_
        simp only [killL, putS, upd_upd]
        rw [he]
        refine xe0 ?_
        intro st' hs hm
        refine ⟨_, xs_call rfl rfl rfl rfl (by intro j hj; simp at hj) (cvs_cons (.inl (hs 125 (by decide)).symm) cvs_nil) (must_no _), ?_, rfl⟩
        show dfs (st'.s 1000000) = []
        rw [hs 1000000 (by decide)]; rfl
      | true =>
        rw [show typK _ _ _ _ _ _ = some mt from by simp [typK, hmt, hdT, he]]
        refine W.regionDK X.tab_ok 0 follows_mixed (by kernel_rfl) (by decide) ?_
        refine runk_split 7 zy30q14 ?_
        refine runk_callE (D := []) rfl rfl rfl rfl rfl (fun j hj => by simp at hj) (by simp) cw3 (equalF_E p inn ret env hlen9 hchk tr mps htr _ rfl (fun d => by simp only [upd_app, mem_nil_app]; repeat (rw [if_neg (by omega)]))) ?_
        simp only [killL, putS, upd_upd]
        rw [he]
        refine xs0 1 ?_
        refine runk_call rfl rfl rfl rfl rfl (by simp) cw1 (must_yes _) ?_
        refine xe0 ?_
        refine W.go ?_
        refine W.ret ⟨by rfl, .inr rfl, ?_⟩
        simp only [Tryz.f43, resA, resOne, toT, fin, exb, Nat.reduceAdd, Nat.reduceLeDiff, Nat.reduceEqDiff, Nat.reduceMul, Int.reduceToNat, reduceIte, Int.reduceLE, Int.reduceNeg, Option.map_some]
   intro h10
   simp only [decide_eq_false_iff_not] at h10
   refine W.go ?_
   refine W.cond rfl ?_ ?_
   ·skip
    intro h
    simp only [decide_eq_true_eq] at h
    subst h
    cases hw : eqTL ts [tInt] with
    | true =>
      have hwt : ∀ m, COk Tryz.prog 69 [.c (.sl (([tInt]).map cStr)), .rptr [.sl (ts.map cStr)]] m (.tup []) := fun m => by have := want_both [tInt] ts htl9 m; rw [hw] at this; exact this
      (repeat (first | refine W.seq ?_ | refine W.block ?_))
      refine W.regionK tab_ok 0 (by decide) ?_
      refine xs0 2 ?_
      refine runk_callR rfl rfl rfl rfl rfl zy30q31 (cvrs_cons cvr_refl (cvrs_cons (cvr_ptr rfl rfl) cvrs_nil)) (by rfl) (by rfl) hwt ?_
      refine xe0 ?_
      refine W.go ?_
      rw [show typK _ _ _ _ _ _ = _ from by simp [typK, hw]; rfl]
      refine W.ret ⟨by rfl, .inr rfl, ?_⟩
      simp only [Tryz.f43, resA, resOne, toT, fin, exb, Nat.reduceAdd, Nat.reduceLeDiff, Nat.reduceEqDiff, Nat.reduceMul, Int.reduceToNat, reduceIte, Int.reduceLE, Int.reduceNeg, Option.map_some]
    | false =>
      have hwt : ∀ m, XOk Tryz.prog 69 [.c (.sl (([tInt]).map cStr)), .rptr [.sl (ts.map cStr)]] m mism := fun m => by have := want_both [tInt] ts htl9 m; rw [hw] at this; exact this
      rw [show typK _ _ _ _ _ _ = none from by simp [typK, hw]]
      (repeat (first | refine W.seq ?_ | refine W.block ?_))
      refine W.panR (base := 0) (ch := mism) tab_ok 2 (by decide) rfl ?_
      refine xe0 ?_
      exact ⟨_, xs_callR rfl rfl rfl rfl zy30q31 (cvrs_cons cvr_refl (cvrs_cons (cvr_ptr rfl rfl) cvrs_nil)) hwt, by rfl, rfl⟩
   intro h12
   simp only [decide_eq_false_iff_not] at h12
   refine W.go ?_
   refine W.cond rfl ?_ ?_
   ·skip
    intro h
    simp only [decide_eq_true_eq] at h
    subst h
    refine W.go ?_
    refine W.cond rfl (fun _ => ?_) (fun h => absurd h (by decide))
    cases hw : eqTL ts [tInt, tInt] with
    | true =>
      have hwt : ∀ m, COk Tryz.prog 69 [.c (.sl (([tInt, tInt]).map cStr)), .rptr [.sl (ts.map cStr)]] m (.tup []) := fun m => by have := want_both [tInt, tInt] ts htl9 m; rw [hw] at this; exact this
      (repeat (first | refine W.seq ?_ | refine W.block ?_))
      refine W.regionK tab_ok 0 (by decide) ?_
      refine xs0 2 ?_
      refine runk_callR rfl rfl rfl rfl rfl zy30q31 (cvrs_cons cvr_refl (cvrs_cons (cvr_ptr rfl rfl) cvrs_nil)) (by rfl) (by rfl) hwt ?_
      refine xe0 ?_
      refine W.go ?_
      rw [show typK _ _ _ _ _ _ = _ from by simp [typK, hw]; rfl]
      refine W.ret ⟨by rfl, .inr rfl, ?_⟩
      simp only [Tryz.f43, resA, resOne, toT, fin, exb, Nat.reduceAdd, Nat.reduceLeDiff, Nat.reduceEqDiff, Nat.reduceMul, Int.reduceToNat, reduceIte, Int.reduceLE, Int.reduceNeg, Option.map_some]
    | false =>
      have hwt : ∀ m, XOk Tryz.prog 69 [.c (.sl (([tInt, tInt]).map cStr)), .rptr [.sl (ts.map cStr)]] m mism := fun m => by have := want_both [tInt, tInt] ts htl9 m; rw [hw] at this; exact this
      rw [show typK _ _ _ _ _ _ = none from by simp [typK, hw]]
      (repeat (first | refine W.seq ?_ | refine W.block ?_))
      refine W.panR (base := 0) (ch := mism) tab_ok 2 (by decide) rfl ?_
      refine xe0 ?_
      exact ⟨_, xs_callR rfl rfl rfl rfl zy30q31 (cvrs_cons cvr_refl (cvrs_cons (cvr_ptr rfl rfl) cvrs_nil)) hwt, by rfl, rfl⟩
   intro h13
   simp only [decide_eq_false_iff_not] at h13
   refine W.go ?_
   refine W.cond rfl ?_ ?_
   ·skip
    intro h
    simp only [decide_eq_true_eq] at h
    subst h
    refine W.go ?_
    refine W.cond rfl (fun _ => ?_) (fun h => absurd h (by decide))
    cases hw : eqTL ts [tInt, tInt] with
    | true =>
      have hwt : ∀ m, COk Tryz.prog 69 [.c (.sl (([tInt, tInt]).map cStr)), .rptr [.sl (ts.map cStr)]] m (.tup []) := fun m => by have := want_both [tInt, tInt] ts htl9 m; rw [hw] at this; exact this
      (repeat (first | refine W.seq ?_ | refine W.block ?_))
      refine W.regionK tab_ok 0 (by decide) ?_
      refine xs0 2 ?_
      refine runk_callR rfl rfl rfl rfl rfl zy30q31 (cvrs_cons cvr_refl (cvrs_cons (cvr_ptr rfl rfl) cvrs_nil)) (by rfl) (by rfl) hwt ?_
      refine xe0 ?_
      refine W.go ?_
      rw [show typK _ _ _ _ _ _ = _ from by simp [typK, hw]; rfl]
      refine W.ret ⟨by rfl, .inr rfl, ?_⟩
      simp only [Tryz.f43, resA, resOne, toT, fin, exb, Nat.reduceAdd, Nat.reduceLeDiff, Nat.reduceEqDiff, Nat.reduceMul, Int.reduceToNat, reduceIte, Int.reduceLE, Int.reduceNeg, Option.map_some]
    | false =>
      have hwt : ∀ m, XOk Tryz.prog 69 [.c (.sl (([tInt, tInt]).map cStr)), .rptr [.sl (ts.map cStr)]] m mism := fun m => by have := want_both [tInt, tInt] ts htl9 m; rw [hw] at this; exact this
      rw [show typK _ _ _ _ _ _ = none from by simp [typK, hw]]
      (repeat (first | refine W.seq ?_ | refine W.block ?_))
      refine W.panR (base := 0) (ch := mism) tab_ok 2 (by decide) rfl ?_
      refine xe0 ?_
      exact ⟨_, xs_callR rfl rfl rfl rfl zy30q31 (cvrs_cons cvr_refl (cvrs_cons (cvr_ptr rfl rfl) cvrs_nil)) hwt, by rfl, rfl⟩
   intro h14
   simp only [decide_eq_false_iff_not] at h14
   refine W.go ?_
   refine W.cond rfl ?_ ?_
   ·skip
    intro h
    simp only [decide_eq_true_eq] at h
    subst h
    refine W.go ?_
    refine W.cond rfl (fun _ => ?_) (fun h => absurd h (by decide))
    cases hw : eqTL ts [tInt, tInt] with
    | true =>
      have hwt : ∀ m, COk Tryz.prog 69 [.c (.sl (([tInt, tInt]).map cStr)), .rptr [.sl (ts.map cStr)]] m (.tup []) := fun m => by have := want_both [tInt, tInt] ts htl9 m; rw [hw] at this; exact this
      (repeat (first | refine W.seq ?_ | refine W.block ?_))
      refine W.regionK tab_ok 0 (by decide) ?_
      refine xs0 2 ?_
      refine runk_callR rfl rfl rfl rfl rfl zy30q31 (cvrs_cons cvr_refl (cvrs_cons (cvr_ptr rfl rfl) cvrs_nil)) (by rfl) (by rfl) hwt ?_
      refine xe0 ?_
      refine W.go ?_
      rw [show typK _ _ _ _ _ _ = _ from by simp [typK, hw]; rfl]
      refine W.ret ⟨by rfl, .inr rfl, ?_⟩
      simp only [Tryz.f43, resA, resOne, toT, fin, exb, Nat.reduceAdd, Nat.reduceLeDiff, Nat.reduceEqDiff, Nat.reduceMul, Int.reduceToNat, reduceIte, Int.reduceLE, Int.reduceNeg, Option.map_some]
    | false =>
      have hwt : ∀ m, XOk Tryz.prog 69 [.c (.sl (([tInt, tInt]).map cStr)), .rptr [.sl (ts.map cStr)]] m mism := fun m => by have := want_both [tInt, tInt] ts htl9 m; rw [hw] at this; exact this
      rw [show typK _ _ _ _ _ _ = none from by simp [typK, hw]]
      (repeat (first | refine W.seq ?_ | refine W.block ?_))
      refine W.panR (base := 0) (ch := mism) tab_ok 2 (by decide) rfl ?_
      refine xe0 ?_
      exact ⟨_, xs_callR rfl rfl rfl rfl zy30q31 (cvrs_cons cvr_refl (cvrs_cons (cvr_ptr rfl rfl) cvrs_nil)) hwt, by rfl, rfl⟩
   intro h15
   simp only [decide_eq_false_iff_not] at h15
   refine W.go ?_
   refine W.cond rfl ?_ ?_
   ·skip
    intro h
    simp only [decide_eq_true_eq] at h
    subst h
    refine W.go ?_
    refine W.cond rfl (fun _ => ?_) (fun h => absurd h (by decide))
    cases hw : eqTL ts [tInt, tInt] with
    | true =>
      have hwt : ∀ m, COk Tryz.prog 69 [.c (.sl (([tInt, tInt]).map cStr)), .rptr [.sl (ts.map cStr)]] m (.tup []) := fun m => by have := want_both [tInt, tInt] ts htl9 m; rw [hw] at this; exact this
      (repeat (first | refine W.seq ?_ | refine W.block ?_))
      refine W.regionK tab_ok 0 (by decide) ?_
      refine xs0 2 ?_
      refine runk_callR rfl rfl rfl rfl rfl zy30q31 (cvrs_cons cvr_refl (cvrs_cons (cvr_ptr rfl rfl) cvrs_nil)) (by rfl) (by rfl) hwt ?_
      refine xe0 ?_
      refine W.go ?_
      rw [show typK _ _ _ _ _ _ = _ from by simp [typK, hw]; rfl]
      refine W.ret ⟨by rfl, .inr rfl, ?_⟩
      simp only [Tryz.f43, resA, resOne, toT, fin, exb, Nat.reduceAdd, Nat.reduceLeDiff, Nat.reduceEqDiff, Nat.reduceMul, Int.reduceToNat, reduceIte, Int.reduceLE, Int.reduceNeg, Option.map_some]
    | false =>
      have hwt : ∀ m, XOk Tryz.prog 69 [.c (.sl (([tInt, tInt]).map cStr)), .rptr [.sl (ts.map cStr)]] m mism := fun m => by have := want_both [tInt, tInt] ts htl9 m; rw [hw] at this; exact this
      rw [show typK _ _ _ _ _ _ = none from by simp [typK, hw]]
      (repeat (first | refine W.seq ?_ | refine W.block ?_))
      refine W.panR (base := 0) (ch := mism) tab_ok 2 (by decide) rfl ?_
      refine xe0 ?_
      exact ⟨_, xs_callR rfl rfl rfl rfl zy30q31 (cvrs_cons cvr_refl (cvrs_cons (cvr_ptr rfl rfl) cvrs_nil)) hwt, by rfl, rfl⟩
   intro h16
   simp only [decide_eq_false_iff_not] at h16
   refine W.go ?_
   refine W.cond rfl ?_ ?_
   ·skip
    intro h
    simp only [decide_eq_true_eq] at h
    subst h
    cases hw : eqTL ts [tInt, tInt] with
    | true =>
      have hwt : ∀ m, COk Tryz.prog 69 [.c (.sl (([tInt, tInt]).map cStr)), .rptr [.sl (ts.map cStr)]] m (.tup []) := fun m => by have := want_both [tInt, tInt] ts htl9 m; rw [hw] at this; exact this
      (repeat (first | refine W.seq ?_ | refine W.block ?_))
      refine W.regionK tab_ok 0 (by decide) ?_
      refine xs0 2 ?_
      refine runk_callR rfl rfl rfl rfl rfl zy30q31 (cvrs_cons cvr_refl (cvrs_cons (cvr_ptr rfl rfl) cvrs_nil)) (by rfl) (by rfl) hwt ?_
      refine xe0 ?_
      refine W.go ?_
      rw [show typK _ _ _ _ _ _ = _ from by simp [typK, hw]; rfl]
      refine W.ret ⟨by rfl, .inr rfl, ?_⟩
      simp only [Tryz.f43, resA, resOne, toT, fin, exb, Nat.reduceAdd, Nat.reduceLeDiff, Nat.reduceEqDiff, Nat.reduceMul, Int.reduceToNat, reduceIte, Int.reduceLE, Int.reduceNeg, Option.map_some]
    | false =>
      have hwt : ∀ m, XOk Tryz.prog 69 [.c (.sl (([tInt, tInt]).map cStr)), .rptr [.sl (ts.map cStr)]] m mism := fun m => by have := want_both [tInt, tInt] ts htl9 m; rw [hw] at this; exact this
      rw [show typK _ _ _ _ _ _ = none from by simp [typK, hw]]
      (repeat (first | refine W.seq ?_ | refine W.block ?_))
      refine W.panR (base := 0) (ch := mism) tab_ok 2 (by decide) rfl ?_
      refine xe0 ?_
      exact ⟨_, xs_callR rfl rfl rfl rfl zy30q31 (cvrs_cons cvr_refl (cvrs_cons (cvr_ptr rfl rfl) cvrs_nil)) hwt, by rfl, rfl⟩
   intro h17
   simp only [decide_eq_false_iff_not] at h17
   refine W.go ?_
   refine W.cond rfl ?_ ?_
   ·skip
    intro h
    simp only [decide_eq_true_eq] at h
    subst h
    have k2 := k18 rfl
    obtain ⟨a, b, rfl⟩ : ∃ a b, ts = [a, b] := by
     have h2 : ts.length = 2 := by omega
     match ts, h2 with
     | [a, b], _ => exact ⟨a, b, rfl⟩
    have hfa := fun m => fits_ok p 0 [.str inn, .str ret, .sl (env.map cSlot)] a b hlen9 hchk m
    have hfb := fun m => fits_ok p 0 [.str inn, .str ret, .sl (env.map cSlot)] b a hlen9 hchk m
    (repeat (first | refine W.seq ?_ | refine W.block ?_))
    refine W.regionDK tab_ok 0 follows_mixed (by kernel_rfl) (by decide) ?_
    refine xe0 ?_
    (repeat (first | refine W.seq ?_ | refine W.block ?_))
    cases ai : isT a tInt with
    | true =>
      cases bi : isT b tInt with
      | true =>
        rw [show typK _ _ _ _ _ _ = some tInt from by simp [typK, sameT, hdT, ai, bi]]
        unfold isT at ai bi
        refine W.regionK tab_ok 0 (by decide) ?_
        refine runk_split 34 zy30q21 ?_
        refine runk_call rfl rfl rfl rfl rfl (by simp) cw1 (must_yes _) ?_
        refine xe0 ?_
        refine W.go ?_
        refine W.ret ⟨by rfl, .inr rfl, ?_⟩
        simp only [Tryz.f43, resA, resOne, toT, fin, exb, Nat.reduceAdd, Nat.reduceLeDiff, Nat.reduceEqDiff, Nat.reduceMul, Int.reduceToNat, reduceIte, Int.reduceLE, Int.reduceNeg, Option.map_some]
      | false =>
        rw [show typK _ _ _ _ _ _ = none from by simp [typK, sameT, hdT, ai, bi]]
        unfold isT at ai bi
        refine W.panR (base := 0) (ch := mism) tab_ok 34 (by decide) rfl ?_
        refine runk_exec zy30q21 ?_
        exact ⟨_, xs_call rfl rfl rfl rfl (by simp) cw1 (must_no _), by rfl, rfl⟩
    | false =>
      cases bi : isT b tInt with
      | true =>
        rw [show typK _ _ _ _ _ _ = none from by simp [typK, sameT, hdT, ai, bi]]
        unfold isT at ai bi
        refine W.panR (base := 0) (ch := mism) tab_ok 34 (by decide) rfl ?_
        refine runk_exec zy30q21 ?_
        exact ⟨_, xs_call rfl rfl rfl rfl (by simp) cw1 (must_no _), by rfl, rfl⟩
      | false =>
        cases an : isT a tNull with
        | true =>
          cases bn : isT b tNull with
          | true =>
            rw [show typK _ _ _ _ _ _ = some tInt from by simp [typK, sameT, hdT, ai, bi, an, bn]]
            unfold isT at ai bi an bn
            refine W.regionK tab_ok 0 (by decide) ?_
            refine runk_split 34 zy30q17 ?_
            refine runk_call rfl rfl rfl rfl rfl (by simp) cw1 (must_yes _) ?_
            refine xe0 ?_
            refine W.go ?_
            refine W.ret ⟨by rfl, .inr rfl, ?_⟩
            simp only [Tryz.f43, resA, resOne, toT, fin, exb, Nat.reduceAdd, Nat.reduceLeDiff, Nat.reduceEqDiff, Nat.reduceMul, Int.reduceToNat, reduceIte, Int.reduceLE, Int.reduceNeg, Option.map_some]
          | false =>
            cases fa : fitR 0 p.classes a b with
            | true =>
              rw [fa] at hfa
              rw [show typK _ _ _ _ _ _ = some tInt from by simp [typK, sameT, hdT, ai, bi, fa, an, bn]]
              unfold isT at ai bi an bn
              refine W.regionK tab_ok 0 (by decide) ?_
              refine runk_split 24 zy30q17 ?_
              refine runk_call rfl rfl rfl rfl rfl (by simp) cw3 (hfa _) ?_
              refine runk_split 9 zy30q17 ?_
              refine runk_call rfl rfl rfl rfl rfl (by simp) cw1 (must_yes _) ?_
              refine xe0 ?_
              refine W.go ?_
              refine W.ret ⟨by rfl, .inr rfl, ?_⟩
              simp only [Tryz.f43, resA, resOne, toT, fin, exb, Nat.reduceAdd, Nat.reduceLeDiff, Nat.reduceEqDiff, Nat.reduceMul, Int.reduceToNat, reduceIte, Int.reduceLE, Int.reduceNeg, Option.map_some]
            | false =>
              rw [fa] at hfa
              cases fb : fitR 0 p.classes b a with
              | true =>
                rw [fb] at hfb
                rw [show typK _ _ _ _ _ _ = some tInt from by simp [typK, sameT, hdT, ai, bi, fa, fb, an, bn]]
                unfold isT at ai bi an bn
                refine W.regionK tab_ok 0 (by decide) ?_
                refine runk_split 24 zy30q17 ?_
                refine runk_call rfl rfl rfl rfl rfl (by simp) cw3 (hfa _) ?_
                refine runk_split 5 zy30q17 ?_
                refine runk_call rfl rfl rfl rfl rfl (by simp) cw3 (hfb _) ?_
                refine runk_split 3 zy30q17 ?_
                refine runk_call rfl rfl rfl rfl rfl (by simp) cw1 (must_yes _) ?_
                refine xe0 ?_
                refine W.go ?_
                refine W.ret ⟨by rfl, .inr rfl, ?_⟩
                simp only [Tryz.f43, resA, resOne, toT, fin, exb, Nat.reduceAdd, Nat.reduceLeDiff, Nat.reduceEqDiff, Nat.reduceMul, Int.reduceToNat, reduceIte, Int.reduceLE, Int.reduceNeg, Option.map_some]
              | false =>
                rw [fb] at hfb
                rw [show typK _ _ _ _ _ _ = none from by simp [typK, sameT, hdT, ai, bi, fa, fb, an, bn]]
                unfold isT at ai bi an bn
                refine W.panR (base := 0) (ch := mism) tab_ok 34 (by decide) rfl ?_
                refine runk_split 24 zy30q17 ?_
                refine runk_call rfl rfl rfl rfl rfl (by simp) cw3 (hfa _) ?_
                refine runk_split 5 zy30q17 ?_
                refine runk_call rfl rfl rfl rfl rfl (by simp) cw3 (hfb _) ?_
                refine runk_exec zy30q17 ?_
                exact ⟨_, xs_call rfl rfl rfl rfl (by simp) cw1 (must_no _), by rfl, rfl⟩
        | false =>
          cases bn : isT b tNull with
          | true =>
            cases fa : fitR 0 p.classes a b with
            | true =>
              rw [fa] at hfa
              rw [show typK _ _ _ _ _ _ = some tInt from by simp [typK, sameT, hdT, ai, bi, fa, an, bn]]
              unfold isT at ai bi an bn
              refine W.regionK tab_ok 0 (by decide) ?_
              refine runk_split 24 zy30q17 ?_
              refine runk_call rfl rfl rfl rfl rfl (by simp) cw3 (hfa _) ?_
              refine runk_split 9 zy30q17 ?_
              refine runk_call rfl rfl rfl rfl rfl (by simp) cw1 (must_yes _) ?_
              refine xe0 ?_
              refine W.go ?_
              refine W.ret ⟨by rfl, .inr rfl, ?_⟩
              simp only [Tryz.f43, resA, resOne, toT, fin, exb, Nat.reduceAdd, Nat.reduceLeDiff, Nat.reduceEqDiff, Nat.reduceMul, Int.reduceToNat, reduceIte, Int.reduceLE, Int.reduceNeg, Option.map_some]
            | false =>
              rw [fa] at hfa
              cases fb : fitR 0 p.classes b a with
              | true =>
                rw [fb] at hfb
                rw [show typK _ _ _ _ _ _ = some tInt from by simp [typK, sameT, hdT, ai, bi, fa, fb, an, bn]]
                unfold isT at ai bi an bn
                refine W.regionK tab_ok 0 (by decide) ?_
                refine runk_split 24 zy30q17 ?_
                refine runk_call rfl rfl rfl rfl rfl (by simp) cw3 (hfa _) ?_
                refine runk_split 5 zy30q17 ?_
                refine runk_call rfl rfl rfl rfl rfl (by simp) cw3 (hfb _) ?_
                refine runk_split 3 zy30q17 ?_
                refine runk_call rfl rfl rfl rfl rfl (by simp) cw1 (must_yes _) ?_
                refine xe0 ?_
                refine W.go ?_
                refine W.ret ⟨by rfl, .inr rfl, ?_⟩
                simp only [Tryz.f43, resA, resOne, toT, fin, exb, Nat.reduceAdd, Nat.reduceLeDiff, Nat.reduceEqDiff, Nat.reduceMul, Int.reduceToNat, reduceIte, Int.reduceLE, Int.reduceNeg, Option.map_some]
              | false =>
                rw [fb] at hfb
                rw [show typK _ _ _ _ _ _ = none from by simp [typK, sameT, hdT, ai, bi, fa, fb, an, bn]]
                unfold isT at ai bi an bn
                refine W.panR (base := 0) (ch := mism) tab_ok 34 (by decide) rfl ?_
                refine runk_split 24 zy30q17 ?_
                refine runk_call rfl rfl rfl rfl rfl (by simp) cw3 (hfa _) ?_
                refine runk_split 5 zy30q17 ?_
                refine runk_call rfl rfl rfl rfl rfl (by simp) cw3 (hfb _) ?_
                refine runk_exec zy30q17 ?_
                exact ⟨_, xs_call rfl rfl rfl rfl (by simp) cw1 (must_no _), by rfl, rfl⟩
          | false =>
            cases fa : fitR 0 p.classes a b with
            | true =>
              rw [fa] at hfa
              rw [show typK _ _ _ _ _ _ = some tInt from by simp [typK, sameT, hdT, ai, bi, fa, an, bn]]
              unfold isT at ai bi an bn
              refine W.regionK tab_ok 0 (by decide) ?_
              refine runk_split 24 zy30q17 ?_
              refine runk_call rfl rfl rfl rfl rfl (by simp) cw3 (hfa _) ?_
              refine runk_split 9 zy30q17 ?_
              refine runk_call rfl rfl rfl rfl rfl (by simp) cw1 (must_yes _) ?_
              refine xe0 ?_
              refine W.go ?_
              refine W.ret ⟨by rfl, .inr rfl, ?_⟩
              simp only [Tryz.f43, resA, resOne, toT, fin, exb, Nat.reduceAdd, Nat.reduceLeDiff, Nat.reduceEqDiff, Nat.reduceMul, Int.reduceToNat, reduceIte, Int.reduceLE, Int.reduceNeg, Option.map_some]
            | false =>
              rw [fa] at hfa
              cases fb : fitR 0 p.classes b a with
              | true =>
                rw [fb] at hfb
                rw [show typK _ _ _ _ _ _ = some tInt from by simp [typK, sameT, hdT, ai, bi, fa, fb, an, bn]]
                unfold isT at ai bi an bn
                refine W.regionK tab_ok 0 (by decide) ?_
                refine runk_split 24 zy30q17 ?_
                refine runk_call rfl rfl rfl rfl rfl (by simp) cw3 (hfa _) ?_
                refine runk_split 5 zy30q17 ?_
                refine runk_call rfl rfl rfl rfl rfl (by simp) cw3 (hfb _) ?_
                refine runk_split 3 zy30q17 ?_
                refine runk_call rfl rfl rfl rfl rfl (by simp) cw1 (must_yes _) ?_
                refine xe0 ?_
                refine W.go ?_
                refine W.ret ⟨by rfl, .inr rfl, ?_⟩
                simp only [Tryz.f43, resA, resOne, toT, fin, exb, Nat.reduceAdd, Nat.reduceLeDiff, Nat.reduceEqDiff, Nat.reduceMul, Int.reduceToNat, reduceIte, Int.reduceLE, Int.reduceNeg, Option.map_some]
              | false =>
                rw [fb] at hfb
                rw [show typK _ _ _ _ _ _ = none from by simp [typK, sameT, hdT, ai, bi, fa, fb, an, bn]]
                unfold isT at ai bi an bn
                refine W.panR (base := 0) (ch := mism) tab_ok 34 (by decide) rfl ?_
                refine runk_split 24 zy30q17 ?_
                refine runk_call rfl rfl rfl rfl rfl (by simp) cw3 (hfa _) ?_
                refine runk_split 5 zy30q17 ?_
                refine runk_call rfl rfl rfl rfl rfl (by simp) cw3 (hfb _) ?_
                refine runk_exec zy30q17 ?_
                exact ⟨_, xs_call rfl rfl rfl rfl (by simp) cw1 (must_no _), by rfl, rfl⟩
   intro h18
   simp only [decide_eq_false_iff_not] at h18
   rw [show typK _ _ _ _ _ _ = some tInt from by simp [typK, h2, h3, h4, h5, h6, h7, h8, h9, h10, h12, h13, h14, h15, h16, h17, h18]]
   refine W.go ?_
   refine W.ret ⟨by rfl, .inr rfl, ?_⟩
   simp only [Tryz.f43, resA, resOne, toT, fin, exb, Nat.reduceAdd, Nat.reduceLeDiff, Nat.reduceEqDiff, Nat.reduceMul, Int.reduceToNat, reduceIte, Int.reduceLE, Int.reduceNeg, Option.map_some]
end
end V
end Go.Proofs.YthhpcjoaogmhbaaGreat
end
section
namespace Go.Proofs.YthhpcjoaogmhbaaGreat
namespace V
open Go.RowKit
def seenB (L : List ByteArray) (n : ByteArray) : Bool := L.any fun y => y.toList == n.toList
def dupAt (L : List ByteArray) : List ByteArray → Option (List ByteArray × ByteArray)
 | [] => none
 | x :: r => if seenB L x = true then some (L, x) else dupAt (L ++ [x]) r
theorem dupAt_fresh : ∀ (L l : List ByteArray), freshB L l = (dupAt L l).isNone
 | L, [] => rfl
 | L, x :: r => by
   unfold freshB dupAt
   have ih := dupAt_fresh (L ++ [x]) r
   cases h : seenB L x with
   | true => unfold seenB at h; simp [h]
   | false => unfold seenB at h; simp [h, ih]
theorem dupAt_append : ∀ (L a b : List ByteArray), dupAt L a = none → dupAt L (a ++ b) = dupAt (L ++ a) b
 | L, [], b, _ => by simp
 | L, x :: a, b, h => by
   simp only [dupAt] at h
   rw [List.cons_append, dupAt]
   cases hs : seenB L x with
   | true => rw [hs] at h; simp at h
   | false =>
     rw [hs] at h
     simp only [Bool.false_eq_true, if_false] at h ⊢
     rw [dupAt_append (L ++ [x]) a b h]
     simp
theorem dupAt_some : ∀ (L a b : List ByteArray) {r : List ByteArray × ByteArray}, dupAt L a = some r → dupAt L (a ++ b) = some r
 | L, [], b, r, h => by simp [dupAt] at h
 | L, x :: a, b, r, h => by
   simp only [dupAt] at h
   rw [List.cons_append, dupAt]
   cases hs : seenB L x with
   | true => rw [hs] at h; simpa using h
   | false =>
     rw [hs] at h
     simp only [Bool.false_eq_true, if_false] at h ⊢
     exact dupAt_some (L ++ [x]) a b h
theorem declSs_append : ∀ a b : List Stmt, declSs (a ++ b) = declSs a ++ declSs b
 | [], b => by simp [declSs]
 | x :: a, b => by simp [declSs, declSs_append a b]
def entsS (L : List ByteArray) : List (A1 × A1) := L.map fun n => (.c (.str n), .c (.int .i64 1))
theorem entsS_push (L : List ByteArray) (n : ByteArray) : entsS (L ++ [n]) = entsS L ++ [(.c (.str n), .c (.int .i64 1))] := by simp [entsS]
theorem entsS_flat (L : List ByteArray) : (entsS L).flatMap (fun p => p.1.ids ++ p.2.ids) = [] := by
 induction L with
 | nil => rfl
 | cons z l ih => rw [entsS, List.map_cons, List.flatMap_cons]; exact ih
theorem beq_sym (a b : List UInt8) : (a == b) = (b == a) := by
 cases h : a == b with
 | true => rw [beq_iff_eq] at h; subst h; simp
 | false => cases h2 : b == a with
   | true => rw [beq_iff_eq] at h2; subst h2; simp at h
   | false => rfl
theorem findS_none {n : ByteArray} : ∀ {L : List ByteArray}, seenB L n = false → findE (.c (.str n)) (entsS L) = some none
 | [], _ => rfl
 | y :: l, h => by
   unfold seenB at h
   rw [List.any_cons, Bool.or_eq_false_iff] at h
   have ih := findS_none (n := n) (L := l) h.2
   unfold entsS at ih ⊢
   simp only [List.map_cons, findE, keyEq, beq_sym n.toList, h.1, ih]
theorem findS_some {n : ByteArray} : ∀ {L : List ByteArray}, seenB L n = true → ∃ q, findE (.c (.str n)) (entsS L) = some (some (q, .c (.int .i64 1)))
 | [], h => by simp [seenB] at h
 | y :: l, h => by
   cases e : y.toList == n.toList with
   | true =>
     refine ⟨0, ?_⟩
     unfold entsS
     simp only [List.map_cons, findE, keyEq, beq_sym n.toList, e]
   | false =>
     unfold seenB at h
     rw [List.any_cons, e, Bool.false_or] at h
     obtain ⟨q, ih⟩ := findS_some (n := n) (L := l) h
     refine ⟨q + 1, ?_⟩
     unfold entsS at ih ⊢
     simp only [List.map_cons, findE, keyEq, beq_sym n.toList, e, ih]
theorem findE_set {n : ByteArray} {y v : A1} : ∀ {l : List (A1 × A1)} {q : Nat}, findE (.c (.str n)) l = some (some (q, v)) → findE (.c (.str n)) (l.set q (.c (.str n), y)) = some (some (q, y))
 | [], q, h => by simp [findE] at h
 | p :: l, q, h => by
   simp only [findE] at h
   cases hk : keyEq (.c (.str n)) p.1 with
   | none => rw [hk] at h; cases h
   | some b =>
     rw [hk] at h
     cases b with
     | true =>
       simp only [Option.some.injEq, Prod.mk.injEq] at h
       obtain ⟨rfl, -⟩ := h
       simp [findE, keyEq]
     | false =>
       simp only at h
       cases hf : findE (.c (.str n)) l with
       | none => rw [hf] at h; cases h
       | some o =>
         rw [hf] at h
         match o, h with
         | some (i, u), h =>
           simp only [Option.some.injEq, Prod.mk.injEq] at h
           obtain ⟨rfl, rfl⟩ := h
           rw [List.set_cons_succ]
           simp only [findE, hk, findE_set hf]
def entsD (L : List ByteArray) (n : ByteArray) : List (A1 × A1) := match findE (.c (.str n)) (entsS L) with | some r => putE (.c (.str n)) (.c (.int .i64 2)) (entsS L) r | none => []
def onceR (M : Mem) (j : Nat) (L ds : List ByteArray) : Option (A × Mem) := match dupAt L ds with | none => some (.tup [], upd M j (some (.map (entsS (L ++ ds))))) | some _ => none
def onceX (M : Mem) (j : Nat) (L ds : List ByteArray) : Mem := match dupAt L ds with | some (L', n) => upd M j (some (.map (entsD L' n))) | none => M
theorem flat_set {l : List (A1 × A1)} {q : Nat} {x : A1 × A1} (h : l.flatMap (fun p => p.1.ids ++ p.2.ids) = []) (hx : x.1.ids ++ x.2.ids = []) : (l.set q x).flatMap (fun p => p.1.ids ++ p.2.ids) = [] := by
 rw [List.flatMap_eq_nil_iff] at h ⊢
 intro y hy
 rcases List.mem_or_eq_of_mem_set hy with h1 | rfl
 ·exact h y h1
 ·exact hx
theorem entsD_flat (L : List ByteArray) (n : ByteArray) : (entsD L n).flatMap (fun p => p.1.ids ++ p.2.ids) = [] := by
 unfold entsD
 cases findE (.c (.str n)) (entsS L) with
 | none => rfl
 | some r =>
   match r with
   | none => show (entsS L ++ _).flatMap _ = []; rw [List.flatMap_append, entsS_flat]; rfl
   | some (i, v) => exact flat_set (entsS_flat L) rfl
theorem onceX_live {M : Mem} {j : Nat} {L ds : List ByteArray} : ∀ i, (M i).isSome = true → (onceX M j L ds i).isSome = true := fun i hi => by
 unfold onceX
 cases dupAt L ds with
 | some r => exact live_upd i hi
 | none => exact hi
theorem onceX_wf {M : Mem} {j : Nat} {L ds : List ByteArray} (hw : WFm M) : WFm (onceX M j L ds) := by
 unfold onceX
 split
 ·exact mwf_some hw (fun i hi => by simp only [O.ids] at hi; rw [entsD_flat] at hi; cases hi)
 ·exact hw
theorem mle_in {M : Mem} {i j : Nat} {x y z : Option O} (hij : i ≠ j) (hi : M i = none) : MLe (upd (upd (upd M j x) i y) j z) (upd M j z) := fun u => by
 by_cases e1 : u = j
 ·subst e1; exact .inr (by rw [upd_same, upd_same])
 ·by_cases e2 : u = i
  ·subst e2; exact .inl (by rw [upd_ne _ _ e1]; exact hi)
  ·exact .inr (by simp [upd, e1, e2])
theorem upd_sw {M : Mem} {i j : Nat} {x y z : Option O} (hij : i ≠ j) : upd (upd (upd M j x) i y) j z = upd (upd M j z) i y := by
 funext u
 by_cases e1 : u = j
 ·subst e1; rw [upd_same, upd_ne _ _ (Ne.symm hij), upd_same]
 ·by_cases e2 : u = i
  ·subst e2; rw [upd_ne _ _ e1, upd_same, upd_same]
  ·simp [upd, e1, e2]
def tabO : Tab := { tab with eff := fun f => f == 20 }
theorem OO.tab_ok : tabO.Ok Tryz.prog := ⟨V.tab_ok.ty, V.tab_ok.zero, V.tab_ok.elem, V.tab_ok.off, V.tab_ok.bool, V.tab_ok.fields, V.tab_ok.bytes, V.tab_ok.nilk, V.tab_ok.int, V.tab_ok.map, V.tab_ok.str, V.tab_ok.one, V.tab_ok.seq⟩
theorem OO.tabs : tabO.ty = tab.ty ∧ tabO.zero = tab.zero ∧ tabO.elem = tab.elem ∧ tabO.off = tab.off ∧ tabO.bool = tab.bool ∧ tabO.fields = tab.fields ∧ tabO.bytes = tab.bytes ∧ tabO.nilk = tab.nilk ∧ tabO.int = tab.int ∧ tabO.map = tab.map ∧ tabO.str = tab.str ∧ tabO.one = tab.one ∧ tabO.seq = tab.seq := ⟨rfl, rfl, rfl, rfl, rfl, rfl, rfl, rfl, rfl, rfl, rfl, rfl, rfl⟩
theorem mle_sw {M : Mem} {i j : Nat} {x y z : Option O} (hij : i ≠ j) : MLe (upd (upd (upd M j x) i y) j z) (upd (upd M j z) i y) := mle_refl' (by
 funext u
 by_cases e1 : u = j
 ·subst e1; rw [upd_same, upd_ne _ _ (Ne.symm hij), upd_same]
 ·by_cases e2 : u = i
  ·subst e2; rw [upd_ne _ _ e1, upd_same, upd_same]
  ·simp [upd, e1, e2])
theorem W.join {P : Go.Program} {R : Ref} {n : Nat} {ds : List Deferred} {st X : St} {c c2 : Code} {K : Exit → St → Prop} {Y : Prop} (h : W P R n ds st c (thenK (fun st' => Y ∧ Le R.keep st' X) K)) (h2 : Y → W P R n ds X c2 K) : W P R n ds st c (thenK (fun st' => W P R n ds st' c2 K) K) :=
 W.mono h fun e st' h => by
  cases e <;> first | exact W.weaken h.2 (h2 h.1) | exact h
theorem once_both : ∀ (n : Nat) (l : List Stmt), SizeOf.sizeOf l ≤ n → l.length ≤ 1048576 → SmallSs 1048576 l → ∀ (M : Mem) (b j : Nat) (L : List ByteArray), (∀ d, M (b + d) = none) → M j = some (.map (entsS L)) →
 TEff Tryz.prog 20 [.map j, .c (.sl (l.map cStmt))] M [] mism (onceX M j L (declSs l)) (onceR M j L (declSs l)) := by
 intro n
 induction n using Nat.strongRecOn with
 | ind n ih =>
 intro l hn hl hS M b j L hfar hj
 have hjb : ∀ d, (j = b + d) = False := base_ne hfar hj
 have hbj : ∀ d, (b + d = j) = False := base_ne' hfar hj
 obtain ⟨r, hr⟩ : ∃ r, onceR M j L (declSs l) = r := ⟨_, rfl⟩
 obtain ⟨Mx, hX⟩ : ∃ Mx, onceX M j L (declSs l) = Mx := ⟨_, rfl⟩
 rw [hr, hX]
 refine ok_bothE tab_ok [] r Tryz.func20 (by kernel_rfl) rfl rfl (by rfl) (by rfl) ?ids ?res (fun i hi _ => by rw [← hX]; exact onceX_live i hi) (fun hw => by rw [← hX]; exact onceX_wf hw) (fun hWF Rr hkeep => ?_)
 case ids => intro a ha i hi; simp at ha; rcases ha with rfl | rfl <;> simp [A.ids] at hi; subst hi; simp [hj]
 case res =>
  intro x M' hx
  rw [← hr] at hx
  unfold onceR at hx
  cases hd : dupAt L (declSs l) with
  | some r => rw [hd] at hx; cases hx
  | none =>
    rw [hd] at hx
    cases hx
    exact ⟨fun i hi => by simp [A.ids] at hi, fun i hi => live_upd i hi, fun hw => mwf_some hw (fun i hi => by simp only [O.ids] at hi; rw [entsS_flat] at hi; cases hi)⟩
 have kept : ∀ i, Rr.keep i → (M i).isSome = true := fun i hi => by rw [hkeep] at hi; exact hi.1
 have hw11 : IntKind.i64.wrap (1 + 1) = 2 := rfl
 have hw01 : IntKind.i64.wrap (0 + 1) = 1 := rfl
 repeat (first | refine W.seq ?_ | refine W.block ?_ | refine W.skip ?_ | refine W.exit ?_ | refine W.region tab_ok b (by decide) xr0 ?_)
 refine W.loop (ι := Nat) (fun k => ⟨upd (upd (upd (upd (fun _ => .top) 0 (.map j)) 6 (.c (.sl (l.map cStmt)))) 7 (.c (.int .i64 l.length))) 8 (.c (.int .i64 k)), upd M j (some (.map (entsS (L ++ declSs (l.take k)))))⟩) (fun k => k ≤ l.length ∧ dupAt L (declSs (l.take k)) = none) (fun k => l.length - k) 0 ?start ⟨Nat.zero_le _, rfl⟩ ?round
 case start =>
  refine le_mk ?sle ?mle ?swf ?mwf (fun i hi => live_upd i (kept i hi)) (by rfl)
  case swf => repeat (first | exact swf_top _ | refine swf_upd ?_ (by simp [A.ids, upd_app, hj]))
  case mwf => exact mwf_some hWF (fun i hi => by simp only [O.ids] at hi; rw [entsS_flat] at hi; cases hi)
  case mle => exact mle_refl' (upd_id M (by rw [hj]; simp [declSs])).symm
  case sle => repeat (first | exact sle_top _ | exact sle_refl _ | refine sle_upd ?_ zy30q25)
 case round =>
  rintro k ⟨hkl, hno⟩
  repeat (first | refine W.seq ?_ | refine W.block ?_ | refine W.skip ?_ | refine W.exit ?_ | refine W.region tab_ok b (by decide) xr0 ?_)
  refine W.cond rfl ?_ ?_
  ·intro hlt
   simp only [decide_eq_true_eq, Int.ofNat_lt] at hlt
   obtain ⟨x, hx⟩ : ∃ x, l[k]? = some x := ⟨_, List.getElem?_eq_getElem hlt⟩
   have hxm := List.mem_of_getElem? hx
   have hxs := List.sizeOf_lt_of_mem hxm
   have hSx := hS.mem hxm
   have hat := at_map (f := cStmt) hx
   have htk : declSs (l.take (k + 1)) = declSs (l.take k) ++ declS x := by rw [List.take_add_one, hx, declSs_append]; simp [declSs]
   have hsp : declSs l = declSs (l.take k) ++ (declS x ++ declSs (l.drop (k + 1))) := by rw [← List.append_assoc, ← htk, ← declSs_append, List.take_append_drop]
   obtain ⟨sk, sn, ty, nm, es, th, el⟩ := x
   simp only [SmallS] at hSx
   obtain ⟨-, -, q1, q2, q3, q4⟩ := hSx
   have hspec := Stmt.mk.sizeOf_spec sk sn ty nm es th el
   simp only [cStmt, cStmts_map] at hat
   simp only [declS] at htk hsp
   generalize hL1 : L ++ declSs (l.take k) = L1 at *
   have hf5 : M (b + 5) = none := hfar 5
   have hnow : dupAt L (declSs l) = dupAt L1 ((if sk = 1 then [nm] else []) ++ declSs th ++ declSs el ++ declSs (l.drop (k + 1))) := by rw [hsp, dupAt_append _ _ _ hno, hL1]
   have hl1 : ∀ u, L ++ (declSs (l.take k) ++ u) = L1 ++ u := fun u => by rw [← List.append_assoc, hL1]
   refine W.bl ?_
   refine W.regionK tab_ok b (by decide) ?_
   refine runk_exec (by simp only [exb, Nat.reduceAdd, Nat.reduceLeDiff, Nat.reduceEqDiff, Nat.reduceMul, Int.reduceToNat, reduceIte, Int.reduceLE, Int.reduceNeg, hat, hf5, upd_same, hjb, hbj]; rfl) ?_
   simp only [upd_upd]
   refine W.seq ?_
   refine W.join (X := ⟨upd (upd (upd (upd (upd (fun _ => .top) 0 (.map j)) 5 (.ptr (b + 5) 0)) 6 (.c (.sl (l.map cStmt)))) 7 (.c (.int .i64 l.length))) 8 (.c (.int .i64 k)), upd (upd M j (some (.map (entsS (L1 ++ (if sk = 1 then [nm] else [])))))) (b + 5) (some (.box 32 [.c (.int .i64 sk), .c (.int .i64 sn), .c (.str ty), .c (.str nm), .c (.sl (cExprs es)), .c (.sl (th.map cStmt)), .c (.sl (el.map cStmt))]))⟩) (Y := dupAt L1 (if sk = 1 then [nm] else []) = none) ?own ?rest
   case own =>
    refine W.bl ?_
    refine W.regionK tab_ok b (by decide) ?_
    refine runk_exec (by simp only [exb, Nat.reduceAdd, Nat.reduceLeDiff, Nat.reduceEqDiff, Nat.reduceMul, Int.reduceToNat, reduceIte, Int.reduceLE, Int.reduceNeg, upd_same, hjb, hbj]; rfl) ?_
    refine W.cond rfl ?_ ?_
    ·intro h
     simp only [decide_eq_true_eq] at h
     subst h
     cases hs : seenB L1 nm with
     | true =>
       obtain ⟨q, hfd⟩ := findS_some hs
       have hf2 := findE_set (y := .c (.int .i64 2)) hfd
       have hd : dupAt L (declSs l) = some (L1, nm) := by rw [hnow, if_pos rfl]; simp only [List.cons_append, dupAt, hs, if_true]
       have hr0 : onceR M j L (declSs l) = none := by unfold onceR; rw [hd]
       have hX0 : onceX M j L (declSs l) = upd M j (some (.map ((entsS L1).set q (.c (.str nm), .c (.int .i64 2))))) := by unfold onceX; rw [hd]; simp only [entsD, hfd]; rfl
       obtain rfl : r = none := hr.symm.trans hr0
       obtain rfl : Mx = _ := hX.symm.trans hX0
       refine W.bl ?_
       refine W.regionK tab_ok b (by decide) ?_
       refine runk_split 5 zy30q13 ?_
       refine runk_put tab_ok (ents := entsS L1) rfl (.inl rfl) rfl rfl zy30q18 rfl rfl (by rfl) rfl hfd ?_
       refine xe0 ?_
       refine W.bl ?_
       refine W.panR (base := b) (ch := mism) tab_ok 5 (by decide) rfl ?_
       refine runk_exec zy30q10 ?_
       exact ⟨_, xs_call rfl rfl rfl rfl (by simp) cw1 (must_no _), by rfl, rfl, mle_in (fun e => cast (hbj 5) e) hf5⟩
     | false =>
       have hfd := findS_none hs
       have hs2 : seenB (L1 ++ [nm]) nm = true := by unfold seenB; simp
       obtain ⟨q, hf2⟩ := findS_some hs2
       rw [entsS_push] at hf2
       refine W.bl ?_
       refine W.regionK tab_ok b (by decide) ?_
       refine runk_split 5 zy30q13 ?_
       refine runk_put tab_ok (ents := entsS L1) rfl (.inl rfl) rfl rfl zy30q18 rfl rfl (by rfl) rfl hfd ?_
       refine xe0 ?_
       refine W.bl ?_
       refine W.regionK tab_ok b (by decide) ?_
       refine runk_split 5 zy30q10 ?_
       refine runk_call rfl rfl rfl rfl rfl (by simp) cw1 (must_yes _) ?_
       refine xe0 ?_
       refine ⟨by rw [if_pos rfl]; simp only [dupAt, hs]; rfl, ?_⟩
       rw [if_pos rfl, entsS_push]
       refine le_mk ?sle ?mle ?swf ?mwf (fun i hi => by repeat (first | exact kept i hi | refine live_upd i ?_)) (by rfl)
       case swf => repeat (first | exact swf_top _ | refine swf_upd ?_ (by simp [A.ids, upd_app, hj, hbj, hjb]))
       case mwf => exact mwf_some (mwf_some hWF (fun i hi => by simp only [O.ids] at hi; first | (rw [entsS_flat] at hi; cases hi) | (rw [← entsS_push, entsS_flat] at hi; cases hi))) (fun i hi => by simp [O.ids, A.ids] at hi)
       case mle => first | exact mle_refl _ | exact mle_sw (fun e => cast (hbj 5) e)
       case sle => repeat (first | exact sle_top _ | exact sle_refl _ | refine sle_upd ?_ zy30q26)
    ·intro h
     simp only [decide_eq_false_iff_not] at h
     refine W.bl ?_
     refine ⟨by rw [if_neg h]; rfl, ?_⟩
     rw [if_neg h, List.append_nil]
     refine le_mk ?sle ?mle ?swf ?mwf (fun i hi => by repeat (first | exact kept i hi | refine live_upd i ?_)) (by rfl)
     case swf => repeat (first | exact swf_top _ | refine swf_upd ?_ (by simp [A.ids, upd_app, hj, hbj, hjb]))
     case mwf => exact mwf_some (mwf_some hWF (fun i hi => by simp only [O.ids] at hi; first | (rw [entsS_flat] at hi; cases hi) | (rw [← entsS_push, entsS_flat] at hi; cases hi))) (fun i hi => by simp [O.ids, A.ids] at hi)
     case mle => first | exact mle_refl _ | exact mle_sw (fun e => cast (hbj 5) e)
     case sle => repeat (first | exact sle_top _ | exact sle_refl _ | refine sle_upd ?_ zy30q26)
   case rest =>
    intro hdup
    generalize (if sk = 1 then [nm] else []) = A0 at *
    have hnow2 : dupAt L (declSs l) = dupAt (L1 ++ A0) (declSs th ++ (declSs el ++ declSs (l.drop (k + 1)))) := by rw [hnow, List.append_assoc, List.append_assoc, dupAt_append _ _ _ hdup]
    have hT := fun (M' : Mem) h1 h2 => ih (SizeOf.sizeOf th) (by omega) th (Nat.le_refl _) q1 q2 M' (b + 40) j (L1 ++ A0) h1 h2
    have far40 : ∀ (x : Option O) (o : Option O) d, (upd (upd M j x) (b + 5) o) (b + 40 + d) = none := fun x o d => by rw [upd_ne _ _ (by omega), upd_ne _ _ (fun e => cast (hbj (40 + d)) (by rw [← Nat.add_assoc]; exact e)), Nat.add_assoc]; exact hfar _
    have at40 : ∀ (x : Option O) (o : Option O), (upd (upd M j x) (b + 5) o) j = x := fun x o => by rw [upd_ne _ _ (fun e => cast (hjb 5) e), upd_same]
    cases hd : dupAt (L1 ++ A0) (declSs th) with
    | some res =>
      obtain ⟨L', n'⟩ := res
      have hd1 : dupAt L (declSs l) = some (L', n') := by rw [hnow2]; exact dupAt_some _ _ _ hd
      have hXc : ∀ M' : Mem, (∀ d, M' (b + 40 + d) = none) → M' j = some (.map (entsS _)) → CallX Tryz.prog 20 [.map j, .c (.sl ((th).map cStmt))] M' [] mism (upd M' j (some (.map (entsD L' n')))) := fun M' h1 h2 => by
       have := hT M' h1 h2; simp only [onceR, onceX, hd] at this; exact this
      have hr0 : onceR M j L (declSs l) = none := by unfold onceR; rw [hd1]
      have hX0 : onceX M j L (declSs l) = upd M j (some (.map (entsD L' n'))) := by unfold onceX; rw [hd1]
      obtain rfl : r = none := hr.symm.trans hr0
      obtain rfl : Mx = _ := hX.symm.trans hX0
      refine W.bl ?_
      refine W.panR (base := b) (ch := mism) OO.tab_ok 3 (by decide) rfl ?_
      refine runk_exec zy30q12 ?_
      exact ⟨_, xs_callE (D := []) (fun u hu => by simp at hu) rfl rfl rfl rfl (by simp) cw2 (hXc _ (far40 _ _) (at40 _ _)), by rfl, rfl, mle_in (fun e => cast (hbj 5) e) hf5⟩
    | none =>
      have hC : ∀ M' : Mem, (∀ d, M' (b + 40 + d) = none) → M' j = some (.map (entsS (L1 ++ A0))) → CallE Tryz.prog 20 [.map j, .c (.sl (th.map cStmt))] M' [] (.tup []) (upd M' j (some (.map (entsS (L1 ++ A0 ++ declSs th))))) := fun M' h1 h2 => by
       have := hT M' h1 h2; simp only [onceR, onceX, hd] at this; exact this
      refine W.bl ?_
      refine W.regionK OO.tab_ok b (by decide) ?_
      refine runk_split 3 zy30q12 ?_
      refine runk_callE (D := []) rfl rfl rfl rfl rfl (fun j hj => by simp at hj) (by simp) cw2 (hC _ (far40 _ _) (at40 _ _)) ?_
      simp only [killL, putS, upd_upd]
      refine xe0 ?_
      rw [upd_sw (fun e => cast (hbj 5) e)]
      clear hT hC
      have hnow3 : dupAt L (declSs l) = dupAt (L1 ++ A0 ++ declSs th) (declSs el ++ declSs (l.drop (k + 1))) := by rw [hnow2, dupAt_append _ _ _ hd]
      have hT := fun (M' : Mem) h1 h2 => ih (SizeOf.sizeOf el) (by omega) el (Nat.le_refl _) q3 q4 M' (b + 40) j (L1 ++ A0 ++ declSs th) h1 h2
      have far40 : ∀ (x : Option O) (o : Option O) d, (upd (upd M j x) (b + 5) o) (b + 40 + d) = none := fun x o d => by rw [upd_ne _ _ (by omega), upd_ne _ _ (fun e => cast (hbj (40 + d)) (by rw [← Nat.add_assoc]; exact e)), Nat.add_assoc]; exact hfar _
      have at40 : ∀ (x : Option O) (o : Option O), (upd (upd M j x) (b + 5) o) j = x := fun x o => by rw [upd_ne _ _ (fun e => cast (hjb 5) e), upd_same]
      cases hd2 : dupAt (L1 ++ A0 ++ declSs th) (declSs el) with
      | some res =>
        obtain ⟨L', n'⟩ := res
        have hd1 : dupAt L (declSs l) = some (L', n') := by rw [hnow3]; exact dupAt_some _ _ _ hd2
        have hXc : ∀ M' : Mem, (∀ d, M' (b + 40 + d) = none) → M' j = some (.map (entsS _)) → CallX Tryz.prog 20 [.map j, .c (.sl ((el).map cStmt))] M' [] mism (upd M' j (some (.map (entsD L' n')))) := fun M' h1 h2 => by
         have := hT M' h1 h2; simp only [onceR, onceX, hd2] at this; exact this
        have hr0 : onceR M j L (declSs l) = none := by unfold onceR; rw [hd1]
        have hX0 : onceX M j L (declSs l) = upd M j (some (.map (entsD L' n'))) := by unfold onceX; rw [hd1]
        obtain rfl : r = none := hr.symm.trans hr0
        obtain rfl : Mx = _ := hX.symm.trans hX0
        refine W.bl ?_
        refine W.panR (base := b) (ch := mism) OO.tab_ok 3 (by decide) rfl ?_
        refine runk_exec zy30q12 ?_
        exact ⟨_, xs_callE (D := []) (fun u hu => by simp at hu) rfl rfl rfl rfl (by simp) cw2 (hXc _ (far40 _ _) (at40 _ _)), by rfl, rfl, mle_in (fun e => cast (hbj 5) e) hf5⟩
      | none =>
        have hC : ∀ M' : Mem, (∀ d, M' (b + 40 + d) = none) → M' j = some (.map (entsS (L1 ++ A0 ++ declSs th))) → CallE Tryz.prog 20 [.map j, .c (.sl (el.map cStmt))] M' [] (.tup []) (upd M' j (some (.map (entsS (L1 ++ A0 ++ declSs th ++ declSs el))))) := fun M' h1 h2 => by
         have := hT M' h1 h2; simp only [onceR, onceX, hd2] at this; exact this
        refine W.bl ?_
        refine W.regionK OO.tab_ok b (by decide) ?_
        refine runk_split 3 zy30q12 ?_
        refine runk_callE (D := []) rfl rfl rfl rfl rfl (fun j hj => by simp at hj) (by simp) cw2 (hC _ (far40 _ _) (at40 _ _)) ?_
        simp only [killL, putS, upd_upd]
        refine xe0 ?_
        rw [upd_sw (fun e => cast (hbj 5) e)]
        repeat (first | refine W.seq ?_ | refine W.block ?_ | refine W.skip ?_ | refine W.exit ?_ | refine W.region tab_ok b (by decide) xr0 ?_)
        refine ⟨k + 1, ⟨hlt, ?_⟩, by omega, ?_⟩
        ·rw [htk, dupAt_append _ _ _ hno, hL1, List.append_assoc, dupAt_append _ _ _ hdup, dupAt_append _ _ _ hd]
         exact hd2
        have hfin : L ++ declSs (l.take (k + 1)) = L1 ++ A0 ++ declSs th ++ declSs el := by rw [htk, hl1]; simp only [List.append_assoc]
        rw [hfin]
        refine le_mk ?sle ?mle ?swf ?mwf (fun i hi => by repeat (first | exact kept i hi | refine live_upd i ?_)) (by rfl)
        case swf => repeat (first | exact swf_top _ | refine swf_upd ?_ (by simp [A.ids, upd_app, hj, hbj, hjb]))
        case mwf => exact mwf_some hWF (fun i hi => by simp only [O.ids] at hi; rw [entsS_flat] at hi; cases hi)
        case mle => exact mle_skip (mle_refl _) ((upd_ne (f := M) (t := j) (u := b + 5) _ (fun e => cast (hbj 5) e)).trans hf5)
        case sle => repeat (first | exact sle_top _ | exact sle_refl _ | refine sle_upd ?_ zy30q15)
  ·intro hge
   simp only [decide_eq_false_iff_not, Int.ofNat_lt] at hge
   obtain rfl : k = l.length := by omega
   rw [List.take_length] at hno ⊢
   have hr0 : onceR M j L (declSs l) = some (.tup [], upd M j (some (.map (entsS (L ++ declSs l))))) := by unfold onceR; rw [hno]
   obtain rfl : r = _ := hr.symm.trans hr0
   repeat (first | refine W.seq ?_ | refine W.block ?_ | refine W.skip ?_ | refine W.exit ?_ | refine W.region tab_ok b (by decide) xr0 ?_)
   exact ⟨by rfl, .inl rfl, by rfl, mle_refl _⟩
end V
end Go.Proofs.YthhpcjoaogmhbaaGreat
end
section
namespace Go.Proofs.YthhpcjoaogmhbaaGreat
namespace V
mutual
def KidsS : Stmt → Prop
 | ⟨k, _, _, _, es, th, el⟩ => (k = 2 → es.length = 2) ∧ (k = 3 ∨ k = 4 ∨ k = 5 ∨ k = 6 → 1 ≤ es.length) ∧ es.length ≤ 1048576 ∧ KidsEs es ∧ KidsSs th ∧ KidsSs el
def KidsSs : List Stmt → Prop
 | [] => True
 | x :: l => KidsS x ∧ KidsSs l
end
theorem KidsSs.mem : ∀ {l : List Stmt} {x : Stmt}, KidsSs l → x ∈ l → KidsS x
 | y :: l, x, h, hx => by
   simp only [KidsSs] at h
   rcases List.mem_cons.1 hx with rfl | hx
   ·exact h.1
   ·exact KidsSs.mem h.2 hx
end V
end Go.Proofs.YthhpcjoaogmhbaaGreat
end
section
namespace Go.Proofs.YthhpcjoaogmhbaaGreat
namespace V
open Go.RowKit
theorem MR.rewin {w0 w : World} {I0 I : Nat → Nat → Prop} {B : Nat → Value} {m : Mem} (hm : MR w0 I0 B I m w) {id : Nat} {ty e lo hi : Nat} {xs : List (List C)} (hj : m id = some (.mrow ty e xs)) (hh : hi ≤ xs.length) {v' : Value} (hx : RV B w I (.win id e lo hi) v') :
 MR w0 I0 (upd B id v') I (upd (killM id m) id (some (.mrow ty e ((xs.take hi).drop lo)))) w ∧ ∃ ad n cap, v' = .slice ad n cap := by
 obtain ⟨ad, n0, cap, hB, hlo, hhi, hv⟩ := hx
 obtain ⟨vs, hrow, hvs, hlx, hno⟩ := hm.objs id _ hj
 have hn0 : n0 = xs.length ∧ xs.length ≤ cap := by
  obtain ⟨ad', cp, e5, e6⟩ := hrow.shape
  rw [hB] at e5; cases e5; exact ⟨rfl, e6⟩
 obtain ⟨rfl, hnc⟩ := hn0
 have hvl := hvs.length
 have hfl := flat_len hlx
 have hlen : ((xs.take hi).drop lo).length = hi - lo := by simp; omega
 have hl1 : vs.length = xs.length * e := hrow.1
 have hle1 : hi * e ≤ xs.length * e := Nat.mul_le_mul_right e hh
 have hle2 : lo * e ≤ hi * e := Nat.mul_le_mul_right e hlo
 have hsub : (hi - lo) * e = hi * e - lo * e := Nat.sub_mul ..
 have hvl' : ((vs.take (hi * e)).drop (lo * e)).length = (hi - lo) * e := by simp; omega
 have hrow' : rowAt w ty e v' (hi - lo) ((vs.take (hi * e)).drop (lo * e)) := by
  refine ⟨hvl', ?_⟩
  rcases hrow.2 with ⟨e1, e2⟩ | ⟨g, off, c, cur, e1, hg, hnc', hm', hsz, htk⟩
  ·rw [hB] at e1
   simp only [Value.slice.injEq] at e1
   obtain ⟨rfl, -, rfl⟩ := e1
   obtain rfl : hi = 0 := by omega
   obtain rfl : lo = 0 := by omega
   exact .inl ⟨by rw [hv]; rfl, rfl⟩
  ·rw [hB] at e1
   cases e1
   by_cases hcl : cap = lo
   ·subst hcl
    obtain rfl : hi = cap := by omega
    refine .inr ⟨g, off, 0, cur, by rw [hv]; simp, hg, by omega, by omega, by omega, ?_⟩
    rw [Nat.sub_self, Nat.zero_mul, List.take_zero]
    exact (List.eq_nil_of_length_eq_zero (by rw [hvl']; simp)).symm
   ·have hcs : (cap - lo) * e = cap * e - lo * e := Nat.sub_mul ..
    have hle3 : lo * e ≤ cap * e := Nat.mul_le_mul_right e (by omega)
    refine .inr ⟨g, off + lo * e, cap - lo, cur, by rw [hv, if_neg hcl]; simp [Addr.add], hg, by omega, by omega, by omega, ?_⟩
    rw [← htk, List.take_take, Nat.min_eq_left (by omega), List.drop_take, List.drop_drop, ← hsub]
 have hob : v'.ownBlock = (B id).ownBlock ∨ v'.ownBlock = none := by
  rw [hv, hB]
  cases ad with
  | none => right; split <;> rfl
  | some z =>
    left
    split
    ·rfl
    ·obtain ⟨zb, zo, zs⟩ := z
     simp only [Value.ownBlock, Addr.add, Option.map_some]
     split <;> rfl
 have hflat : flat ((xs.take hi).drop lo) = ((flat xs).take (hi * e)).drop (lo * e) := by
  have ft : ∀ (k : Nat) (l : List (List C)), (∀ x ∈ l, x.length = e) → flat (l.take k) = (flat l).take (k * e) := by
   intro k
   induction k with
   | zero => intro l _; simp [flat]
   | succ k ih =>
     intro l hl
     cases l with
     | nil => simp [flat]
     | cons x l =>
       have hx := hl x (by simp)
       have := ih l (fun y hy => hl y (List.mem_cons_of_mem _ hy))
       have hk : (k + 1) * e = e + k * e := by rw [Nat.add_mul]; omega
       simp only [flat, List.take_succ_cons, List.flatten_cons] at this ⊢
       have h1 : x.length ≤ e + k * e := by omega
       have h2 : e + k * e - x.length = k * e := by omega
       rw [this, hk, List.take_append, List.take_of_length_le h1, h2]
  have fd : ∀ (k : Nat) (l : List (List C)), (∀ x ∈ l, x.length = e) → flat (l.drop k) = (flat l).drop (k * e) := by
   intro k
   induction k with
   | zero => intro l _; simp [flat]
   | succ k ih =>
     intro l hl
     cases l with
     | nil => simp [flat]
     | cons x l =>
       have hx := hl x (by simp)
       have := ih l (fun y hy => hl y (List.mem_cons_of_mem _ hy))
       have hk : (k + 1) * e = e + k * e := by rw [Nat.add_mul]; omega
       simp only [flat, List.drop_succ_cons, List.flatten_cons] at this ⊢
       have h1 : x.length ≤ e + k * e := by omega
       have h2 : e + k * e - x.length = k * e := by omega
       rw [this, hk, List.drop_append, List.drop_eq_nil_of_le h1, h2, List.nil_append]
  rw [fd _ _ (fun x hx => hlx x (List.mem_of_mem_take hx)), ft _ _ hlx]
 have hm' := hm.reval (id := id) (o' := .mrow ty e ((xs.take hi).drop lo)) (v' := v') (w' := w) (I' := I) hj rfl rfl rfl (Nat.le_refl _) (fun _ _ _ => rfl)
  (fun k hk => by
    have hk : (upd B id v' id).ownBlock = some k := hk
    rw [upd_same] at hk
    rcases hob with q | q
    ·rw [q] at hk; exact ⟨(hm.low id _ hj k hk).2, .inl hk⟩
    ·rw [q] at hk; cases hk)
  (Ext.refl _ _) (fun b p hp => .inl hp)
  ⟨_, by rw [upd_same, hlen]; exact hrow', by rw [hflat]; exact (hvs.take _).drop _, fun x hx => hlx x (List.mem_of_mem_take (List.mem_of_mem_drop hx)), fun b hb p hp => by
    rw [upd_same] at hb
    rcases hob with q | q
    ·rw [q] at hb; exact hno b hb p hp
    ·rw [q] at hb; cases hb⟩ (fun i hi => by simp [O.ids] at hi)
 obtain ⟨ad', cp', q, -⟩ := hrow'.shape
 exact ⟨hm', _, _, _, q⟩
theorem SR.rewinBox {R : Ref} {n : Nat} {ds : List Deferred} {st : St} {a : Act} {w : World} (j k id : Nat) {tyb ty e lo hi : Nat} {cells : List A} {xs : List (List C)} (hr : SR R n ds st a w) (hjb : st.m j = some (.box tyb cells)) (hk : cells[k]? = some (.win id e lo hi)) (hid : st.m id = some (.mrow ty e xs)) (hh : hi ≤ xs.length) (hji : j ≠ id) (hkp : ¬ R.keep id) :
 SR R n ds ⟨killS id st.s, upd (upd (killM id st.m) id (some (.mrow ty e ((xs.take hi).drop lo)))) j (some (.box tyb ((cells.map (A.kill id)).set k (.own id))))⟩ a w := by
 obtain ⟨⟨B, I, hm, hx0, hkp0, hs⟩, h2, h3, hnn, h4, h5⟩ := hr
 obtain ⟨b0, vs0, p1, p2, p3, p4⟩ := hm.objs j _ hjb
 obtain ⟨v', u1, u2, u3⟩ := p3.at k _ hk
 obtain ⟨hm', ad, nn, cap, hsh⟩ := hm.rewin hid hh u2
 have hBne : ∀ i, i ≠ id → upd B id v' i = B i := fun i hi => upd_ne _ _ hi
 have hj' : upd (killM id st.m) id (some (.mrow ty e ((xs.take hi).drop lo))) j = some (.box tyb (cells.map (A.kill id))) := by
  rw [upd_ne _ _ hji, killM_app, hjb]; rfl
 obtain ⟨b, vs, q1, q2, q3, q4⟩ := hm'.objs j _ hj'
 have hbb : b0 = b := by
  rw [hBne j hji, p1] at q1; cases q1; rfl
 subst hbb
 have hvv : vs0 = vs := by
  rw [p2] at q2
  have := Option.some.inj q2
  simp at this; exact this
 subst hvv
 have liv0 : ∀ i, (st.m i).isSome = true → (upd (killM id st.m) id (some (.mrow ty e ((xs.take hi).drop lo))) i).isSome = true := fun i hi => by
  unfold upd; split
  ·rfl
  ·rw [killM_app]; simpa using hi
 obtain ⟨hm2, hE2⟩ := hm'.turn (w' := w) (o' := .box tyb ((cells.map (A.kill id)).set k (.own id))) hj' ⟨0, q1⟩ (fun q hq => by obtain ⟨off, hq⟩ := hq; rw [q1] at hq; cases hq; rfl) q4 rfl rfl rfl rfl (fun _ _ => rfl) (fun i hi => by
  obtain ⟨a', ha', hi'⟩ := List.mem_flatMap.1 hi
  rcases List.mem_or_eq_of_mem_set ha' with ha' | rfl
  ·exact hm'.live j _ hj' i (List.mem_flatMap.2 ⟨a', ha', hi'⟩)
  ·simp [A.ids] at hi'; subst hi'; rw [upd_same]; rfl) (fun _ => by
  refine ⟨b0, vs0, q1, q2, ?_, q4⟩
  have hl := q3.length
  refine RVs.of (by rw [List.length_set]; exact hl) fun q a' v2 ha' hv2 => ?_
  rw [List.getElem?_set] at ha'
  split at ha'
  ·rename_i hq
   subst hq
   split at ha'
   ·cases ha'
    rw [hv2] at u1; cases u1
    exact ⟨⟨(upd_same ..).symm, _, _, _, hsh⟩, u3⟩
   ·cases ha'
  ·obtain ⟨v3, r1, r2, r3⟩ := q3.at q _ ha'
   rw [hv2] at r1; cases r1
   exact ⟨r2, r3⟩)
 have liv : ∀ i, (st.m i).isSome = true → (upd (upd (killM id st.m) id (some (.mrow ty e ((xs.take hi).drop lo)))) j (some (.box tyb ((cells.map (A.kill id)).set k (.own id)))) i).isSome = true := fun i hi => live_upd i (liv0 i hi)
 refine ⟨⟨_, I, hm2, hx0, fun i hi => (hBne i (fun e => hkp (e ▸ hi))).trans (hkp0 i hi), fun u => ?_⟩, fun u i hi => ?_, h3, hnn, ?_, fun i hi => liv i (h5 i hi)⟩
 ·show RV _ w I (killS id st.s u) _
  rw [killS_app]
  rcases (A.kill_ids (id := id) (a := st.s u)).2 with q | ⟨q, hn⟩
  ·rw [q]; trivial
  ·rw [q]
   exact (hs u).mono (Ext.refl _ _) fun i hi => hBne i (fun e => hn (e ▸ hi))
 ·replace hi : i ∈ (killS id st.s u).ids := hi
  rw [killS_app] at hi
  exact liv i (h2 u i ((A.kill_ids (id := id) (a := st.s u)).1 i hi).1)
 ·show _ = dfs (killS id st.s DID) ++ ds
  rw [killS_app, dfs_kill]; exact h4
theorem W.rewinBox {P : Go.Program} {R : Ref} {n : Nat} {ds : List Deferred} {st : St} {c : Code} {K : Exit → St → Prop} (j k id : Nat) {tyb ty e lo hi : Nat} {cells : List A} {xs : List (List C)} (hjb : st.m j = some (.box tyb cells)) (hk : cells[k]? = some (.win id e lo hi)) (hid : st.m id = some (.mrow ty e xs)) (hh : hi ≤ xs.length) (hji : j ≠ id) (hkp : ¬ R.keep id)
 (h : W P R n ds ⟨killS id st.s, upd (upd (killM id st.m) id (some (.mrow ty e ((xs.take hi).drop lo)))) j (some (.box tyb ((cells.map (A.kill id)).set k (.own id))))⟩ c K) : W P R n ds st c K := fun a w hr => h a w (hr.rewinBox j k id hjb hk hid hh hji hkp)
end V
end Go.Proofs.YthhpcjoaogmhbaaGreat
end
section
namespace Go.Proofs.YthhpcjoaogmhbaaGreat
namespace V
open Go.RowKit
set_option maxRecDepth 100000 in
theorem cloneP_mut (l : List Slot) (hl : l.length ≤ 1000000000) (M : Mem) (id : Nat) (hid : M id = none) : CallE Tryz.prog 19 [.c (.sl (l.map cSlot))] M [] (.own id) (upd M id (some (.mrow 45 2 (l.map cSlot)))) :=
 clone_mut Tryz.laysClone19 slotInfo (by decide) (enters_of Tryz.func19 (by kernel_rfl) rfl) (l.map cSlot) (fun x hx => by obtain ⟨y, -, rfl⟩ := List.mem_map.1 hx; rfl) (by rw [List.length_map]; omega) M id hid
def KB (T : Tab) (l : List ResultVar) (ch : List PanicEntry) (Mx : Mem) : Option (A × Mem) → Exit → St → Prop
 | some (x, M'), e, st => (e = .normal ∨ e = .ret) ∧ dfs (st.s DID) = [] ∧ resE T st l = some x ∧ MLe st.m M'
 | none, e, st => e = .panic ch ∧ dfs (st.s DID) = [] ∧ MLe st.m Mx
def DB (Dy Dn : List Nat) : Option (A × Mem) → List Nat
 | some _ => Dy
 | none => Dn
def TEffD (P : Go.Program) (f : FuncId) (args : List A) (M : Mem) (Dy Dn : List Nat) (ch : List PanicEntry) (Mx : Mem) : Option (A × Mem) → Prop
 | some (r, M') => CallE P f args M Dy r M'
 | none => CallX P f args M Dn ch Mx
theorem ok_bothD {P : Go.Program} {T : Tab} (hT : T.Ok P) {f : FuncId} {fn : Func} {c : Code} {l : List ResultVar} {args : List A} {M : Mem} (Dy Dn : List Nat) {ch : List PanicEntry} {Mx : Mem} (r : Option (A × Mem)) (hf : P.funcs[f]? = some fn) (hn : (fn.name == "runtime.NumGoroutine") = false) (hb : fn.body = some c) (hl : fn.results.toList = l)
 (hle : decide (args.length ≤ fn.ntmps ∧ fn.ntmps ≤ DID) = true) (hdf : args.all (fun a => !(match a with | .defs _ => true | _ => false)) = true) (hids : ∀ a ∈ args, ∀ j ∈ a.ids, (M j).isSome = true)
 (hr : ∀ x M', r = some (x, M') → (∀ j ∈ x.ids, (M' j).isSome = true) ∧ (∀ j, (M j).isSome = true → (M' j).isSome = true) ∧ (WFm M → WFm M')) (hsx : ∀ j, (M j).isSome = true → j ∉ Dn → (Mx j).isSome = true) (hwx : WFm M → WFm Mx)
 (hW : WFm M → ∀ R : Ref, R.keep = (fun j => (M j).isSome = true ∧ j ∉ DB Dy Dn r) → W P R fn.ntmps [] ⟨entry args, M⟩ c (KB T l ch Mx r)) : TEffD P f args M Dy Dn ch Mx r := by
 match r, hr, hW with
 | some (x, M'), hr, hW =>
   obtain ⟨h1, h2, h3⟩ := hr x M' rfl
   exact ok_eff hT Dy hf hn hb hl hle hdf hids h1 h2 h3 (fun hWF R hR => W.mono (hW hWF R hR) fun e st ⟨q1, q2, q3, q4⟩ => ⟨q1, q2, q3, q4⟩)
 | none, hr, hW =>
   exact ok_effx hT Dn hf hn hb hle hdf hids hsx hwx (fun hWF R hR => W.mono (hW hWF R hR) fun e st ⟨q1, q2, q3⟩ => ⟨q1, q2, q3⟩)
theorem W.thenRewinBox {P : Go.Program} {R : Ref} {n : Nat} {ds : List Deferred} {st : St} {c : Code} {K : Exit → St → Prop} (j k id : Nat) (hji : j ≠ id) (hkp : ¬ R.keep id)
 (h : W P R n ds st c fun e st' => ∃ tyb ty e0 lo hi cells xs, st'.m j = some (.box tyb cells) ∧ cells[k]? = some (.win id e0 lo hi) ∧ st'.m id = some (.mrow ty e0 xs) ∧ hi ≤ xs.length ∧ K e ⟨killS id st'.s, upd (upd (killM id st'.m) id (some (.mrow ty e0 ((xs.take hi).drop lo)))) j (some (.box tyb ((cells.map (A.kill id)).set k (.own id))))⟩) : W P R n ds st c K := fun a w hr =>
 wp_mono (h a w hr) fun e a' w' ⟨st', ⟨tyb, ty, e0, lo, hi, cells, xs, h1, h2, h3, h4, h5⟩, hr'⟩ => ⟨_, h5, hr'.rewinBox j k id h1 h2 h3 h4 hji hkp⟩
mutual
def cntS : Stmt → Nat
 | ⟨_, _, _, _, _, th, el⟩ => 1 + cntSs th + cntSs el
def cntSs : List Stmt → Nat
 | [] => 0
 | x :: l => cntS x + cntSs l
end
theorem cntSs_append : ∀ a b : List Stmt, cntSs (a ++ b) = cntSs a + cntSs b
 | [], b => by simp [cntSs]
 | x :: a, b => by simp [cntSs, cntSs_append a b]; omega
theorem cntSs_len : ∀ l : List Stmt, l.length ≤ cntSs l
 | [] => Nat.le_refl _
 | x :: l => by
   have := cntSs_len l
   rw [List.length_cons, cntSs]
   cases x
   rw [cntS]; omega
def envK (env : List Slot) : List Stmt → List Slot
 | [] => env
 | x :: l => envK (if x.kind = 1 then env ++ [⟨x.type, x.name⟩] else env) l
theorem envK_snoc (env : List Slot) : ∀ (l : List Stmt) (x : Stmt), envK env (l ++ [x]) = (if x.kind = 1 then envK env l ++ [⟨x.type, x.name⟩] else envK env l) := by
 intro l
 induction l generalizing env with
 | nil => intro x; rfl
 | cons y l ih => intro x; rw [List.cons_append, envK, ih]; rfl
theorem envK_len (env : List Slot) : ∀ l : List Stmt, (envK env l).length ≤ env.length + l.length := by
 intro l
 induction l generalizing env with
 | nil => exact Nat.le_refl _
 | cons y l ih =>
   rw [envK]
   have := ih (if y.kind = 1 then env ++ [⟨y.type, y.name⟩] else env)
   rw [List.length_cons]
   split at this
   ·rename_i h; rw [if_pos h]; rw [List.length_append, List.length_singleton] at this; omega
   ·rename_i h; rw [if_neg h]; omega
theorem envK_pre (env : List Slot) : ∀ l : List Stmt, ∃ t, envK env l = env ++ t := by
 intro l
 induction l generalizing env with
 | nil => exact ⟨[], by simp [envK]⟩
 | cons y l ih =>
   rw [envK]
   split
   ·obtain ⟨t, ht⟩ := ih (env ++ [⟨y.type, y.name⟩])
    exact ⟨_, by rw [ht, List.append_assoc]⟩
   ·exact ih env
theorem blockTB_snoc (cs : List Class) (inn ret : ByteArray) (env : List Slot) : ∀ (a b : List Stmt), blockTB cs inn ret env (a ++ b) = (blockTB cs inn ret env a && blockTB cs inn ret (envK env a) b) := by
 intro a
 induction a generalizing env with
 | nil => intro b; simp [blockTB, envK]
 | cons y a ih => intro b; rw [List.cons_append, blockTB, blockTB, envK, ih, Bool.and_assoc]
end V
end Go.Proofs.YthhpcjoaogmhbaaGreat
end
section
namespace Go.Proofs.YthhpcjoaogmhbaaGreat
namespace V
open Go.RowKit
section
variable {P : Go.Program} {T : Tab} {kp : Nat → Prop} {base : Nat} {ops : Array Oper} {K : St → Prop}
theorem step_appendNil (hT : T.Ok P) {f i : Nat} {listed : Array Bool} {st : St} {rl : List Nat} {o : Oper} (ho : ops[i]? = some o) {c : Call} {x y : Operand} {t d : Nat} (id : Nat) {e n b : Nat} (fz : Bool) {zs : List Value} {ys : List (List C)} (h : wantA ops o st.s = some true) (hop : o.op = .call c) (hc : c.callee = .builtin .append) (ha : c.args = #[x, y]) (ht : c.argTypes = #[t, t]) (hd : o.dst = some d)
 (hx : ev st.s x = .nil) (hm : st.m id = none) (hy : asC st.m (ev st.s y) = some (.sl ys)) (h1 : T.elem t = some (e, n)) (h2 : T.bytes e = some b) (h3 : T.zero e = some zs) (h4 : zs.length = n) (hl : ∀ z ∈ ys, z.length = n) (hb : ys.length * b ≤ 140737488355328) (hb0 : 0 < b)
 (hr : RunsW P T kp base ops K f (listed.setIfInBounds i true) ⟨upd st.s d (.own id), upd st.m id (some (rowO fz e n ys))⟩) (tl : Steps P T kp base ops K f listed st rl) : Steps P T kp base ops K f listed st (i :: rl) :=
 ⟨⟨o, _, ho, .eff (eff_appendNil hT fz ⟨h, hop, hc, ha, ht, hd, hx, hm, hy, h1, h2, h3, h4, hl, hb, app_small hb hb0⟩), hr⟩, tl⟩
end
def apartB (ops : Array Oper) (listed : Array Bool) (i : Nat) : Bool := match ops[i]? with
 | some oi => (List.range ops.size).all fun j => j == i || listed.getD j true || (match ops[j]? with | some oj => (oj.after.any fun e => Region.binds .any e && e.on == i) || oi.apart ops oj | none => true)
 | none => false
def noSelB (ops : Array Oper) : Bool := ops.all fun o => match o.op with | .select _ _ => false | _ => true
def RX (P : Go.Program) (R : Ref) (n : Nat) (ds : List Deferred) (ops : Array Oper) (K : St → Prop) (f : Nat) (listed : Array Bool) (st : St) : Prop :=
 listed.size = ops.size → ClosedL ops listed → ∀ a w, SR R n ds st a w → wpAny P .any ops (fun e a w => ∃ st', (e = Exit.normal ∧ K st') ∧ SR R n ds st' a w) f listed a w
section
variable {P : Go.Program} {T : Tab} {R : Ref} {n : Nat} {ds : List Deferred} {base : Nat} {ops : Array Oper} {K : St → Prop}
theorem rx_runs (hT : T.Ok P) (hd : dstOk n ops = true) {f : Nat} {listed : Array Bool} {st : St} (h : RunsW P T R.keep base ops K f listed st) : RX P R n ds ops K f listed st := fun h1 h2 a w hr =>
 runs_snd hT (dstOk_spec hd) (fun st' a w hk hr' => ⟨st', ⟨rfl, hk⟩, hr'⟩) _ _ st a _ (h h1 h2 hr.wf) hr
theorem rx_pure (hT : T.Ok P) (hd : dstOk n ops = true) (hns : noSelB ops = true) {f : Nat} {listed : Array Bool} {st : St} (i : Nat) {o : Oper} (ho : ops[i]? = some o) (hpu : ∀ a w, SR R n ds st a w → ∃ v, ∀ w', (execOp a.eval o).run P w' = .ok (.value v) w') (hg : o.guard = none) (hi : (Region.ready .any ops listed).contains i = true) (hap : apartB ops listed i = true)
 (h : ∃ st1, exec1 T base ops i st = some st1 ∧ RX P R n ds ops K f (listed.setIfInBounds i true) st1) : RX P R n ds ops K (f + 1) listed st := by
 intro hsz hc a w hr
 obtain ⟨st1, h1, h2⟩ := h
 have hi : i ∈ Region.ready .any ops listed := by simpa using hi
 obtain ⟨o', ho', hs⟩ := exec1_hs (P := P) (kp := R.keep) h1
 rw [ho] at ho'; cases ho'
 have hwant : ∀ a : Act, Region.wanted o (yielded ops a.tmps) = true := fun a => by simp [Region.wanted, hg]
 obtain ⟨v, hrun⟩ := hpu a w hr
 have hgo := hs.snd hT hr (hd := fun d e => dstOk_spec hd o (Array.mem_of_getElem? ho) d e) (K := fun a' w' => SR R n ds st1 a' w') (Q := fun _ _ _ => False) (fun a' w' hr' => hr')
 rw [if_pos (hwant a)] at hgo
 unfold Oper.wp at hgo
 rw [hrun] at hgo
 refine wpAny_first (oi := o) (v := v) ho (fun j oj cs b hj e => ?_) (fun c a w hq => by obtain ⟨_, ⟨hq, -⟩, -⟩ := hq; cases hq) f listed a w (fun j oj hj hji hl hne => ?_) hi (.inl ⟨hwant a, hrun⟩) (h2 (by simpa using hsz) (closed_set hsz hc hi) _ _ hgo)
 ·have := Array.all_eq_true.1 hns j (Array.getElem?_eq_some_iff.1 hj).1
  rw [(Array.getElem?_eq_some_iff.1 hj).2, e] at this
  cases this
 ·unfold apartB at hap
  rw [ho] at hap
  have hlt := (Array.getElem?_eq_some_iff.1 hj).1
  have := List.all_eq_true.1 hap j (List.mem_range.2 hlt)
  simp only [Bool.or_eq_true, beq_iff_eq, hj] at this
  rcases this with (z | z) | z | z
  ·exact absurd z hji
  ·rw [Array.getD_eq_getD_getElem?] at z hl
   rw [hl] at z; cases z
  ·obtain ⟨q, hq, hz⟩ := Array.any_eq_true'.1 z
   simp only [Bool.and_eq_true, beq_iff_eq] at hz
   exact absurd hz.2 (hne q hq hz.1)
  ·exact z
theorem rx_move (hT : T.Ok P) (hd : dstOk n ops = true) (hns : noSelB ops = true) {f : Nat} {listed : Array Bool} {st : St} (i : Nat) {o : Oper} {x : Operand} (ho : ops[i]? = some o) (hop : o.op = .move x) (hg : o.guard = none) (hi : (Region.ready .any ops listed).contains i = true) (hap : apartB ops listed i = true)
 (h : ∃ st1, exec1 T base ops i st = some st1 ∧ RX P R n ds ops K f (listed.setIfInBounds i true) st1) : RX P R n ds ops K (f + 1) listed st :=
 rx_pure hT hd hns i ho (fun a w _ => ⟨a.eval x, fun w' => by simp [execOp, hop]⟩) hg hi hap h
theorem rx_field (hT : T.Ok P) (hd : dstOk n ops = true) (hns : noSelB ops = true) {f : Nat} {listed : Array Bool} {st : St} (i : Nat) {o : Oper} {ty fl j off : Nat} {x : Operand} {q : Nat × Nat × Bool} (ho : ops[i]? = some o) (hop : o.op = .fieldAddr ty x fl) (hx : ev st.s x = .ptr j off) (hq : T.off ty fl = some q) (hg : o.guard = none) (hi : (Region.ready .any ops listed).contains i = true) (hap : apartB ops listed i = true)
 (h : ∃ st1, exec1 T base ops i st = some st1 ∧ RX P R n ds ops K f (listed.setIfInBounds i true) st1) : RX P R n ds ops K (f + 1) listed st :=
 rx_pure hT hd hns i ho (fun a w hr => by
  obtain ⟨B, I, hm, -, -, hs⟩ := hr.ex
  have := ev_rv hs x
  rw [hx] at this
  obtain ⟨b, -, hv⟩ := this
  obtain ⟨o1, n1, g1⟩ := q
  exact ⟨.pointer (some ⟨b, off + o1, none⟩), fun w' => by simp only [execOp, hop, hv, Sem.run_bind, run_fieldAddr hT hq, Result.andThen_ok]; rfl⟩) hg hi hap h
theorem W.regionX (hT : T.Ok P) {id : Nat} {st : St} {Kx : Exit → St → Prop} (hm : P.follows .mixedOrders = true) (can : St) (h : RX P R n ds ops (fun st' => Le R.keep st' can) ops.size (Array.replicate ops.size false) st) (hK : ∀ st', Le R.keep st' can → Kx .normal st') : W P R n ds st (.region id ops true) Kx := by
 intro a w hr
 have hx := h (by simp) (closed_none rfl) a { w with drawn := w.drawn + 1 } (by
  obtain ⟨⟨B, I, hmr, hx0, hkp, hs⟩, h2, h3, hnn, h4, h5⟩ := hr
  have hE : Ext w w.drew I I := ⟨fun _ _ k => k, fun _ _ _ => rfl⟩
  exact ⟨⟨B, I, hmr.call (Below.refl _ _).drew, hx0.trans hE, hkp, fun t => (hs t).mono hE fun _ _ => rfl⟩, h2, h3, hnn, h4, h5⟩)
 exact wp_mono (wp_region_any hm hx) fun e a w ⟨st', ⟨he, hk⟩, hs⟩ => ⟨st', he ▸ hK st' hk, hs⟩
end
end V
end Go.Proofs.YthhpcjoaogmhbaaGreat
end
section
namespace Go.Proofs.YthhpcjoaogmhbaaGreat
namespace V
open Go.RowKit
def blkR (M : Mem) (ok : Bool) : Option (A × Mem) := if ok = true then some (.tup [], M) else none
theorem mle_row {M : Mem} {e i j k : Nat} {x y z z' w : Option O} (hij : j ≠ i) (hjk : j ≠ k) (hje : j ≠ e) (hie : i ≠ e) (hj : M j = none) : MLe (upd (upd (upd (upd (upd M e x) i y) k z) j w) k z') (upd (upd (upd M e x) i y) k z') := fun u => by
 by_cases h1 : u = k
 ·subst h1; exact .inr (by rw [upd_same, upd_same])
 ·by_cases h2 : u = j
  ·subst h2; exact .inl (by rw [upd_ne _ _ h1, upd_ne _ _ hij, upd_ne _ _ hje]; exact hj)
  ·exact .inr (by rw [upd_ne _ _ h1, upd_ne _ _ h1, upd_ne _ _ h2, upd_ne _ _ h1])
def Ov (M : Mem) (e : Nat) (m : Mem) : Prop := ∀ u, u ≠ e → M u = none ∨ m u = M u
theorem ov_base {M : Mem} {e : Nat} : Ov M e M := fun u _ => .inr rfl
theorem ov_e {M m : Mem} {e : Nat} {x : Option O} (h : Ov M e m) : Ov M e (upd m e x) := fun u hu => by rw [upd_ne _ _ hu]; exact h u hu
theorem ov_new {M m : Mem} {e i : Nat} {x : Option O} (hi : M i = none) (h : Ov M e m) : Ov M e (upd m i x) := fun u hu => by
 by_cases h1 : u = i
 ·subst h1; exact .inl hi
 ·rw [upd_ne _ _ h1]; exact h u hu
theorem mleX {M m : Mem} {c0 e : Nat} (h : Ov M e m) : MLe m (upd (upd M c0 none) e none) := fun u => by
 by_cases h1 : u = e
 ·subst h1; exact .inl (upd_same ..)
 ·rw [upd_ne _ _ h1]
  by_cases h2 : u = c0
  ·subst h2; exact .inl (upd_same ..)
  ·rw [upd_ne _ _ h2]
   rcases h u h1 with h | h
   ·exact .inl h
   ·exact .inr h.symm
theorem mleXX {M m : Mem} {c0 e : Nat} (h : Ov M e m) : MLe (upd (upd m c0 none) e none) (upd (upd M c0 none) e none) := fun u => by
 by_cases h1 : u = e
 ·subst h1; exact .inl (upd_same ..)
 ·rw [upd_ne _ _ h1, upd_ne _ _ h1]
  by_cases h2 : u = c0
  ·subst h2; exact .inl (upd_same ..)
  ·rw [upd_ne _ _ h2, upd_ne _ _ h2]
   rcases h u h1 with h | h
   ·exact .inl h
   ·exact .inr h.symm
def tabB : Tab := { tab with eff := fun f => f == 21 }
theorem BB.tab_ok : tabB.Ok Tryz.prog := ⟨V.tab_ok.ty, V.tab_ok.zero, V.tab_ok.elem, V.tab_ok.off, V.tab_ok.bool, V.tab_ok.fields, V.tab_ok.bytes, V.tab_ok.nilk, V.tab_ok.int, V.tab_ok.map, V.tab_ok.str, V.tab_ok.one, V.tab_ok.seq⟩
theorem BB.tabs : tabB.ty = tab.ty ∧ tabB.zero = tab.zero ∧ tabB.elem = tab.elem ∧ tabB.off = tab.off ∧ tabB.bool = tab.bool ∧ tabB.fields = tab.fields ∧ tabB.bytes = tab.bytes ∧ tabB.nilk = tab.nilk ∧ tabB.int = tab.int ∧ tabB.map = tab.map ∧ tabB.str = tab.str ∧ tabB.one = tab.one ∧ tabB.seq = tab.seq := ⟨rfl, rfl, rfl, rfl, rfl, rfl, rfl, rfl, rfl, rfl, rfl, rfl, rfl⟩
section
variable (p : Program) (inn ret : ByteArray) (hS : SmallC p.classes) (hB : SmallB p.classes) (hlen : p.classes.length ≤ 16) (hchk : ∀ m, COk Tryz.prog 6 [.agg (cProg p)] m (.c (.int .i64 0)))
include hS hB hlen hchk
set_option maxHeartbeats 8000000 in
theorem block_both : ∀ (n : Nat) (l : List Stmt), SizeOf.sizeOf l ≤ n → KidsSs l → ∀ (env : List Slot), env.length + cntSs l ≤ 100000000 → ∀ (M : Mem) (b c0 e : Nat), (∀ d, M (b + d) = none) →
 M c0 = some (.box 43 [.c (.sl (p.classes.map cClass)), .c (.sl (cStmts p.main)), .c (.str inn), .c (.str ret), .own e]) → M e = some (.mrow 45 2 (env.map cSlot)) → (∀ i o, M i = some o → i ≠ c0 → c0 ∉ o.ids ∧ e ∉ o.ids ∧ O.kill e o = o) →
 TEffD Tryz.prog 21 [.ptr c0 0, .c (.sl (l.map cStmt))] M [e] [c0, e] mism (upd (upd M c0 none) e none) (blkR M (blockTB p.classes inn ret env l)) := by
 intro n
 induction n using Nat.strongRecOn with
 | ind n ih =>
 intro l hn hK env hcnt M b c0 e hfar hc0 he hno
 have cb : ∀ d, (c0 = b + d) = False := base_ne hfar hc0
 have bc : ∀ d, (b + d = c0) = False := base_ne' hfar hc0
 have eb : ∀ d, (e = b + d) = False := base_ne hfar he
 have be : ∀ d, (b + d = e) = False := base_ne' hfar he
 have ce : (c0 = e) = False := eq_false fun h => by subst h; rw [hc0] at he; cases he
 have ec : (e = c0) = False := eq_false fun h => by subst h; rw [hc0] at he; cases he
 have hll : l.length ≤ 100000000 := by have := cntSs_len l; omega
 obtain ⟨r, hr⟩ : ∃ r, blkR M (blockTB p.classes inn ret env l) = r := ⟨_, rfl⟩
 rw [hr]
 refine ok_bothD tab_ok [e] [c0, e] r Tryz.func21 (by kernel_rfl) rfl rfl (by rfl) (by rfl) ?ids ?res ?hsx ?hwx (fun hWF Rr hkeep => ?_)
 case ids => intro a ha j hj; simp at ha; rcases ha with rfl | rfl <;> simp [A.ids] at hj; subst hj; simp [hc0]
 case res =>
  intro x M' hx
  rw [← hr] at hx
  unfold blkR at hx
  split at hx
  ·cases hx
   exact ⟨fun i hi => by simp [A.ids] at hi, fun i hi => hi, fun hw => hw⟩
  ·cases hx
 case hsx =>
  intro j hj hd
  simp only [List.mem_cons, List.not_mem_nil, or_false, not_or] at hd
  rw [upd_ne _ _ hd.2, upd_ne _ _ hd.1]; exact hj
 case hwx =>
  intro hw i o ho j hj
  by_cases e1 : i = e
  ·subst e1; rw [upd_same] at ho; cases ho
  rw [upd_ne _ _ e1] at ho
  by_cases e2 : i = c0
  ·subst e2; rw [upd_same] at ho; cases ho
  rw [upd_ne _ _ e2] at ho
  obtain ⟨h1, h2, -⟩ := hno i o ho e2
  rw [upd_ne _ _ (fun h => h2 (by rw [← h]; exact hj)), upd_ne _ _ (fun h => h1 (by rw [← h]; exact hj))]
  exact hw i o ho j hj
 have kept : ∀ i, Rr.keep i → (M i).isSome = true := fun i hi => by rw [hkeep] at hi; exact hi.1
 have nke : ¬ Rr.keep e := by
  rw [hkeep]; intro h
  cases r <;> exact h.2 (by simp [DB])
 have hel : ((env.length : Nat) : Int) ≤ 9223372036854775807 := by omega
 repeat (first | refine W.seq ?_ | refine W.block ?_ | refine W.skip ?_ | refine W.exit ?_ | refine W.region tab_ok b (by decide) (exec_run (by simp only [exb, Nat.reduceAdd, Nat.reduceLeDiff, Nat.reduceEqDiff, Nat.reduceMul, Int.reduceToNat, reduceIte, Int.reduceLE, Int.reduceNeg, hc0, he, List.length_map]; rfl)) ?_)
 refine W.loop (ι := Nat) (fun k => ⟨upd (upd (upd (upd (upd (fun _ => .top) 0 (.ptr c0 0)) 4 (.c (.int .i64 env.length))) 15 (.c (.sl (l.map cStmt)))) 16 (.c (.int .i64 l.length))) 17 (.c (.int .i64 k)), upd M e (some (.mrow 45 2 ((envK env (l.take k)).map cSlot)))⟩) (fun k => k ≤ l.length ∧ blockTB p.classes inn ret env (l.take k) = true) (fun k => l.length - k) 0 ?start ⟨Nat.zero_le _, by simp [blockTB]⟩ ?round
 case start =>
  refine le_mk ?sle ?mle ?swf ?mwf (fun i hi => live_upd i (kept i hi)) (by rfl)
  case swf => repeat (first | exact swf_top _ | refine swf_upd ?_ (by simp [A.ids, upd_app, hc0, ce, ec]))
  case mwf => exact mwf_some hWF (fun i hi => by simp [O.ids] at hi)
  case mle => exact mle_refl' (upd_id M (by rw [he]; simp [envK])).symm
  case sle => repeat (first | exact sle_top _ | exact sle_refl _ | refine sle_upd ?_ zy30q25)
 case round =>
  rintro k ⟨hkl, hyes⟩
  repeat (first | refine W.seq ?_ | refine W.block ?_ | refine W.skip ?_ | refine W.exit ?_ | refine W.region tab_ok b (by decide) xr0 ?_)
  refine W.cond rfl ?_ ?_
  ·intro hlt
   simp only [decide_eq_true_eq, Int.ofNat_lt] at hlt
   obtain ⟨x, hx⟩ : ∃ x, l[k]? = some x := ⟨_, List.getElem?_eq_getElem hlt⟩
   have hxm := List.mem_of_getElem? hx
   have hxs := List.sizeOf_lt_of_mem hxm
   have hKx := hK.mem hxm
   have hat := at_map (f := cStmt) hx
   have htk : l.take (k + 1) = l.take k ++ [x] := by rw [List.take_add_one, hx]; rfl
   have hsp : l = l.take k ++ (x :: l.drop (k + 1)) := by have h1 := List.take_append_drop (k + 1) l; rw [htk, List.append_assoc] at h1; exact h1.symm
   have hcx := cntSs_append (l.take k) (x :: l.drop (k + 1))
   rw [← hsp] at hcx
   have hkc := cntSs_len (l.take k)
   have hEl := envK_len env (l.take k)
   obtain ⟨sk, sn, ty, nm, es, th, el⟩ := x
   simp only [KidsS] at hKx
   obtain ⟨s2, s3, s4, s5, s6, s7⟩ := hKx
   have hspec := Stmt.mk.sizeOf_spec sk sn ty nm es th el
   simp only [cStmt, cStmts_map, cExprs_map] at hat
   rw [cntSs, cntS] at hcx
   have hno2 : stmtTB p.classes inn ret (envK env (l.take k)) ⟨sk, sn, ty, nm, es, th, el⟩ = false → blockTB p.classes inn ret env l = false := fun h => by
    rw [hsp, blockTB_snoc, hyes, Bool.true_and, blockTB, h, Bool.false_and]
   generalize hE : envK env (l.take k) = E at *
   have hf6 : M (b + 6) = none := hfar 6
   have hf24 : M (b + 24) = none := hfar 24
   have hkl1 : (es.length : Int) ≤ 9223372036854775807 := by omega
   have hkb : es.length * 16 ≤ 140737488355328 := by omega
   refine W.bl ?_
   refine W.regionK tab_ok b (by decide) ?_
   refine runk_exec (by simp only [exb, Nat.reduceAdd, Nat.reduceLeDiff, Nat.reduceEqDiff, Nat.reduceMul, Int.reduceToNat, reduceIte, Int.reduceLE, Int.reduceNeg, hat, hf6, hc0, he, cb, bc, eb, be, ce, ec, Nat.add_left_cancel_iff, Nat.add_eq_left, Nat.left_eq_add, upd_same]; rfl) ?_
   simp only [upd_upd]
   refine W.bl ?_
   refine W.regionK tab_ok b (by decide) ?_
   refine runk_exec (by simp only [exb, Nat.reduceAdd, Nat.reduceLeDiff, Nat.reduceEqDiff, Nat.reduceMul, Int.reduceToNat, reduceIte, Int.reduceLE, Int.reduceNeg, upd_same, hf24, hc0, he, cb, bc, eb, be, ce, ec, Nat.add_left_cancel_iff, Nat.add_eq_left, Nat.left_eq_add, List.length_map, hkl1, hkb, Int.toNat_natCast, Int.natCast_nonneg, and_self, Bool.false_eq_true]; rfl) ?_
   refine W.bl ?_
   refine W.regionK tab_ok b (by decide) ?_
   refine runk_exec (by simp only [exb, Nat.reduceAdd, Nat.reduceLeDiff, Nat.reduceEqDiff, Nat.reduceMul, Int.reduceToNat, reduceIte, Int.reduceLE, Int.reduceNeg, upd_same, hc0, he, cb, bc, eb, be, ce, ec, Nat.add_left_cancel_iff, Nat.add_eq_left, Nat.left_eq_add, List.length_map]; rfl) ?_
   refine W.bl ?_
   have htyp := typ_both p inn ret E hS hB hlen (by omega) hchk
   have hls : asLs (upd (upd (upd M e (some (.mrow 45 2 (E.map cSlot)))) (b + 6) none) (b + 24) none) [.c (.sl (p.classes.map cClass)), .c (.sl (cStmts p.main)), .c (.str inn), .c (.str ret), .own e] = some (ckC p.classes p.main inn ret E) := by
    simp only [asLs, asL, asC, upd_app, eb, if_false, if_true, eq_self, ckC]
   refine W.loop (ι := List ByteArray) (fun ts => ⟨upd (upd (upd (upd (upd (upd (upd (upd (upd (upd (fun _ => .top) 0 (.ptr c0 0)) 4 (.c (.int .i64 env.length))) 6 (.ptr (b + 6) 0)) 7 (.own (b + 24))) 15 (.c (.sl (l.map cStmt)))) 16 (.c (.int .i64 l.length))) 17 (.c (.int .i64 k))) 26 (.c (.sl (es.map cExpr)))) 27 (.c (.int .i64 es.length))) 28 (.c (.int .i64 ts.length)),
    upd (upd (upd M e (some (.mrow 45 2 (E.map cSlot)))) (b + 6) (some (.box 32 [.c (.int .i64 sk), .c (.int .i64 sn), .c (.str ty), .c (.str nm), .c (.sl (es.map cExpr)), .c (.sl (th.map cStmt)), .c (.sl (el.map cStmt))]))) (b + 24) (some (.mrow 9 1 (rowT ts es.length)))⟩)
    (fun ts => ts.length ≤ es.length ∧ typsB p.classes inn E (es.take ts.length) = some ts) (fun ts => es.length - ts.length) [] ?start2 ⟨Nat.zero_le _, by simp [typsB]⟩ ?round2
   case start2 =>
    rw [rowT_nil]
    refine le_mk ?sle ?mle ?swf ?mwf (fun i hi => by repeat (first | exact kept i hi | refine live_upd i ?_)) (by rfl)
    case swf => repeat (first | exact swf_top _ | refine swf_upd ?_ zy30q28)
    case mwf => repeat (first | exact hWF | refine mwf_some ?_ (fun i hi => by simp [O.ids, A.ids] at hi))
    case mle => first | exact mle_refl _ | exact mle_skip (mle_refl _) zy30q32
    case sle => repeat (first | exact sle_top _ | exact sle_refl _ | refine sle_upd ?_ zy30q26)
   case round2 =>
    rintro ts ⟨hk, hall⟩
    repeat (first | refine W.seq ?_ | refine W.block ?_ | refine W.skip ?_ | refine W.exit ?_ | refine W.region tab_ok b (by decide) xr0 ?_)
    refine W.cond rfl ?_ ?_
    ·intro hlt2
     simp only [decide_eq_true_eq, Int.ofNat_lt] at hlt2
     obtain ⟨y, hy⟩ : ∃ y, es[ts.length]? = some y := ⟨_, List.getElem?_eq_getElem hlt2⟩
     have hym := List.mem_of_getElem? hy
     have hT := htyp (SizeOf.sizeOf y) y (Nat.le_refl _) (s5.mem hym)
     have htk2 : es.take (ts.length + 1) = es.take ts.length ++ [y] := by rw [List.take_add_one, hy]; rfl
     have happ := typsB_append p.classes inn E (es.take ts.length) y hall
     rw [← htk2] at happ
     have hrl := rowT_len (ts := ts) (n := es.length) (by omega)
     have hlt' : ts.length < (rowT ts es.length).length := by omega
     have hat2 := at_map (f := cExpr) hy
     obtain ⟨yk, yn, ym, ys⟩ := y
     simp only [cExpr, cExprs_map] at hT hat2
     have hf9 : M (b + 9) = none := hfar 9
     refine W.bl ?_
     refine W.regionK tab_ok b (by decide) ?_
     refine runk_exec (by simp only [exb, Nat.reduceAdd, Nat.reduceLeDiff, Nat.reduceEqDiff, Nat.reduceMul, Int.reduceToNat, reduceIte, Int.reduceLE, Int.reduceNeg, hat2, hf9, hc0, he, cb, bc, eb, be, ce, ec, Nat.add_left_cancel_iff, Nat.add_eq_left, Nat.left_eq_add, upd_same]; rfl) ?_
     simp only [upd_upd]
     refine W.bl ?_
     cases ht : typB p.classes inn E ⟨yk, yn, ym, ys⟩ with
     | some t =>
       rw [ht] at happ
       have hT1 : ∀ m, COk Tryz.prog 43 [.rptr (ckC p.classes p.main inn ret E), .agg [.int .i64 yk, .int .i64 yn, .str ym, .sl (ys.map cExpr)]] m (.c (.str t)) := fun m => by have := hT m; rw [ht] at this; exact this
       refine W.regionK tab_ok b (by decide) ?_
       refine runk_split 4 zy30q9 ?_
       refine runk_callR rfl rfl rfl rfl rfl (by simp) (cvrs_cons (cvr_ptr zy30q33 zy30q30) (cvrs_cons cvr_refl cvrs_nil)) (by rfl) (by rfl) hT1 ?_
       refine runk_exec (by simp only [exb, Nat.reduceAdd, Nat.reduceLeDiff, Nat.reduceEqDiff, Nat.reduceMul, Int.reduceToNat, reduceIte, Int.reduceLE, Int.reduceNeg, hlt', rowT_at hlt2, rowT_set hlt2, hc0, he, cb, bc, eb, be, ce, ec, Nat.add_left_cancel_iff, Nat.add_eq_left, Nat.left_eq_add, upd_same]; rfl) ?_
       repeat (first | refine W.seq ?_ | refine W.block ?_ | refine W.skip ?_ | refine W.exit ?_ | refine W.region tab_ok b (by decide) xr0 ?_)
       refine ⟨ts ++ [t], ⟨by simp only [List.length_append, List.length_singleton]; omega, by rw [List.length_append, List.length_singleton, happ]; rfl⟩, by simp only [List.length_append, List.length_singleton]; omega, ?_⟩
       refine le_mk ?sle ?mle ?swf ?mwf (fun i hi => by repeat (first | exact kept i hi | refine live_upd i ?_)) (by rfl)
       case swf => repeat (first | exact swf_top _ | refine swf_upd ?_ zy30q28)
       case mwf => repeat (first | exact hWF | refine mwf_some ?_ (fun i hi => by simp [O.ids, A.ids] at hi))
       case mle => exact mle_row (by simp) (by simp) (fun h => cast (be 9) h) (fun h => cast (be 6) h) hf9
       case sle => repeat (first | exact sle_top _ | exact sle_refl _ | refine sle_upd ?_ (by first | rfl | (simp only [upd_app, killS_app, A.kill, entry_zero, entry_succ, Nat.reduceEqDiff, reduceIte, List.length_append, List.length_singleton, wrap_succ (show ts.length + 1 < 9223372036854775808 by omega)]; done)))
     | none =>
       rw [ht] at happ
       have htn : typsB p.classes inn E es = none := by
        have := typsB_none p.classes inn E (es.take (ts.length + 1)) (es.drop (ts.length + 1)) happ
        rwa [List.take_append_drop] at this
       have hbf := hno2 (by simp only [stmtTB, htn, Bool.false_and])
       obtain rfl : r = none := hr.symm.trans (by unfold blkR; rw [hbf]; rfl)
       have hTx : ∀ m, XOk Tryz.prog 43 [.rptr (ckC p.classes p.main inn ret E), .agg [.int .i64 yk, .int .i64 yn, .str ym, .sl (ys.map cExpr)]] m mism := fun m => by have := hT m; rw [ht] at this; exact this
       refine W.panR (base := b) (ch := mism) tab_ok 4 (by decide) rfl ?_
       refine runk_exec zy30q9 ?_
       exact ⟨_, xs_callR rfl rfl rfl rfl (by intro j hj; simp at hj) (cvrs_cons (cvr_ptr zy30q33 zy30q30) (cvrs_cons cvr_refl cvrs_nil)) hTx, rfl, by rfl, (mleX zy30q29)⟩
    ·intro hge2
     simp only [decide_eq_false_iff_not, Int.ofNat_lt] at hge2
     have htl : ts.length = es.length := by omega
     rw [htl, List.take_length] at hall
     rw [rowT_full htl]
     have hst0 : stmtT p.classes inn ret E sk ty ts = false → r = none := fun h => by
      have hbf := hno2 (by simp only [stmtTB, hall, h, Bool.false_and])
      exact hr.symm.trans (by unfold blkR; rw [hbf]; rfl)
     have hlen9 : p.classes.length ≤ 1000000000 := by omega
     have hkn : ∀ t m, COk Tryz.prog 10 [.rptr (ckC p.classes p.main inn ret E), .c (.str t)] m (.c (.bool (knownR p.classes t))) := fun t m => known_ok p.classes [.sl (cStmts p.main), .str inn, .str ret, .sl (E.map cSlot)] t hlen9 m
     have hfi : ∀ t u m, COk Tryz.prog 44 [.rptr (ckC p.classes p.main inn ret E), .c (.str t), .c (.str u)] m (.c (.bool (fitR 0 p.classes t u))) := fun t u m => fits_ok p 0 [.str inn, .str ret, .sl (E.map cSlot)] t u hlen9 hchk m
     refine W.exit ?_
     refine W.bl ?_
     refine W.regionK tab_ok b (by decide) ?_
     refine runk_exec zy30q9 ?_
     refine W.join (X := ⟨upd (upd (upd (upd (upd (upd (upd (fun _ => .top) 0 (.ptr c0 0)) 4 (.c (.int .i64 env.length))) 6 (.ptr (b + 6) 0)) 7 (.own (b + 24))) 15 (.c (.sl (l.map cStmt)))) 16 (.c (.int .i64 l.length))) 17 (.c (.int .i64 k)), upd (upd (upd M e (some (.mrow 45 2 (E.map cSlot)))) (b + 6) (some (.box 32 [.c (.int .i64 sk), .c (.int .i64 sn), .c (.str ty), .c (.str nm), .c (.sl (es.map cExpr)), .c (.sl (th.map cStmt)), .c (.sl (el.map cStmt))]))) (b + 24) (some (.mrow 9 1 (ts.map cStr)))⟩) (Y := stmtT p.classes inn ret E sk ty ts = true) ?sw ?rest
     case sw =>
      refine W.bl ?_
      refine W.regionK tab_ok b (by decide) ?_
      refine xe0 ?_
      refine W.cond rfl ?_ ?_
      ·intro h
       simp only [decide_eq_true_eq] at h
       subst h
       cases hk1 : knownR p.classes ty with
       | false =>
         obtain rfl : r = none := hst0 (by simp [stmtT, hk1])
         have hkn1 := hkn ty
         rw [hk1] at hkn1
         refine W.bl ?_
         refine W.panD' (base := b) (ch := mism) tab_ok 18 [61, 1000000] follows_mixed (by kernel_rfl) (by decide) rfl ?_
         refine runk_split 3 zy30q9 ?_
         refine runk_callR rfl rfl rfl rfl rfl (by simp) (cvrs_cons (cvr_ptr zy30q33 zy30q30) (cvrs_cons cvr_refl cvrs_nil)) (by rfl) (by rfl) hkn1 ?_
         refine runk_exec zy30q9 ?_
         intro st' hs hm
         refine ⟨_, xs_call rfl rfl rfl rfl (by intro j hj; simp at hj) (cvs_cons (.inl (hs 61 (by decide)).symm) cvs_nil) (must_no _), rfl, ?_, ?_⟩
         ·show dfs (st'.s 1000000) = []
          rw [hs 1000000 (by decide)]; rfl
         ·rw [hm]; exact (mleX zy30q29)
       | true =>
         have hkn1 := hkn ty
         rw [hk1] at hkn1
         refine W.bl ?_
         cases ts with
         | nil =>
           refine W.regionDK tab_ok b follows_mixed (by kernel_rfl) (by decide) ?_
           refine runk_split 3 zy30q9 ?_
           refine runk_callR rfl rfl rfl rfl rfl (by simp) (cvrs_cons (cvr_ptr zy30q33 zy30q30) (cvrs_cons cvr_refl cvrs_nil)) (by rfl) (by rfl) hkn1 ?_
           refine runk_split 14 (by simp only [exb, Nat.reduceAdd, Nat.reduceLeDiff, Nat.reduceEqDiff, Nat.reduceMul, Int.reduceToNat, reduceIte, Int.reduceLE, Int.reduceNeg, hc0, he, cb, bc, eb, be, ce, ec, Nat.add_left_cancel_iff, Nat.add_eq_left, Nat.left_eq_add, upd_same, List.map_nil, List.length_nil]; rfl) ?_
           refine runk_call rfl rfl rfl rfl rfl (by simp) cw1 (must_yes _) ?_
           refine xe0 ?_
           refine ⟨by simp [stmtT, hk1], ?_⟩
           refine le_mk ?sle ?mle ?swf ?mwf (fun i hi => by repeat (first | exact kept i hi | refine live_upd i ?_)) (by rfl)
           case swf => repeat (first | exact swf_top _ | refine swf_upd ?_ zy30q28)
           case mwf => repeat (first | exact hWF | refine mwf_some ?_ (fun i hi => by simp [O.ids, A.ids] at hi))
           case mle => first | exact mle_refl _ | exact mle_skip (mle_refl _) zy30q32
           case sle => repeat (first | exact sle_top _ | exact sle_refl _ | refine sle_upd ?_ zy30q26)
         | cons t0 tr =>
           have hz2 : (0 < tr.length + 1) = True := eq_true (Nat.succ_pos _)
           have hz : (((tr.length + 1 : Nat) : Int) = 0) = False := eq_false (by omega)
           have hfi1 := hfi t0 ty
           cases hf : fitR 0 p.classes t0 ty with
           | true =>
             rw [hf] at hfi1
             refine W.regionDK tab_ok b follows_mixed (by kernel_rfl) (by decide) ?_
             refine runk_split 3 zy30q9 ?_
             refine runk_callR rfl rfl rfl rfl rfl (by simp) (cvrs_cons (cvr_ptr zy30q33 zy30q30) (cvrs_cons cvr_refl cvrs_nil)) (by rfl) (by rfl) hkn1 ?_
             refine runk_split 11 zy30q3 ?_
             refine runk_callR rfl rfl rfl rfl rfl (by simp) (cvrs_cons (cvr_ptr zy30q33 zy30q30) (cvrs_cons cvr_refl (cvrs_cons cvr_refl cvrs_nil))) (by rfl) (by rfl) hfi1 ?_
             refine runk_split 2 zy30q9 ?_
             refine runk_call rfl rfl rfl rfl rfl (by simp) cw1 (must_yes _) ?_
             refine xe0 ?_
             refine ⟨by simp [stmtT, hk1, hdT, hf], ?_⟩
             refine le_mk ?sle ?mle ?swf ?mwf (fun i hi => by repeat (first | exact kept i hi | refine live_upd i ?_)) (by rfl)
             case swf => repeat (first | exact swf_top _ | refine swf_upd ?_ zy30q28)
             case mwf => repeat (first | exact hWF | refine mwf_some ?_ (fun i hi => by simp [O.ids, A.ids] at hi))
             case mle => first | exact mle_refl _ | exact mle_skip (mle_refl _) zy30q32
             case sle => repeat (first | exact sle_top _ | exact sle_refl _ | refine sle_upd ?_ zy30q26)
           | false =>
             rw [hf] at hfi1
             obtain rfl : r = none := hst0 (by simp [stmtT, hk1, hdT, hf])
             refine W.panD' (base := b) (ch := mism) tab_ok 18 [61, 1000000] follows_mixed (by kernel_rfl) (by decide) rfl ?_
             refine runk_split 3 zy30q9 ?_
             refine runk_callR rfl rfl rfl rfl rfl (by simp) (cvrs_cons (cvr_ptr zy30q33 zy30q30) (cvrs_cons cvr_refl cvrs_nil)) (by rfl) (by rfl) hkn1 ?_
             refine runk_split 11 zy30q3 ?_
             refine runk_callR rfl rfl rfl rfl rfl (by simp) (cvrs_cons (cvr_ptr zy30q33 zy30q30) (cvrs_cons cvr_refl (cvrs_cons cvr_refl cvrs_nil))) (by rfl) (by rfl) hfi1 ?_
             refine runk_exec zy30q9 ?_
             intro st' hs hm
             refine ⟨_, xs_call rfl rfl rfl rfl (by intro j hj; simp at hj) (cvs_cons (.inl (hs 61 (by decide)).symm) cvs_nil) (must_no _), rfl, ?_, ?_⟩
             ·show dfs (st'.s 1000000) = []
              rw [hs 1000000 (by decide)]; rfl
             ·rw [hm]; exact (mleX zy30q29)
      ·intro h1
       simp only [decide_eq_false_iff_not] at h1
       refine W.bl ?_
       refine W.regionK tab_ok b (by decide) ?_
       refine xe0 ?_
       refine W.cond rfl ?_ ?_
       ·intro h
        simp only [decide_eq_true_eq] at h
        subst h
        have k2 := s2 rfl
        obtain ⟨ta, tb, rfl⟩ : ∃ a b, ts = [a, b] := by
         have h2 : ts.length = 2 := by omega
         match ts, h2 with
         | [a, b], _ => exact ⟨a, b, rfl⟩
        have hfi1 := hfi tb ta
        have h12 : ((1 : Nat) < 2) = True := eq_true (by decide)
        have h02 : ((0 : Nat) < 2) = True := eq_true (by decide)
        refine W.bl ?_
        cases hf : fitR 0 p.classes tb ta with
        | true =>
          rw [hf] at hfi1
          refine W.regionDK tab_ok b follows_mixed (by kernel_rfl) (by decide) ?_
          refine runk_split 7 zy30q5 ?_
          refine runk_callR rfl rfl rfl rfl rfl (by simp) (cvrs_cons (cvr_ptr zy30q33 zy30q30) (cvrs_cons cvr_refl (cvrs_cons cvr_refl cvrs_nil))) (by rfl) (by rfl) hfi1 ?_
          refine runk_split 0 zy30q9 ?_
          refine runk_call rfl rfl rfl rfl rfl (by simp) cw1 (must_yes _) ?_
          refine xe0 ?_
          refine ⟨by simp [stmtT, hdT, hf], ?_⟩
          refine le_mk ?sle ?mle ?swf ?mwf (fun i hi => by repeat (first | exact kept i hi | refine live_upd i ?_)) (by rfl)
          case swf => repeat (first | exact swf_top _ | refine swf_upd ?_ zy30q28)
          case mwf => repeat (first | exact hWF | refine mwf_some ?_ (fun i hi => by simp [O.ids, A.ids] at hi))
          case mle => first | exact mle_refl _ | exact mle_skip (mle_refl _) zy30q32
          case sle => repeat (first | exact sle_top _ | exact sle_refl _ | refine sle_upd ?_ zy30q26)
        | false =>
          rw [hf] at hfi1
          obtain rfl : r = none := hst0 (by simp [stmtT, hdT, hf])
          refine W.panD' (base := b) (ch := mism) tab_ok 8 [72, 1000000] follows_mixed (by kernel_rfl) (by decide) rfl ?_
          refine runk_split 7 zy30q5 ?_
          refine runk_callR rfl rfl rfl rfl rfl (by simp) (cvrs_cons (cvr_ptr zy30q33 zy30q30) (cvrs_cons cvr_refl (cvrs_cons cvr_refl cvrs_nil))) (by rfl) (by rfl) hfi1 ?_
          refine runk_exec zy30q9 ?_
          intro st' hs hm
          refine ⟨_, xs_call rfl rfl rfl rfl (by intro j hj; simp at hj) (cvs_cons (.inl (hs 72 (by decide)).symm) cvs_nil) (must_no _), rfl, ?_, ?_⟩
          ·show dfs (st'.s 1000000) = []
           rw [hs 1000000 (by decide)]; rfl
          ·rw [hm]; exact (mleX zy30q29)
       ·intro h2
        simp only [decide_eq_false_iff_not] at h2
        refine W.bl ?_
        refine W.regionK tab_ok b (by decide) ?_
        refine xe0 ?_
        have three : ∀ h3 : sk = 3 ∨ sk = 4 ∨ sk = 5, True := fun _ => trivial
        refine W.cond rfl ?_ ?_
        ·intro h
         have h3 : sk = 3 ∨ sk = 4 ∨ sk = 5 := .inl (by simpa using h)
         refine W.bl ?_
         refine W.cond rfl (fun _ => ?_) (fun h' => absurd (h.symm.trans h') (by simp))
         have k3 := s3 (by omega)
         obtain ⟨t0, tr, rfl⟩ : ∃ t0 tr, ts = t0 :: tr := by
          have hl1 : 1 ≤ ts.length := by omega
          match ts, hl1 with
          | t0 :: tr, _ => exact ⟨t0, tr, rfl⟩
         have hz2 : (0 < tr.length + 1) = True := eq_true (Nat.succ_pos _)
         have hsT : stmtT p.classes inn ret E sk ty (t0 :: tr) = isT t0 tInt := by rcases h3 with rfl | rfl | rfl <;> simp [stmtT, hdT]
         refine W.bl ?_
         cases hi : isT t0 tInt with
         | true =>
           have hi0 := hi
           unfold isT at hi
           refine W.regionK tab_ok b (by decide) ?_
           refine runk_split 4 zy30q4 ?_
           refine runk_call rfl rfl rfl rfl rfl (by simp) cw1 (must_yes _) ?_
           refine xe0 ?_
           refine ⟨by rw [hsT, hi0], ?_⟩
           refine le_mk ?sle ?mle ?swf ?mwf (fun i hi => by repeat (first | exact kept i hi | refine live_upd i ?_)) (by rfl)
           case swf => repeat (first | exact swf_top _ | refine swf_upd ?_ zy30q28)
           case mwf => repeat (first | exact hWF | refine mwf_some ?_ (fun i hi => by simp [O.ids, A.ids] at hi))
           case mle => first | exact mle_refl _ | exact mle_skip (mle_refl _) zy30q32
           case sle => repeat (first | exact sle_top _ | exact sle_refl _ | refine sle_upd ?_ zy30q26)
         | false =>
           obtain rfl : r = none := hst0 (by rw [hsT, hi])
           unfold isT at hi
           refine W.panR (base := b) (ch := mism) tab_ok 4 (by decide) rfl ?_
           refine runk_exec zy30q4 ?_
           exact ⟨_, xs_call rfl rfl rfl rfl (by simp) cw1 (must_no _), rfl, by rfl, (mleX zy30q29)⟩
        ·intro h
         have n3 : ¬ sk = 3 := by simpa using h
         refine W.bl ?_
         refine W.regionK tab_ok b (by decide) ?_
         refine xe0 ?_
         refine W.cond rfl ?_ ?_
         ·intro h
          have h3 : sk = 3 ∨ sk = 4 ∨ sk = 5 := .inr (.inl (by simpa using h))
          refine W.bl ?_
          refine W.cond rfl (fun _ => ?_) (fun h' => absurd (h.symm.trans h') (by simp))
          have k3 := s3 (by omega)
          obtain ⟨t0, tr, rfl⟩ : ∃ t0 tr, ts = t0 :: tr := by
           have hl1 : 1 ≤ ts.length := by omega
           match ts, hl1 with
           | t0 :: tr, _ => exact ⟨t0, tr, rfl⟩
          have hz2 : (0 < tr.length + 1) = True := eq_true (Nat.succ_pos _)
          have hsT : stmtT p.classes inn ret E sk ty (t0 :: tr) = isT t0 tInt := by rcases h3 with rfl | rfl | rfl <;> simp [stmtT, hdT]
          refine W.bl ?_
          cases hi : isT t0 tInt with
          | true =>
            have hi0 := hi
            unfold isT at hi
            refine W.regionK tab_ok b (by decide) ?_
            refine runk_split 4 zy30q4 ?_
            refine runk_call rfl rfl rfl rfl rfl (by simp) cw1 (must_yes _) ?_
            refine xe0 ?_
            refine ⟨by rw [hsT, hi0], ?_⟩
            refine le_mk ?sle ?mle ?swf ?mwf (fun i hi => by repeat (first | exact kept i hi | refine live_upd i ?_)) (by rfl)
            case swf => repeat (first | exact swf_top _ | refine swf_upd ?_ zy30q28)
            case mwf => repeat (first | exact hWF | refine mwf_some ?_ (fun i hi => by simp [O.ids, A.ids] at hi))
            case mle => first | exact mle_refl _ | exact mle_skip (mle_refl _) zy30q32
            case sle => repeat (first | exact sle_top _ | exact sle_refl _ | refine sle_upd ?_ zy30q26)
          | false =>
            obtain rfl : r = none := hst0 (by rw [hsT, hi])
            unfold isT at hi
            refine W.panR (base := b) (ch := mism) tab_ok 4 (by decide) rfl ?_
            refine runk_exec zy30q4 ?_
            exact ⟨_, xs_call rfl rfl rfl rfl (by simp) cw1 (must_no _), rfl, by rfl, (mleX zy30q29)⟩
         ·intro h
          have n4 : ¬ sk = 4 := by simpa using h
          refine W.bl ?_
          refine W.regionK tab_ok b (by decide) ?_
          refine xe0 ?_
          refine W.cond rfl ?_ ?_
          ·intro h
           have h3 : sk = 3 ∨ sk = 4 ∨ sk = 5 := .inr (.inr (by simpa using h))
           have k3 := s3 (by omega)
           obtain ⟨t0, tr, rfl⟩ : ∃ t0 tr, ts = t0 :: tr := by
            have hl1 : 1 ≤ ts.length := by omega
            match ts, hl1 with
            | t0 :: tr, _ => exact ⟨t0, tr, rfl⟩
           have hz2 : (0 < tr.length + 1) = True := eq_true (Nat.succ_pos _)
           have hsT : stmtT p.classes inn ret E sk ty (t0 :: tr) = isT t0 tInt := by rcases h3 with rfl | rfl | rfl <;> simp [stmtT, hdT]
           refine W.bl ?_
           cases hi : isT t0 tInt with
           | true =>
             have hi0 := hi
             unfold isT at hi
             refine W.regionK tab_ok b (by decide) ?_
             refine runk_split 4 zy30q4 ?_
             refine runk_call rfl rfl rfl rfl rfl (by simp) cw1 (must_yes _) ?_
             refine xe0 ?_
             refine ⟨by rw [hsT, hi0], ?_⟩
             refine le_mk ?sle ?mle ?swf ?mwf (fun i hi => by repeat (first | exact kept i hi | refine live_upd i ?_)) (by rfl)
             case swf => repeat (first | exact swf_top _ | refine swf_upd ?_ zy30q28)
             case mwf => repeat (first | exact hWF | refine mwf_some ?_ (fun i hi => by simp [O.ids, A.ids] at hi))
             case mle => first | exact mle_refl _ | exact mle_skip (mle_refl _) zy30q32
             case sle => repeat (first | exact sle_top _ | exact sle_refl _ | refine sle_upd ?_ zy30q26)
           | false =>
             obtain rfl : r = none := hst0 (by rw [hsT, hi])
             unfold isT at hi
             refine W.panR (base := b) (ch := mism) tab_ok 4 (by decide) rfl ?_
             refine runk_exec zy30q4 ?_
             exact ⟨_, xs_call rfl rfl rfl rfl (by simp) cw1 (must_no _), rfl, by rfl, (mleX zy30q29)⟩
          ·intro h
           have n5 : ¬ sk = 5 := by simpa using h
           refine W.bl ?_
           refine W.regionK tab_ok b (by decide) ?_
           refine xe0 ?_
           refine W.cond rfl ?_ ?_
           ·intro h
            simp only [decide_eq_true_eq] at h
            subst h
            have k3 := s3 (by omega)
            obtain ⟨t0, tr, rfl⟩ : ∃ t0 tr, ts = t0 :: tr := by
             have hl1 : 1 ≤ ts.length := by omega
             match ts, hl1 with
             | t0 :: tr, _ => exact ⟨t0, tr, rfl⟩
            have hz2 : (0 < tr.length + 1) = True := eq_true (Nat.succ_pos _)
            refine W.bl ?_
            cases hi : isT ret tNo with
            | true =>
              obtain rfl : r = none := hst0 (by simp [stmtT, hi])
              unfold isT at hi
              have hi2 := hi
              rw [empty_toList] at hi2
              refine W.panD' (base := b) (ch := mism) tab_ok 16 [100, 1000000] follows_mixed (by kernel_rfl) (by decide) rfl ?_
              refine runk_exec (by simp only [exb, Nat.reduceAdd, Nat.reduceLeDiff, Nat.reduceEqDiff, Nat.reduceMul, Int.reduceToNat, reduceIte, Int.reduceLE, Int.reduceNeg, hc0, he, cb, bc, eb, be, ce, ec, Nat.add_left_cancel_iff, Nat.add_eq_left, Nat.left_eq_add, upd_same, hi, hi2]; rfl) ?_
              intro st' hs hm
              refine ⟨_, xs_call rfl rfl rfl rfl (by intro j hj; simp at hj) (cvs_cons (.inl (hs 100 (by decide)).symm) cvs_nil) (must_no _), rfl, ?_, ?_⟩
              ·show dfs (st'.s 1000000) = []
               rw [hs 1000000 (by decide)]; rfl
              ·rw [hm]; exact (mleX zy30q29)
            | false =>
              have hi0 := hi
              unfold isT at hi
              have hi2 := hi
              rw [empty_toList] at hi2
              have hfi1 := hfi t0 ret
              cases hf : fitR 0 p.classes t0 ret with
              | true =>
                rw [hf] at hfi1
                refine W.regionDK tab_ok b follows_mixed (by kernel_rfl) (by decide) ?_
                refine runk_split 14 zy30q2 ?_
                refine runk_callR rfl rfl rfl rfl rfl (by simp) (cvrs_cons (cvr_ptr zy30q33 zy30q30) (cvrs_cons cvr_refl (cvrs_cons cvr_refl cvrs_nil))) (by rfl) (by rfl) hfi1 ?_
                refine runk_split 1 zy30q9 ?_
                refine runk_call rfl rfl rfl rfl rfl (by simp) cw1 (must_yes _) ?_
                refine xe0 ?_
                refine ⟨by simp [stmtT, hi0, hdT, hf], ?_⟩
                refine le_mk ?sle ?mle ?swf ?mwf (fun i hi => by repeat (first | exact kept i hi | refine live_upd i ?_)) (by rfl)
                case swf => repeat (first | exact swf_top _ | refine swf_upd ?_ zy30q28)
                case mwf => repeat (first | exact hWF | refine mwf_some ?_ (fun i hi => by simp [O.ids, A.ids] at hi))
                case mle => first | exact mle_refl _ | exact mle_skip (mle_refl _) zy30q32
                case sle => repeat (first | exact sle_top _ | exact sle_refl _ | refine sle_upd ?_ zy30q26)
              | false =>
                rw [hf] at hfi1
                obtain rfl : r = none := hst0 (by simp [stmtT, hdT, hf])
                refine W.panD' (base := b) (ch := mism) tab_ok 16 [100, 1000000] follows_mixed (by kernel_rfl) (by decide) rfl ?_
                refine runk_split 14 zy30q2 ?_
                refine runk_callR rfl rfl rfl rfl rfl (by simp) (cvrs_cons (cvr_ptr zy30q33 zy30q30) (cvrs_cons cvr_refl (cvrs_cons cvr_refl cvrs_nil))) (by rfl) (by rfl) hfi1 ?_
                refine runk_exec zy30q9 ?_
                intro st' hs hm
                refine ⟨_, xs_call rfl rfl rfl rfl (by intro j hj; simp at hj) (cvs_cons (.inl (hs 100 (by decide)).symm) cvs_nil) (must_no _), rfl, ?_, ?_⟩
                ·show dfs (st'.s 1000000) = []
                 rw [hs 1000000 (by decide)]; rfl
                ·rw [hm]; exact (mleX zy30q29)
           ·intro h
            have n6 : ¬ sk = 6 := by simpa using h
            refine W.bl ?_
            refine ⟨by simp [stmtT, h1, h2, n3, n4, n5, n6], ?_⟩
            refine le_mk ?sle ?mle ?swf ?mwf (fun i hi => by repeat (first | exact kept i hi | refine live_upd i ?_)) (by rfl)
            case swf => repeat (first | exact swf_top _ | refine swf_upd ?_ zy30q28)
            case mwf => repeat (first | exact hWF | refine mwf_some ?_ (fun i hi => by simp [O.ids, A.ids] at hi))
            case mle => first | exact mle_refl _ | exact mle_skip (mle_refl _) zy30q32
            case sle => repeat (first | exact sle_top _ | exact sle_refl _ | refine sle_upd ?_ zy30q26)
     case rest =>
      intro hst
      have hlk : (l.take k).length = k := by rw [List.length_take]; omega
      have far2 : ∀ (x y z : Option O) d, (upd (upd (upd M e x) (b + 6) y) (b + 24) z) (b + 200 + d) = none := fun x y z d => by
       rw [upd_ne _ _ (by omega), upd_ne _ _ (by omega), upd_ne _ _ (fun h => cast (be (200 + d)) (by rw [← Nat.add_assoc]; exact h)), Nat.add_assoc]; exact hfar _
      have atc : ∀ (x y z : Option O), (upd (upd (upd M e x) (b + 6) y) (b + 24) z) c0 = some (.box 43 [.c (.sl (p.classes.map cClass)), .c (.sl (cStmts p.main)), .c (.str inn), .c (.str ret), .own e]) := fun x y z => by
       rw [upd_ne _ _ (fun h => cast (cb 24) h), upd_ne _ _ (fun h => cast (cb 6) h), upd_ne _ _ (fun h => cast ce h)]; exact hc0
      have ate : ∀ (x y z : Option O), (upd (upd (upd M e x) (b + 6) y) (b + 24) z) e = x := fun x y z => by
       rw [upd_ne _ _ (fun h => cast (eb 24) h), upd_ne _ _ (fun h => cast (eb 6) h), upd_same]
      have hno3 : ∀ (x y z : O), (x.ids = [] ∧ O.kill e x = x) → (y.ids = [] ∧ O.kill e y = y) → (z.ids = [] ∧ O.kill e z = z) → ∀ i o, (upd (upd (upd M e (some x)) (b + 6) (some y)) (b + 24) (some z)) i = some o → i ≠ c0 → c0 ∉ o.ids ∧ e ∉ o.ids ∧ O.kill e o = o := fun x y z hx hy hz i o ho hi => by
       unfold upd at ho
       split at ho
       ·cases ho; exact ⟨by rw [hz.1]; simp, by rw [hz.1]; simp, hz.2⟩
       ·split at ho
        ·cases ho; exact ⟨by rw [hy.1]; simp, by rw [hy.1]; simp, hy.2⟩
        ·split at ho
         ·cases ho; exact ⟨by rw [hx.1]; simp, by rw [hx.1]; simp, hx.2⟩
         ·exact hno i o ho hi
      refine W.bl ?_
      cases hth : blockTB p.classes inn ret E th with
      | false =>
        have hT := ih (SizeOf.sizeOf th) (by omega) th (Nat.le_refl _) s6 E (by omega) _ (b + 200) c0 e (far2 (some (.mrow 45 2 (E.map cSlot))) (some (.box 32 [.c (.int .i64 sk), .c (.int .i64 sn), .c (.str ty), .c (.str nm), .c (.sl (es.map cExpr)), .c (.sl (th.map cStmt)), .c (.sl (el.map cStmt))])) (some (.mrow 9 1 (ts.map cStr)))) (atc _ _ _) (ate _ _ _) (hno3 _ _ _ ⟨rfl, rfl⟩ ⟨by simp [O.ids, A.ids], rfl⟩ ⟨rfl, rfl⟩)
        rw [hth] at hT
        have hbf := hno2 (by simp only [stmtTB, hall, hst, hth, Bool.true_and, Bool.false_and])
        obtain rfl : r = none := hr.symm.trans (by unfold blkR; rw [hbf]; rfl)
        have nkc : ¬ Rr.keep c0 := by rw [hkeep]; intro h; exact h.2 (by simp [DB])
        refine W.bl ?_
        refine W.panR (base := b) (ch := mism) BB.tab_ok 3 (by decide) rfl ?_
        refine runk_exec zy30q6 ?_
        exact ⟨_, xs_callE (D := [c0, e]) (fun u hu => by simp at hu; rcases hu with rfl | rfl <;> assumption) rfl rfl rfl rfl (by simp) cw2 hT, rfl, by rfl, mleXX zy30q29⟩
      | true =>
        have hT := ih (SizeOf.sizeOf th) (by omega) th (Nat.le_refl _) s6 E (by omega) _ (b + 200) c0 e (far2 (some (.mrow 45 2 (E.map cSlot))) (some (.box 32 [.c (.int .i64 sk), .c (.int .i64 sn), .c (.str ty), .c (.str nm), .c (.sl (es.map cExpr)), .c (.sl (th.map cStmt)), .c (.sl (el.map cStmt))])) (some (.mrow 9 1 (ts.map cStr)))) (atc _ _ _) (ate _ _ _) (hno3 _ _ _ ⟨rfl, rfl⟩ ⟨by simp [O.ids, A.ids], rfl⟩ ⟨rfl, rfl⟩)
        rw [hth] at hT
        refine W.bl ?_
        refine W.regionK BB.tab_ok b (by decide) ?_
        refine runk_split 3 zy30q6 ?_
        refine runk_callE (D := [e]) rfl rfl rfl rfl rfl (fun j hj => by simp at hj; subst hj; exact nke) (by simp) cw2 hT ?_
        simp only [killL, putS]
        refine xe0 ?_
        refine W.weaken (st' := ⟨upd (upd (upd (upd (upd (upd (upd (fun _ => .top) 0 (.ptr c0 0)) 4 (.c (.int .i64 env.length))) 6 (.ptr (b + 6) 0)) 7 (.own (b + 24))) 15 (.c (.sl (l.map cStmt)))) 16 (.c (.int .i64 l.length))) 17 (.c (.int .i64 k)), upd (upd (upd M e (some (.mrow 45 2 (E.map cSlot)))) (b + 6) (some (.box 32 [.c (.int .i64 sk), .c (.int .i64 sn), .c (.str ty), .c (.str nm), .c (.sl (es.map cExpr)), .c (.sl (th.map cStmt)), .c (.sl (el.map cStmt))]))) (b + 24) (some (.mrow 9 1 (ts.map cStr)))⟩) ?le ?_
        case le =>
         refine le_mk ?sle ?mle ?swf ?mwf (fun i hi => by repeat (first | exact kept i hi | refine live_upd i ?_)) (by rfl)
         case swf => repeat (first | exact swf_top _ | refine swf_upd ?_ zy30q27)
         case mwf => repeat (first | exact hWF | refine mwf_some ?_ (fun i hi => by simp [O.ids, A.ids] at hi))
         case mle => first | exact mle_refl _ | exact mle_skip (mle_refl _) zy30q32
         case sle => repeat (first | exact sle_top _ | exact sle_refl _ | refine sle_upd ?_ zy30q24)
        clear hT
        cases hel2 : blockTB p.classes inn ret E el with
        | false =>
          have hT := ih (SizeOf.sizeOf el) (by omega) el (Nat.le_refl _) s7 E (by omega) _ (b + 200) c0 e (far2 (some (.mrow 45 2 (E.map cSlot))) (some (.box 32 [.c (.int .i64 sk), .c (.int .i64 sn), .c (.str ty), .c (.str nm), .c (.sl (es.map cExpr)), .c (.sl (th.map cStmt)), .c (.sl (el.map cStmt))])) (some (.mrow 9 1 (ts.map cStr)))) (atc _ _ _) (ate _ _ _) (hno3 _ _ _ ⟨rfl, rfl⟩ ⟨by simp [O.ids, A.ids], rfl⟩ ⟨rfl, rfl⟩)
          rw [hel2] at hT
          have hbf := hno2 (by simp only [stmtTB, hall, hst, hth, hel2, Bool.true_and, Bool.and_false])
          obtain rfl : r = none := hr.symm.trans (by unfold blkR; rw [hbf]; rfl)
          have nkc : ¬ Rr.keep c0 := by rw [hkeep]; intro h; exact h.2 (by simp [DB])
          refine W.bl ?_
          refine W.panR (base := b) (ch := mism) BB.tab_ok 3 (by decide) rfl ?_
          refine runk_exec zy30q6 ?_
          exact ⟨_, xs_callE (D := [c0, e]) (fun u hu => by simp at hu; rcases hu with rfl | rfl <;> assumption) rfl rfl rfl rfl (by simp) cw2 hT, rfl, by rfl, mleXX zy30q29⟩
        | true =>
          have hT := ih (SizeOf.sizeOf el) (by omega) el (Nat.le_refl _) s7 E (by omega) _ (b + 200) c0 e (far2 (some (.mrow 45 2 (E.map cSlot))) (some (.box 32 [.c (.int .i64 sk), .c (.int .i64 sn), .c (.str ty), .c (.str nm), .c (.sl (es.map cExpr)), .c (.sl (th.map cStmt)), .c (.sl (el.map cStmt))])) (some (.mrow 9 1 (ts.map cStr)))) (atc _ _ _) (ate _ _ _) (hno3 _ _ _ ⟨rfl, rfl⟩ ⟨by simp [O.ids, A.ids], rfl⟩ ⟨rfl, rfl⟩)
          rw [hel2] at hT
          refine W.bl ?_
          refine W.regionK BB.tab_ok b (by decide) ?_
          refine runk_split 3 zy30q6 ?_
          refine runk_callE (D := [e]) rfl rfl rfl rfl rfl (fun j hj => by simp at hj; subst hj; exact nke) (by simp) cw2 hT ?_
          simp only [killL, putS]
          refine xe0 ?_
          refine W.weaken (st' := ⟨upd (upd (upd (upd (upd (upd (upd (fun _ => .top) 0 (.ptr c0 0)) 4 (.c (.int .i64 env.length))) 6 (.ptr (b + 6) 0)) 7 (.own (b + 24))) 15 (.c (.sl (l.map cStmt)))) 16 (.c (.int .i64 l.length))) 17 (.c (.int .i64 k)), upd (upd (upd M e (some (.mrow 45 2 (E.map cSlot)))) (b + 6) (some (.box 32 [.c (.int .i64 sk), .c (.int .i64 sn), .c (.str ty), .c (.str nm), .c (.sl (es.map cExpr)), .c (.sl (th.map cStmt)), .c (.sl (el.map cStmt))]))) (b + 24) (some (.mrow 9 1 (ts.map cStr)))⟩) ?le ?_
          case le =>
           refine le_mk ?sle ?mle ?swf ?mwf (fun i hi => by repeat (first | exact kept i hi | refine live_upd i ?_)) (by rfl)
           case swf => repeat (first | exact swf_top _ | refine swf_upd ?_ zy30q27)
           case mwf => repeat (first | exact hWF | refine mwf_some ?_ (fun i hi => by simp [O.ids, A.ids] at hi))
           case mle => first | exact mle_refl _ | exact mle_skip (mle_refl _) zy30q32
           case sle => repeat (first | exact sle_top _ | exact sle_refl _ | refine sle_upd ?_ zy30q24)
          clear hT
          refine W.bl ?_
          refine W.regionK tab_ok b (by decide) ?_
          refine runk_exec zy30q9 ?_
          have hyes2 : blockTB p.classes inn ret env (l.take (k + 1)) = true := by
           rw [htk, blockTB_snoc, hyes, hE, Bool.true_and]
           simp only [blockTB, stmtTB, hall, hst, hth, hel2, Bool.and_true]
          refine W.cond rfl ?_ ?_
          ·intro h
           simp only [decide_eq_true_eq] at h
           subst h
           have hE2 : envK env (l.take (k + 1)) = E ++ [⟨ty, nm⟩] := by rw [htk, envK_snoc, hE]; rfl
           refine W.bl ?_
           refine W.regionX tab_ok follows_mixed ⟨upd (upd (upd (upd (upd (fun _ => .top) 0 (.ptr c0 0)) 4 (.c (.int .i64 env.length))) 15 (.c (.sl (l.map cStmt)))) 16 (.c (.int .i64 l.length))) 17 (.c (.int .i64 k)), upd M e (some (.mrow 45 2 ((E ++ ([⟨ty, nm⟩] : List Slot)).map cSlot)))⟩ ?_ ?_
           refine rx_move (base := b) tab_ok (by decide) (by decide +kernel) 0 rfl rfl rfl (by decide +kernel) (by decide +kernel) ⟨_, zy30q8, ?_⟩
           refine rx_runs (base := b) tab_ok (by decide) ?_
           refine first_exec 1 (by decide +kernel) ⟨_, zy30q8, ?_⟩
           refine first_exec 2 (by decide +kernel) ⟨_, zy30q8, ?_⟩
           refine first_exec 3 (by decide +kernel) ⟨_, zy30q8, ?_⟩
           refine first_exec 4 (by decide +kernel) ⟨_, zy30q8, ?_⟩
           refine first_exec 5 (by decide +kernel) ⟨_, zy30q8, ?_⟩
           refine first_exec 6 (by decide +kernel) ⟨_, zy30q8, ?_⟩
           refine first_exec 7 (by decide +kernel) ⟨_, zy30q8, ?_⟩
           refine first_exec 8 (by decide +kernel) ⟨_, zy30q8, ?_⟩
           refine first_exec 9 (by decide +kernel) ⟨_, zy30q8, ?_⟩
           refine first_exec 10 (by decide +kernel) ⟨_, zy30q8, ?_⟩
           refine runs_node [11] (by decide +kernel) (by decide) ?_
           refine step_append tab_ok rfl e false rfl rfl rfl rfl rfl rfl (by simp only [exb, Nat.reduceAdd, Nat.reduceLeDiff, Nat.reduceEqDiff, Nat.reduceMul, Int.reduceToNat, reduceIte, Int.reduceLE, Int.reduceNeg, hc0, he, cb, bc, eb, be, ce, ec, Nat.add_left_cancel_iff, Nat.add_eq_left, Nat.left_eq_add, upd_same, rowO]; done) zy30q7 zy30q7 rfl rfl rfl rfl nke (fun z hz => by simp at hz; subst hz; rfl) (by simp only [List.length_map, List.length_cons, List.length_nil]; omega) (by decide) ?_ ?_
           ·skip
            refine first_exec 12 (by decide +kernel) ⟨_, zy30q1, ?_⟩
            refine first_exec 13 (by decide +kernel) ⟨_, zy30q1, ?_⟩
            refine first_exec 14 (by decide +kernel) ⟨_, zy30q1, ?_⟩
            refine runsw_end (by decide +kernel) ?_
            refine le_mk ?sle ?mle ?swf ?mwf (fun i hi => by repeat (first | exact kept i hi | refine live_upd i ?_)) (by rfl)
            case swf => repeat (first | exact swf_top _ | refine swf_upd ?_ (by simp [A.ids, upd_app, killM_app, hc0, he, cb, bc, eb, be, ce, ec, Nat.add_left_cancel_iff]))
            case mwf => exact mwf_some hWF (fun i hi => by simp [O.ids, A.ids] at hi)
            case mle =>
             intro u
             by_cases h1 : u = e
             ·subst h1; right; simp [upd_app, killM_app, ec, rowO, List.map_append, cSlot]
             by_cases h2 : u = c0
             ·subst h2; right; simp [upd_app, killM_app, ce, hc0, ckC]
             cases ho : M u with
             | none => left; simp [upd_app, h1, ho]
             | some o =>
               have h3 : ¬ u = b + 6 := fun h => by subst h; rw [hf6] at ho; cases ho
               have h4 : ¬ u = b + 24 := fun h => by subst h; rw [hf24] at ho; cases ho
               right; simp [upd_app, h1, h2, h3, h4, killM_app, ho, (hno u o ho h2).2.2]
            case sle => repeat (first | exact sle_top _ | exact sle_refl _ | refine sle_upd ?_ (by first | rfl | (simp only [upd_app, killS_app, A.kill, entry_zero, entry_succ, Nat.reduceEqDiff, reduceIte, ce]; done)))
           ·trivial
           ·intro st' hle
            refine W.weaken hle ?_
            clear hle st'
            repeat (first | refine W.seq ?_ | refine W.block ?_ | refine W.skip ?_ | refine W.exit ?_ | refine W.region tab_ok b (by decide) xr0 ?_)
            refine ⟨k + 1, ⟨hlt, hyes2⟩, by omega, ?_⟩
            rw [hE2]
            refine le_mk ?sle ?mle ?swf ?mwf (fun i hi => by repeat (first | exact kept i hi | refine live_upd i ?_)) (by rfl)
            case swf => repeat (first | exact swf_top _ | refine swf_upd ?_ zy30q28)
            case mwf => exact mwf_some hWF (fun i hi => by simp [O.ids, A.ids] at hi)
            case mle => exact mle_refl _
            case sle => repeat (first | exact sle_top _ | exact sle_refl _ | refine sle_upd ?_ zy30q15)
          ·intro h
           simp only [decide_eq_false_iff_not] at h
           have hE2 : envK env (l.take (k + 1)) = E := by rw [htk, envK_snoc, hE]; simp [h]
           repeat (first | refine W.seq ?_ | refine W.block ?_ | refine W.skip ?_ | refine W.exit ?_ | refine W.region tab_ok b (by decide) xr0 ?_)
           refine ⟨k + 1, ⟨hlt, hyes2⟩, by omega, ?_⟩
           rw [hE2]
           refine le_mk ?sle ?mle ?swf ?mwf (fun i hi => by repeat (first | exact kept i hi | refine live_upd i ?_)) (by rfl)
           case swf => repeat (first | exact swf_top _ | refine swf_upd ?_ zy30q28)
           case mwf => repeat (first | exact hWF | refine mwf_some ?_ (fun i hi => by simp [O.ids, A.ids] at hi))
           case mle => exact mle_skip (mle_skip (mle_refl _) ((upd_ne (f := M) (t := e) (u := b + 6) _ (fun h => cast (be 6) h)).trans hf6)) ((upd_ne (f := M) (t := e) (u := b + 24) _ (fun h => cast (be 24) h)).trans hf24)
           case sle => repeat (first | exact sle_top _ | exact sle_refl _ | refine sle_upd ?_ zy30q15)
  ·intro hge
   simp only [decide_eq_false_iff_not, Int.ofNat_lt] at hge
   obtain rfl : k = l.length := by omega
   rw [List.take_length] at hyes ⊢
   obtain ⟨tE, htE⟩ := envK_pre env l
   have hr0 : blkR M (blockTB p.classes inn ret env l) = some (.tup [], M) := by unfold blkR; rw [hyes]; rfl
   obtain rfl : r = _ := hr.symm.trans hr0
   have hle2 : env.length ≤ env.length + tE.length := Nat.le_add_right _ _
   have hle3 : (0 ≤ env.length ∧ env.length ≤ env.length + tE.length) = True := eq_true ⟨Nat.zero_le _, hle2⟩
   have hle4 : (0 ≤ env.length) = True := eq_true (Nat.zero_le _)
   rw [htE]
   refine W.exit ?_
   refine W.bl ?_
   refine W.thenRewinBox c0 4 e (fun h => cast ce h) nke ?_
   refine W.regionK tab_ok b (by decide) ?_
   refine runk_exec (by simp only [exb, Nat.reduceAdd, Nat.reduceLeDiff, Nat.reduceEqDiff, Nat.reduceMul, Int.reduceToNat, reduceIte, Int.reduceLE, Int.reduceNeg, hc0, he, cb, bc, eb, be, ce, ec, Nat.add_left_cancel_iff, Nat.add_eq_left, Nat.left_eq_add, upd_same, List.length_map, List.length_append, Int.toNat_natCast, Int.natCast_nonneg, hle2, hle3, hle4]; rfl) ?_
   refine ⟨_, _, _, _, _, _, _, upd_same .., rfl, (upd_ne _ _ (fun h => cast ec h)).trans (upd_same ..), by simp, .inl rfl, by rfl, by rfl, ?_⟩
   intro u
   by_cases h1 : u = c0
   ·subst h1; right; simp [upd_app, hc0, A.kill]
   by_cases h2 : u = e
   ·subst h2; right; simp [upd_app, ec, he]
   cases ho : M u with
   | none => left; rfl
   | some o => right; simp [upd_app, h1, h2, killM_app, ho, (hno u o ho h1).2.2]
end
end V
end Go.Proofs.YthhpcjoaogmhbaaGreat
end
