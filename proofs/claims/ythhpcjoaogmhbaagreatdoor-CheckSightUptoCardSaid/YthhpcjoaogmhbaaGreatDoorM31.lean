/- Joined by my own program, in build order: Cchk, Cfld, Cexp, Cfld2, Vtree, Cmth, Bulk2, Bulk6, Bx, Top, Cd7, Veff, Vpor, Vpan, Vpan2, Vz, Plain, Plain2, Chks, Fit7, CP, Mu, Pk, Eq2, Vnil, Vmap, Frzb. -/
import Derived.Test.YthhpcjoaogmhbaaGreatDoorM30
import Derived.Test.YthhpcjoaogmhbaaGreatDoorM29
import Derived.Test.YthhpcjoaogmhbaaGreatDoorM26
import Derived.Test.YthhpcjoaogmhbaaGreatDoorRows
import Derived.ProofKit
import Derived.OpenShut
import Derived.HandedShaped
import Derived.Deep.DeepHandedRow
import Derived.LaidLaws
import Derived.Lib.LaidTab
import Derived.Test.YthhpcjoaogmhbaaGreatDoorM14
import Derived.Test.YthhpcjoaogmhbaaGreatDoorM15
set_option linter.unusedVariables false
set_option linter.unusedSimpArgs false
namespace Go.Proofs.YthhpcjoaogmhbaaGreatDoor
theorem zm31q1 {p : Prop} (h : p := by (simp only [exb, Nat.reduceAdd, Nat.reduceLeDiff, Nat.reduceEqDiff, Nat.reduceMul, Int.reduceToNat, reduceIte, Int.reduceLE, Int.reduceNeg, fullM, memM, slotM, cClass, cMethod, List.set_cons_zero, List.set_cons_succ]; rfl)) : p := h
theorem zm31q2 {p : Prop} (h : p := by (simp only [exb, Nat.reduceAdd, Nat.reduceLeDiff, Nat.reduceEqDiff, Nat.reduceMul, Int.reduceToNat, reduceIte, Int.reduceLE, Int.reduceNeg, tabs, V.tabs, hlt, at_map hx, cStmt, cExprs_map, cStmts_map]; rfl)) : p := h
theorem zm31q3 {p : Prop} (h : p := by (simp only [exb, Nat.reduceAdd, Nat.reduceLeDiff, Nat.reduceEqDiff, Nat.reduceMul, Int.reduceToNat, reduceIte, Int.reduceLE, Int.reduceNeg, tabs, V.tabs, hlt, at_map hx, cExpr, cExprs_map]; rfl)) : p := h
theorem zm31q4 {p : Prop} (h : p := by (simp only [exb, Nat.reduceAdd, Nat.reduceLeDiff, Nat.reduceEqDiff, Nat.reduceMul, Int.reduceToNat, reduceIte, Int.reduceLE, Int.reduceNeg, fullM, memM, slotM, cClass, cMethod, cStmts_map]; rfl)) : p := h
theorem zm31q5 {p : Prop} (h : p := by (simp only [exb, Nat.reduceAdd, Nat.reduceLeDiff, Nat.reduceEqDiff, Nat.reduceMul, Int.reduceToNat, reduceIte, Int.reduceLE, Int.reduceNeg, tabs, V.tabs, fullM, memF, slotF, cClass]; rfl)) : p := h
theorem zm31q6 {p : Prop} (h : p := by (simp only [Tryz.f41, resA, resOne, toT, fin, exb, Nat.reduceAdd, Nat.reduceLeDiff, Nat.reduceEqDiff, Nat.reduceMul, Int.reduceToNat, reduceIte, Int.reduceLE, Int.reduceNeg, h1, h2]; rfl)) : p := h
theorem zm31q7 {p : Prop} (h : p := by (simp only [exb, Nat.reduceAdd, Nat.reduceLeDiff, Nat.reduceEqDiff, Nat.reduceMul, Int.reduceToNat, reduceIte, Int.reduceLE, Int.reduceNeg, tabs, V.tabs, fullM, memF, slotF]; rfl)) : p := h
theorem zm31q8 {p : Prop} (h : p := by (simp only [exb, Nat.reduceAdd, Nat.reduceLeDiff, Nat.reduceEqDiff, Nat.reduceMul, Int.reduceToNat, reduceIte, Int.reduceLE, Int.reduceNeg, fullM, memH, slotH, cClass]; rfl)) : p := h
theorem zm31q9 {p : Prop} (h : p := by (simp only [exb, Nat.reduceAdd, Nat.reduceLeDiff, Nat.reduceEqDiff, Nat.reduceMul, Int.reduceToNat, reduceIte, Int.reduceLE, Int.reduceNeg, fullM, memM, slotM, cClass]; rfl)) : p := h
theorem zm31q10 {p : Prop} (h : p := by (simp only [exb, Nat.reduceAdd, Nat.reduceLeDiff, Nat.reduceEqDiff, Nat.reduceMul, Int.reduceToNat, reduceIte, Int.reduceLE, Int.reduceNeg, List.length_map, hd]; rfl)) : p := h
theorem zm31q11 {p : Prop} (h : p := by (simp only [exb, Nat.reduceAdd, Nat.reduceLeDiff, Nat.reduceEqDiff, Nat.reduceMul, Int.reduceToNat, reduceIte, Int.reduceLE, Int.reduceNeg, fullM, memH, slotH]; rfl)) : p := h
theorem zm31q12 {p : Prop} (h : p := by (simp only [exb, Nat.reduceAdd, Nat.reduceLeDiff, Nat.reduceEqDiff, Nat.reduceMul, Int.reduceToNat, reduceIte, Int.reduceLE, Int.reduceNeg, tabs, V.tabs]; rfl)) : p := h
theorem zm31q13 {p : Prop} (h : p := by (first | rfl | (simp only [upd_app, entry_zero, entry_succ, Nat.reduceEqDiff, reduceIte, hset, wrap_succ (show k + 1 < 9223372036854775808 by omega)]; done))) : p := h
theorem zm31q14 {p : Prop} (h : p := by (simp only [exb, Nat.reduceAdd, Nat.reduceLeDiff, Nat.reduceEqDiff, Nat.reduceMul, Int.reduceToNat, reduceIte, Int.reduceLE, Int.reduceNeg, cClass]; rfl)) : p := h
theorem zm31q15 {p : Prop} (h : p := by (simp only [exb, Nat.reduceAdd, Nat.reduceLeDiff, Nat.reduceEqDiff, Nat.reduceMul, Int.reduceToNat, reduceIte, Int.reduceLE, Int.reduceNeg, h1, h2]; rfl)) : p := h
theorem zm31q16 {p : Prop} (h : p := by (simp only [exb, Nat.reduceAdd, Nat.reduceLeDiff, Nat.reduceEqDiff, Nat.reduceMul, Int.reduceToNat, reduceIte, Int.reduceLE, Int.reduceNeg, cProg]; rfl)) : p := h
theorem zm31q17 {p : Prop} (h : p := by (first | rfl | (simp only [upd_app, killM_app, Nat.reduceEqDiff, reduceIte, hset, wrap_succ (show k + 1 < 9223372036854775808 by omega)]; done))) : p := h
theorem zm31q18 {p : Prop} (h : p := by (first | rfl | (simp only [upd_app, entry_zero, entry_succ, Nat.reduceEqDiff, reduceIte]; done))) : p := h
end Go.Proofs.YthhpcjoaogmhbaaGreatDoor
section
namespace Go.Proofs.YthhpcjoaogmhbaaGreatDoor
namespace V
open Go.RowKit
theorem check1_ok (cs : List Class) (mn : C) (c : Class) (hS : SmallC cs) (hlen : cs.length ≤ 16) (hc : c ∈ cs) (m : Mem) : COk Tryz.prog 28 [.agg (cClass c), .rptr [.sl (cs.map cClass), mn]] m (.c (.bool (!okClassB cs c))) := by
 refine (ok_pure tab_ok Tryz.func28 (by kernel_rfl) rfl rfl (by rfl) (by rfl) (by rfl) (fun R hkeep => ?_) m)
 repeat (first | refine W.seq ?_ | refine W.block ?_ | refine W.skip ?_ | refine W.exit ?_ | refine W.g ?_ zm31q14)
 refine W.regionK tab_ok 0 (by decide) ?_
 refine runk_split 2 zm31q14 ?_
 refine runk_call rfl rfl rfl rfl rfl (by simp) cw2 (class_ok cs mn c hS hlen hc _) ?_
 refine xe0 ?_
 exact W.ret ⟨.inr rfl, by rfl, (by simp only [Tryz.f28, resA, resOne, toT, fin, exb, Nat.reduceAdd, Nat.reduceLeDiff, Nat.reduceEqDiff, Nat.reduceMul, Int.reduceToNat, reduceIte, Int.reduceLE, Int.reduceNeg])⟩
def chkErr (e : Int) (cs : List Class) : Int :=
 if e = 0 then (if 16 < cs.length then 6 else if onceB (cs.map (·.name)) = false then 60 else if cs.any (fun c => !okClassB cs c) = true then 60 else 0) else e
set_option maxHeartbeats 1000000 in
theorem check_ok (p : Program) (e : Int) (hS : SmallC p.classes) (hlen : p.classes.length ≤ 1000000000) (hck : ∀ m, COk Tryz.prog 25 [.agg (cProg p)] m (.c (.int .i64 e))) (m : Mem) :
 COk Tryz.prog 12 [.agg (cProg p)] m (.c (.int .i64 (chkErr e p.classes))) := by
 obtain ⟨cs, mn⟩ := p
 dsimp only at hS hlen hck ⊢
 refine (ok_pure tab_ok Tryz.func12 (by kernel_rfl) rfl rfl (by rfl) (by rfl) (by rfl) (fun R hkeep => ?_) m)
 repeat (first | refine W.seq ?_ | refine W.block ?_ | refine W.skip ?_ | refine W.exit ?_ | refine W.g ?_ zm31q16)
 refine W.regionK tab_ok 0 (by decide) ?_
 refine runk_split 1 zm31q16 ?_
 refine runk_call rfl rfl rfl rfl rfl (by simp) cw1 (hck _) ?_
 refine xe0 ?_
 refine W.go ?_
 refine W.cond rfl ?_ ?_
 ·intro h
  have he : e ≠ 0 := by simpa using h
  refine W.go ?_
  refine W.ret ⟨.inr rfl, by rfl, ?_⟩
  simp only [Tryz.f12, resA, resOne, toT, fin, exb, Nat.reduceAdd, Nat.reduceLeDiff, Nat.reduceEqDiff, Nat.reduceMul, Int.reduceToNat, reduceIte, Int.reduceLE, Int.reduceNeg]
  simp [chkErr, he]
 intro h
 have he : e = 0 := by simpa using h
 subst he
 refine W.go ?_
 refine W.cond rfl ?_ ?_
 ·intro h
  have hl : 16 < cs.length := by simp at h; omega
  refine W.go ?_
  refine W.ret ⟨.inr rfl, by rfl, ?_⟩
  simp only [Tryz.f12, resA, resOne, toT, fin, exb, Nat.reduceAdd, Nat.reduceLeDiff, Nat.reduceEqDiff, Nat.reduceMul, Int.reduceToNat, reduceIte, Int.reduceLE, Int.reduceNeg]
  simp [chkErr, hl]
 intro h
 have hl : ¬ 16 < cs.length := by simp at h; omega
 refine W.go ?_
 refine W.newArr 4 4 9 1 rfl rfl ?_
 refine W.go ?_
 refine W.loop (ι := Nat) (fun k => ⟨upd (upd (upd (upd (upd (fun _ => .top) 1 (.ptr 1 0)) 4 (.own 4)) 17 (.c (.sl (cs.map cClass)))) 18 (.c (.int .i64 cs.length))) 19 (.c (.int .i64 k)),
  upd (upd Mem.nil 1 (some (.box 25 ((cProg ⟨cs, mn⟩).map A.c)))) 4 (some (.arr 9 1 (((cs.take k).map (·.name)).map cStr)))⟩) (fun k => k ≤ cs.length) (fun k => cs.length - k) 0 ?start (Nat.zero_le _) ?round
 case start =>
  refine le_L ?sle ?mle (kept_not hkeep)
  case mle => repeat (first | exact mle_nil _ | exact mle_refl _ | refine mle_upd ?_ (by first | rfl | (simp only [upd_app, killM_app, Nat.reduceEqDiff, reduceIte, cProg, List.map_cons, List.map_nil, List.take_zero]; done)))
  case sle => repeat (first | exact sle_top _ | exact sle_refl _ | refine sle_upd ?_ (by first | rfl | (simp only [upd_app, entry_zero, entry_succ, Nat.reduceEqDiff, reduceIte, cProg, List.map_cons, List.map_nil, List.take_zero]; done)))
 case round =>
  intro k hk
  repeat (first | refine W.seq ?_ | refine W.block ?_ | refine W.skip ?_ | refine W.exit ?_ | refine W.g ?_ zm31q16)
  refine W.cond rfl ?_ ?_
  ·intro hlt
   simp only [decide_eq_true_eq, Int.ofNat_lt] at hlt
   obtain ⟨x, hx⟩ : ∃ x, cs[k]? = some x := ⟨_, List.getElem?_eq_getElem hlt⟩
   repeat (first | refine W.seq ?_ | refine W.block ?_ | refine W.skip ?_ | refine W.exit ?_ | refine W.g ?_ (by simp only [exb, Nat.reduceAdd, Nat.reduceLeDiff, Nat.reduceEqDiff, Nat.reduceMul, Int.reduceToNat, reduceIte, Int.reduceLE, Int.reduceNeg, cProg, at_map hx, cClass]; rfl))
   refine W.regionK tab_ok 0 (by decide) ?_
   refine runk_split 4 zm31q16 ?_
   refine runk_append tab_ok 4 rfl rfl rfl rfl rfl rfl rfl rfl (by first | rfl | (simp only [exb, Nat.reduceAdd, Nat.reduceLeDiff, Nat.reduceEqDiff, Nat.reduceMul, Int.reduceToNat, reduceIte, Int.reduceLE, Int.reduceNeg, cProg]; rfl)) rfl rfl rfl rfl (nokeep hkeep) (by simp) (by have := List.length_take_le k cs; simp only [List.length_map, List.length_cons, List.length_nil]; omega) (by decide) ?_
   refine runk_exec zm31q16 ?_
   repeat (first | refine W.seq ?_ | refine W.block ?_ | refine W.skip ?_ | refine W.exit ?_ | refine W.g ?_ zm31q16)
   refine ⟨k + 1, hlt, by omega, ?_⟩
   refine le_L ?sle ?mle (kept_not hkeep)
   case mle => repeat (first | exact mle_nil _ | exact mle_refl _ | refine mle_upd ?_ (by first | rfl | (simp only [upd_app, killM_app, Nat.reduceEqDiff, reduceIte, cProg, O.kill, A.kill, Option.map_some, wrap_succ (show k + 1 < 9223372036854775808 by omega), List.take_add_one, hx, Option.toList_some, List.map_append, List.map_cons, List.map_nil, cStr]; done)))
   case sle => repeat (first | exact sle_top _ | exact sle_refl _ | refine sle_upd ?_ (by first | rfl | (simp only [upd_app, entry_zero, entry_succ, Nat.reduceEqDiff, reduceIte, cProg, O.kill, A.kill, Option.map_some, wrap_succ (show k + 1 < 9223372036854775808 by omega), List.take_add_one, hx, Option.toList_some, List.map_append, List.map_cons, List.map_nil, cStr]; done)))
  ·intro hge
   simp only [decide_eq_false_iff_not, Int.ofNat_lt] at hge
   obtain rfl : k = cs.length := by omega
   repeat (first | refine W.seq ?_ | refine W.block ?_ | refine W.skip ?_ | refine W.exit ?_ | refine W.g ?_ zm31q16)
   refine W.regionK tab_ok 0 (by decide) ?_
   refine runk_split 1 (by simp only [exb, Nat.reduceAdd, Nat.reduceLeDiff, Nat.reduceEqDiff, Nat.reduceMul, Int.reduceToNat, reduceIte, Int.reduceLE, Int.reduceNeg, cProg, List.take_length]; rfl) ?_
   refine runk_call rfl rfl rfl rfl rfl (by simp) (cvs_cons (cv_own rfl) cvs_nil) (once_ok (cs.map (·.name)) (by simp; omega) _) ?_
   cases h1 : onceB (cs.map (·.name)) with
   | false =>
     refine runk_exec zm31q16 ?_
     repeat (first | refine W.seq ?_ | refine W.block ?_ | refine W.skip ?_ | refine W.exit ?_ | refine W.g ?_ zm31q16)
     refine W.cond rfl (fun _ => ?_) (fun h => by cases h)
     repeat (first | refine W.seq ?_ | refine W.block ?_ | refine W.skip ?_ | refine W.exit ?_ | refine W.g ?_ zm31q16)
     refine W.ret ⟨.inr rfl, by rfl, ?_⟩
     simp only [Tryz.f12, resA, resOne, toT, fin, exb, Nat.reduceAdd, Nat.reduceLeDiff, Nat.reduceEqDiff, Nat.reduceMul, Int.reduceToNat, reduceIte, Int.reduceLE, Int.reduceNeg]
     simp [chkErr, hl, h1]
   | true =>
     refine runk_split 5 zm31q16 ?_
     refine runk_callR rfl rfl rfl rfl rfl (by simp) (cvrs_cons cvr_refl (cvrs_cons (cvr_fn (caps_one rfl rfl)) cvrs_nil)) (by rfl) (by rfl) (anyClass_ok cs 28 [[.sl (cs.map cClass), .sl (cStmts mn)]] (fun c => !okClassB cs c) (by omega) (fun x hx m => check1_ok cs (.sl (cStmts mn)) x hS (by omega) hx m)) ?_
     refine runk_exec zm31q16 ?_
     refine W.cond rfl ?_ ?_
     ·intro hb
      have hb : cs.any (fun c => !okClassB cs c) = true := hb
      repeat (first | refine W.seq ?_ | refine W.block ?_ | refine W.skip ?_ | refine W.exit ?_ | refine W.g ?_ zm31q16)
      refine W.ret ⟨.inr rfl, by rfl, ?_⟩
      simp only [Tryz.f12, resA, resOne, toT, fin, exb, Nat.reduceAdd, Nat.reduceLeDiff, Nat.reduceEqDiff, Nat.reduceMul, Int.reduceToNat, reduceIte, Int.reduceLE, Int.reduceNeg]
      simp only [chkErr, if_true, if_neg hl, h1, hb]; rfl
     ·intro hb
      have hb : cs.any (fun c => !okClassB cs c) = false := hb
      repeat (first | refine W.seq ?_ | refine W.block ?_ | refine W.skip ?_ | refine W.exit ?_ | refine W.g ?_ zm31q16)
      refine W.ret ⟨.inr rfl, by rfl, ?_⟩
      simp only [Tryz.f12, resA, resOne, toT, fin, exb, Nat.reduceAdd, Nat.reduceLeDiff, Nat.reduceEqDiff, Nat.reduceMul, Int.reduceToNat, reduceIte, Int.reduceLE, Int.reduceNeg]
      simp only [chkErr, if_true, if_neg hl, h1, hb]; rfl
def nameAt (cs : List Class) (x : Nat × Nat) : List ByteArray := match cs[x.2]? with | some k => [k.name] | none => []
def upNames (cs : List Class) (l : List (Nat × Nat)) : List ByteArray := l.flatMap (nameAt cs)
theorem upNames_len (cs : List Class) : ∀ l : List (Nat × Nat), (upNames cs l).length ≤ l.length
 | [] => by simp [upNames]
 | x :: l => by
   have ih := upNames_len cs l
   unfold upNames at *
   rw [List.flatMap_cons, List.length_append, List.length_cons]
   have : (nameAt cs x).length ≤ 1 := by unfold nameAt; split <;> simp
   omega
def chainR (E : Int) (cs : List Class) (n : ByteArray) : List ByteArray := if E = 0 then upNames cs (upX cs (cs.length + 1) 0 n) else []
def memH (cs : List Class) (mn : C) (l : List ByteArray) : Mem :=
 upd (upd (upd Mem.nil 2 (some (.box 25 [.c (.sl (cs.map cClass)), .c mn]))) 4 (some (.box 55 [.own 50]))) 50 (some (.arr 9 1 (l.map cStr)))
def slotH : Nat → A := upd (upd (fun _ => .top) 2 (.ptr 2 0)) 4 (.ptr 4 0)
theorem slotH_ids : ∀ t, ∀ j ∈ (slotH t).ids, j ≤ 5 := by
 intro t j hj
 unfold slotH upd at hj
 repeat' (split at hj)
 all_goals (simp [A.ids] at hj)
 all_goals omega
set_option maxHeartbeats 1000000 in
theorem chainP_ok (p : Program) (E : Int) (name : ByteArray) (hlen : p.classes.length ≤ 1000000000) (hchk : ∀ m, COk Tryz.prog 12 [.agg (cProg p)] m (.c (.int .i64 E))) (m : Mem) :
 COk Tryz.prog 103 [.agg (cProg p), .c (.str name)] m (.c (.sl ((chainR E p.classes name).map cStr))) := by
 obtain ⟨cs, mn'⟩ := p
 dsimp only at hlen hchk ⊢
 generalize hmn : C.sl (cStmts mn') = mn
 have hpr : cProg ⟨cs, mn'⟩ = [.sl (cs.map cClass), mn] := by rw [← hmn]; rfl
 rw [hpr] at hchk ⊢
 refine (ok_pureM tab_ok Tryz.func103 (by kernel_rfl) rfl rfl (by rfl) (by rfl) (by rfl) (fun R hkeep => ?_) m)
 refine W.go ?_
 refine W.regionK tab_ok 0 (by decide) ?_
 refine xs0 1 ?_
 refine runk_call rfl rfl rfl rfl rfl (by simp) cw1 (hchk _) ?_
 refine xe0 ?_
 refine W.cond rfl ?_ ?_
 ·intro h
  have he : E ≠ 0 := by simpa using h
  refine W.go ?_
  refine W.ret ⟨.inr rfl, .inl ⟨rfl, ?_⟩⟩
  simp only [Tryz.f103, resA, resOne, toT, fin, exb, Nat.reduceAdd, Nat.reduceLeDiff, Nat.reduceEqDiff, Nat.reduceMul, Int.reduceToNat, reduceIte, Int.reduceLE, Int.reduceNeg]
  simp [chainR, he]
 intro h
 have he : E = 0 := by simpa using h
 subst he
 refine W.go ?_
 refine W.newRowBox true 4 0 50 9 1 rfl rfl rfl ?_
 refine W.go ?_
 refine W.regionK tab_ok 0 (by decide) ?_
 refine xs0 2 ?_
 refine runk_call0 rfl rfl rfl rfl rfl rfl (by simp) cw2 (up_ok (cs.map cClass) mn name _ 1000 1001 rfl rfl (by decide)) ?_
 refine xe0 ?_
 refine W.go ?_
 have hG : ∀ l, GoodM R.keep slotH 1000 1001 1002 1003 (memH cs mn l) := fun l => by
  refine ⟨?_, rfl, rfl, rfl, rfl, ?_, kept_not hkeep⟩
  ·unfold memH
   show MWf _ _
   (repeat (first | exact mwf_nil _ | refine mwf_upd ?_ (by simp [A.ids, O.ids, upd_app])))
  ·show SWf _ _
   unfold memH slotH
   (repeat (first | exact swf_top _ | refine swf_upd ?_ (by simp [A.ids, upd_app])))
 have hul := upX_len cs (cs.length + 1) 0 name
 refine W.rangeUp cs name mn 1000 1001 1002 1003 slotH (fun k => memH cs mn (upNames cs ((upX cs (cs.length + 1) 0 name).take k))) (fun _ => True) (by omega) rfl rfl rfl (by decide) rfl rfl (by decide) trivial rfl ?sle ?sn ?m0 (fun k _ => hG _) ?round ?done
 case sle =>
  unfold slotH
  (repeat (first | exact sle_top _ | exact sle_refl _ | refine sle_upd ?_ zm31q18))
 case sn =>
  unfold slotH
  (repeat (first | exact sn_top | refine sn_upd ?_ (by decide)))
 case m0 =>
  refine mle_some ?_
  unfold memH
  (repeat (first | exact mle_nil _ | exact mle_refl _ | refine mle_upd ?_ (by first | rfl | (simp only [upd_app, killM_app, Nat.reduceEqDiff, reduceIte, List.take_zero, upNames, List.flatMap_nil, List.map_nil]; done))))
 case round =>
  intro R' l hk' k j kc x1 x2 xL _ hitem hkc
  have hn50 : ¬ R'.keep 50 := fun h => by
   rw [hk', hkeep] at h
   rcases h with h | ⟨t, h⟩ | h
   ·exact h
   ·have := slotH_ids t 50 h; omega
   ·omega
  have hF : List.map cStr (upNames cs ((upX cs (cs.length + 1) 0 name).take k)) ++ [cStr kc.name] = List.map cStr (upNames cs ((upX cs (cs.length + 1) 0 name).take (k + 1))) := by
   rw [List.take_add_one, hitem]
   simp [upNames, nameAt, hkc]
  repeat (first | refine WI.seq ?_ | refine WI.block ?_ | refine WI.skip ?_ | refine WI.exit ?_ | refine WI.region tab_ok 0 (by decide) (by kernel_rfl) (exec_run zm31q8) ?_)
  refine ⟨rfl, fun xL' => ?_⟩
  repeat (first | refine WI.seq ?_ | refine WI.block ?_ | refine WI.skip ?_ | refine WI.exit ?_ | refine WI.region tab_ok 0 (by decide) (by kernel_rfl) (exec_run zm31q8) ?_)
  refine WI.regionK tab_ok 0 (by decide) (by kernel_rfl) ?_
  refine runk_split 4 zm31q11 ?_
  refine runk_append tab_ok 50 rfl rfl rfl rfl rfl rfl rfl rfl (by first | rfl | (simp only [exb, Nat.reduceAdd, Nat.reduceLeDiff, Nat.reduceEqDiff, Nat.reduceMul, Int.reduceToNat, reduceIte, Int.reduceLE, Int.reduceNeg, fullM, memH, slotH]; rfl)) rfl rfl rfl rfl hn50 (by simp) (by have h1 := upNames_len cs ((upX cs (cs.length + 1) 0 name).take k); have h3 := List.length_take_le k (upX cs (cs.length + 1) 0 name); have h4 := (List.getElem?_eq_some_iff.1 hitem).1; simp only [List.length_map, List.length_cons, List.length_nil, List.length_take] at *; omega) (by decide) ?_
  refine runk_exec zm31q11 ?_
  repeat (first | refine WI.seq ?_ | refine WI.block ?_ | refine WI.skip ?_ | refine WI.exit ?_ | refine WI.region tab_ok 0 (by decide) (by kernel_rfl) (exec_run zm31q11) ?_)
  refine ⟨trivial, fun j => j, Le.toT ?_⟩
  simp only [fullM, memH, ← hF]
  refine le_mk ?sle ?mle ?swf ?mwf (fun j hj => fullM_keep (hF ▸ hG _) hj) (by rfl)
  case swf => repeat (first | exact swf_top _ | refine swf_upd ?_ (by simp [A.ids, upd_app, fullM, memH, cStr]))
  case mwf => repeat (first | exact mwf_nil _ | refine mwf_upd ?_ (by simp [A.ids, O.ids, upd_app, fullM, memH, cStr]))
  case mle => repeat (first | exact mle_nil _ | exact mle_refl _ | refine mle_upd ?_ (by first | rfl | (simp only [upd_app, killM_app, O.kill, A.kill, Nat.reduceEqDiff, reduceIte, Option.map_some, Option.map_none, List.map_cons, List.map_nil, fullM, memH, cStr]; done)))
  case sle => repeat (first | exact sle_top _ | exact sle_refl _ | refine sle_upd ?_ (by first | rfl | (simp only [upd_app, killS_app, A.kill, entry_zero, entry_succ, Nat.reduceEqDiff, reduceIte, fullM, memH, cStr]; done)))
 case done =>
  intro _ b
  rw [List.take_length]
  repeat (first | refine W.seq ?_ | refine W.block ?_ | refine W.skip ?_ | refine W.exit ?_ | refine W.g ?_ (by simp only [exb, Nat.reduceAdd, Nat.reduceLeDiff, Nat.reduceEqDiff, Nat.reduceMul, Int.reduceToNat, reduceIte, Int.reduceLE, Int.reduceNeg, doneS, doneM, DID, memH, slotH]; rfl))
  refine W.ret ⟨.inr rfl, .inr ⟨b, 1002, rfl, rfl, rfl, ?_⟩⟩
  simp only [Tryz.f103, resA, resOne, toT, fin, doneS, doneM, DID, exb, Nat.reduceAdd, Nat.reduceLeDiff, Nat.reduceEqDiff, Nat.reduceMul, Int.reduceToNat, reduceIte, Int.reduceLE, Int.reduceNeg, memH]
  simp [chainR]
theorem index_ok (l : List ByteArray) (s : ByteArray) (hlen : l.length ≤ 1000000000000) (m : Mem) : COk Tryz.prog 117 [.c (.sl (l.map cStr)), .c (.str s)] m (.c (.int .i64 (idxB (fun x => s.toList == x.toList) l))) := by
 refine (ok_pure tab_ok Tryz.func117 (by kernel_rfl) rfl rfl (by rfl) (by rfl) (by rfl) (fun R hkeep => ?_) m)
 refine W.go ?_
 refine W.loop (ι := Nat) (fun k => ⟨upd (upd (upd (upd (upd (fun _ => .top) 0 (.c (.sl (l.map cStr)))) 1 (.c (.str s))) 4 (.c (.int .i64 0))) 7 (.c (.int .i64 l.length))) 8 (.c (.int .i64 k)), Mem.nil⟩) (fun k => k ≤ l.length ∧ (l.take k).any (fun x => s.toList == x.toList) = false) (fun k => l.length - k) 0 ?start ⟨Nat.zero_le _, rfl⟩ ?round
 case start =>
  exact le_D (kept_not hkeep)
 case round =>
  rintro k ⟨hkl, hno⟩
  refine W.go ?_
  refine W.cond rfl ?_ ?_
  ·intro hlt
   simp only [decide_eq_true_eq, Int.ofNat_lt] at hlt
   obtain ⟨x, hx⟩ : ∃ x, l[k]? = some x := ⟨_, List.getElem?_eq_getElem hlt⟩
   repeat (first | refine W.seq ?_ | refine W.block ?_ | refine W.skip ?_ | refine W.exit ?_ | refine W.g ?_ (by simp only [exb, Nat.reduceAdd, Nat.reduceLeDiff, Nat.reduceEqDiff, Nat.reduceMul, Int.reduceToNat, reduceIte, Int.reduceLE, Int.reduceNeg, at_map hx, cStr]; rfl))
   refine W.cond rfl ?_ ?_
   ·intro hp
    refine W.go ?_
    refine W.ret ⟨.inr rfl, by rfl, ?_⟩
    simp only [Tryz.f117, resA, resOne, toT, fin, exb, Nat.reduceAdd, Nat.reduceLeDiff, Nat.reduceEqDiff, Nat.reduceMul, Int.reduceToNat, reduceIte, Int.reduceLE, Int.reduceNeg]
    rw [idxB_at hno hx hp]
   ·intro hp
    refine W.go ?_
    refine ⟨k + 1, ⟨hlt, ?_⟩, by omega, ?_⟩
    ·rw [List.take_add_one, hx, List.any_append, hno]; simpa using hp
    exact le_Sk (kept_not hkeep)
  ·intro hge
   simp only [decide_eq_false_iff_not, Int.ofNat_lt] at hge
   obtain rfl : k = l.length := by omega
   rw [List.take_length] at hno
   refine W.go ?_
   refine W.ret ⟨.inr rfl, by rfl, ?_⟩
   simp only [Tryz.f117, resA, resOne, toT, fin, exb, Nat.reduceAdd, Nat.reduceLeDiff, Nat.reduceEqDiff, Nat.reduceMul, Int.reduceToNat, reduceIte, Int.reduceLE, Int.reduceNeg]
   rw [idxB_none hno]
theorem contains_ok (l : List ByteArray) (s : ByteArray) (hlen : l.length ≤ 1000000000000) (m : Mem) : COk Tryz.prog 102 [.c (.sl (l.map cStr)), .c (.str s)] m (.c (.bool (l.any (fun x => s.toList == x.toList)))) := by
 refine (ok_pure tab_ok Tryz.func102 (by kernel_rfl) rfl rfl (by rfl) (by rfl) (by rfl) (fun R hkeep => ?_) m)
 refine W.go ?_
 refine W.regionK tab_ok 0 (by decide) ?_
 refine xs0 2 ?_
 refine runk_call rfl rfl rfl rfl rfl (by simp) cw2 (index_ok l s hlen _) ?_
 refine xe0 ?_
 refine W.go ?_
 refine W.ret ⟨.inr rfl, by rfl, ?_⟩
 simp only [Tryz.f102, resA, resOne, toT, fin, exb, Nat.reduceAdd, Nat.reduceLeDiff, Nat.reduceEqDiff, Nat.reduceMul, Int.reduceToNat, reduceIte, Int.reduceLE, Int.reduceNeg]
 rw [idxB_any (fun x : ByteArray => s.toList == x.toList) l]
def belowR (E : Int) (cs : List Class) (a b : ByteArray) : Bool := (chainR E cs a).any (fun x => b.toList == x.toList)
theorem chainR_len (E : Int) (cs : List Class) (n : ByteArray) : (chainR E cs n).length ≤ cs.length + 1 := by
 unfold chainR
 split
 ·exact Nat.le_trans (upNames_len _ _) (upX_len _ _ _ _)
 ·simp
theorem below_ok (p : Program) (E : Int) (a b : ByteArray) (hlen : p.classes.length ≤ 1000000000) (hchk : ∀ m, COk Tryz.prog 12 [.agg (cProg p)] m (.c (.int .i64 E))) (m : Mem) :
 COk Tryz.prog 76 [.agg (cProg p), .c (.str a), .c (.str b)] m (.c (.bool (belowR E p.classes a b))) := by
 have hcl := chainR_len E p.classes a
 refine (ok_pure tab_ok Tryz.func76 (by kernel_rfl) rfl rfl (by rfl) (by rfl) (by rfl) (fun R hkeep => ?_) m)
 repeat (first | refine W.seq ?_ | refine W.block ?_ | refine W.skip ?_ | refine W.exit ?_ | refine W.g ?_ zm31q16)
 refine W.regionK tab_ok 0 (by decide) ?_
 refine runk_split 2 zm31q16 ?_
 refine runk_call rfl rfl rfl rfl rfl (by simp) cw2 (chainP_ok p E a hlen hchk _) ?_
 refine runk_split 1 zm31q16 ?_
 refine runk_call rfl rfl rfl rfl rfl (by simp) cw2 (contains_ok (chainR E p.classes a) b (by omega) _) ?_
 refine xe0 ?_
 exact W.ret ⟨.inr rfl, by rfl, (by simp only [Tryz.f76, resA, resOne, toT, fin, exb, Nat.reduceAdd, Nat.reduceLeDiff, Nat.reduceEqDiff, Nat.reduceMul, Int.reduceToNat, reduceIte, Int.reduceLE, Int.reduceNeg]; rfl)⟩
end V
end Go.Proofs.YthhpcjoaogmhbaaGreatDoor
end
section
namespace Go.Proofs.YthhpcjoaogmhbaaGreatDoor
namespace V
open Go.RowKit
def tabE : Tab := { tab with eff := fun f => f == 57 || f == 99 }
namespace E
theorem tab_ok : tabE.Ok Tryz.prog := ⟨V.tab_ok.ty, V.tab_ok.zero, V.tab_ok.elem, V.tab_ok.off, V.tab_ok.bool, V.tab_ok.fields, V.tab_ok.bytes, V.tab_ok.nilk, V.tab_ok.int, V.tab_ok.map, V.tab_ok.str, V.tab_ok.one, V.tab_ok.seq⟩
theorem tabs : tabE.ty = tab.ty ∧ tabE.zero = tab.zero ∧ tabE.elem = tab.elem ∧ tabE.off = tab.off ∧ tabE.bool = tab.bool ∧ tabE.fields = tab.fields ∧ tabE.bytes = tab.bytes ∧ tabE.nilk = tab.nilk ∧ tabE.int = tab.int ∧ tabE.map = tab.map ∧ tabE.str = tab.str ∧ tabE.one = tab.one ∧ tabE.seq = tab.seq := ⟨rfl, rfl, rfl, rfl, rfl, rfl, rfl, rfl, rfl, rfl, rfl, rfl, rfl⟩
def cPart (l : List Slot) : List C := [.sl (l.map cSlot)]
theorem flat_take {α : Type} (ps : List (List α)) {k : Nat} {l : List α} (h : ps[k]? = some l) : (ps.take (k + 1)).flatten = (ps.take k).flatten ++ l := by
 rw [List.take_add_one, h]; simp
theorem flat_le {α : Type} (ps : List (List α)) (k : Nat) : (ps.take k).flatten.length ≤ ps.flatten.length := by
 have e : ps.flatten = (ps.take k).flatten ++ (ps.drop k).flatten := by rw [← List.flatten_append, List.take_append_drop]
 rw [e, List.length_append]
 exact Nat.le_add_right _ _
set_option maxHeartbeats 2000000 in
theorem concat_ok (ps : List (List Slot)) (hps : ps.length ≤ 1000000000000) (hn : ps.flatten.length ≤ 1000000000000) (m : Mem) : COk Tryz.prog 74 [.c (.sl (ps.map cPart))] m (.c (.sl (ps.flatten.map cSlot))) := by
 refine (ok_pure tab_ok Tryz.func74 (by kernel_rfl) rfl rfl (by rfl) (by rfl) (by rfl) (fun R hkeep => ?_) m)
 repeat (first | refine W.seq ?_ | refine W.block ?_ | refine W.skip ?_ | refine W.exit ?_ | refine W.g ?_ zm31q12)
 refine W.loop (ι := Nat) (fun k => ⟨upd (upd (upd (upd (upd (fun _ => .top) 0 (.c (.sl (ps.map cPart)))) 3 (.c (.int .i64 (ps.take k).flatten.length))) 9 (.c (.sl (ps.map cPart)))) 10 (.c (.int .i64 ps.length))) 11 (.c (.int .i64 k)), Mem.nil⟩)
  (fun k => k ≤ ps.length) (fun k => ps.length - k) 0 ?start (Nat.zero_le _) ?round
 case start =>
  exact le_D (kept_not hkeep)
 case round =>
  intro k hk
  repeat (first | refine W.seq ?_ | refine W.block ?_ | refine W.skip ?_ | refine W.exit ?_ | refine W.g ?_ zm31q12)
  refine W.cond rfl ?_ ?_
  ·intro hlt
   simp only [decide_eq_true_eq, Int.ofNat_lt] at hlt
   obtain ⟨l, hl⟩ : ∃ l, ps[k]? = some l := ⟨_, List.getElem?_eq_getElem hlt⟩
   have hle := flat_le ps (k + 1)
   rw [flat_take ps hl, List.length_append] at hle
   have hw : IntKind.i64.wrap (((ps.take k).flatten.length : Int) + (l.length : Int)) = ((ps.take (k + 1)).flatten.length : Int) := by
    rw [flat_take ps hl, List.length_append, ← Int.natCast_add, wrap_nat (by omega)]
   have hneg : ¬ (((ps.take (k + 1)).flatten.length : Int) < 0) := by omega
   repeat (first | refine W.seq ?_ | refine W.block ?_ | refine W.skip ?_ | refine W.exit ?_ | refine W.g ?_ (by simp only [exb, Nat.reduceAdd, Nat.reduceLeDiff, Nat.reduceEqDiff, Nat.reduceMul, Int.reduceToNat, reduceIte, Int.reduceLE, Int.reduceNeg, tabs, V.tabs, at_map hl, cPart, hw]; rfl))
   refine W.cond rfl (fun h => absurd (by simpa using h) hneg) (fun _ => ?_)
   repeat (first | refine W.seq ?_ | refine W.block ?_ | refine W.skip ?_ | refine W.exit ?_ | refine W.g ?_ zm31q12)
   refine ⟨k + 1, hlt, by omega, ?_⟩
   exact le_Sk (kept_not hkeep)
  ·intro hge
   simp only [decide_eq_false_iff_not, Int.ofNat_lt] at hge
   obtain rfl : k = ps.length := by omega
   rw [List.take_length]
   repeat (first | refine W.seq ?_ | refine W.block ?_ | refine W.skip ?_ | refine W.exit ?_ | refine W.g ?_ zm31q12)
   refine W.regionK tab_ok 0 (by decide) ?_
   refine runk_split 1 zm31q12 ?_
   refine runk_call0 rfl rfl rfl rfl rfl rfl (by simp) cw2 (grow_ok _ hn _ 24 rfl) ?_
   refine runk_exec zm31q12 ?_
   repeat (first | refine W.seq ?_ | refine W.block ?_ | refine W.skip ?_ | refine W.exit ?_ | refine W.g ?_ zm31q12)
   refine W.loop (ι := Nat) (fun k => ⟨upd (upd (upd (upd (fun _ => .top) 6 (.own 24)) 25 (.c (.sl (ps.map cPart)))) 26 (.c (.int .i64 ps.length))) 27 (.c (.int .i64 k)), upd Mem.nil 24 (some (.arr 35 2 ((ps.take k).flatten.map cSlot)))⟩)
    (fun k => k ≤ ps.length) (fun k => ps.length - k) 0 ?start2 (Nat.zero_le _) ?round2
   case start2 =>
    exact le_D (kept_not hkeep)
   case round2 =>
    intro k hk
    repeat (first | refine W.seq ?_ | refine W.block ?_ | refine W.skip ?_ | refine W.exit ?_ | refine W.g ?_ zm31q12)
    refine W.cond rfl ?_ ?_
    ·intro hlt
     simp only [decide_eq_true_eq, Int.ofNat_lt] at hlt
     obtain ⟨l, hl⟩ : ∃ l, ps[k]? = some l := ⟨_, List.getElem?_eq_getElem hlt⟩
     have hle := flat_le ps (k + 1)
     have hft := flat_take ps hl
     rw [hft, List.length_append] at hle
     repeat (first | refine W.seq ?_ | refine W.block ?_ | refine W.skip ?_ | refine W.exit ?_ | refine W.g ?_ (by simp only [exb, Nat.reduceAdd, Nat.reduceLeDiff, Nat.reduceEqDiff, Nat.reduceMul, Int.reduceToNat, reduceIte, Int.reduceLE, Int.reduceNeg, tabs, V.tabs, at_map hl, cPart]; rfl))
     refine W.regionK tab_ok 0 (by decide) ?_
     refine runk_split 2 zm31q12 ?_
     refine runk_append tab_ok 24 rfl rfl rfl rfl rfl rfl rfl rfl (by first | rfl | (simp only [exb, Nat.reduceAdd, Nat.reduceLeDiff, Nat.reduceEqDiff, Nat.reduceMul, Int.reduceToNat, reduceIte, Int.reduceLE, Int.reduceNeg, tabs, V.tabs]; rfl)) rfl rfl rfl rfl (nokeep hkeep) (by intro z hz; obtain ⟨s, -, rfl⟩ := List.mem_map.1 hz; rfl) (by simp only [List.length_map]; omega) (by decide) ?_
     refine runk_exec zm31q12 ?_
     repeat (first | refine W.seq ?_ | refine W.block ?_ | refine W.skip ?_ | refine W.exit ?_ | refine W.g ?_ zm31q12)
     refine ⟨k + 1, hlt, by omega, ?_⟩
     rw [hft, List.map_append]
     exact le_Sk (kept_not hkeep)
    ·intro hge
     simp only [decide_eq_false_iff_not, Int.ofNat_lt] at hge
     obtain rfl : k = ps.length := by omega
     rw [List.take_length]
     repeat (first | refine W.seq ?_ | refine W.block ?_ | refine W.skip ?_ | refine W.exit ?_ | refine W.g ?_ zm31q12)
     exact W.ret ⟨.inr rfl, by rfl, (by simp only [Tryz.f74, resA, resOne, toT, fin, exb, Nat.reduceAdd, Nat.reduceLeDiff, Nat.reduceEqDiff, Nat.reduceMul, Int.reduceToNat, reduceIte, Int.reduceLE, Int.reduceNeg, tabs, V.tabs])⟩
end E
end V
end Go.Proofs.YthhpcjoaogmhbaaGreatDoor
end
section
namespace Go.Proofs.YthhpcjoaogmhbaaGreatDoor
namespace V
open Go.RowKit
mutual
def SmallE (N : Nat) : Expr → Prop
 | ⟨_, _, _, kids⟩ => kids.length ≤ N ∧ SmallEs N kids
def SmallEs (N : Nat) : List Expr → Prop
 | [] => True
 | x :: l => SmallE N x ∧ SmallEs N l
end
mutual
def SmallS (N : Nat) : Stmt → Prop
 | ⟨_, _, _, _, es, th, el⟩ => es.length ≤ N ∧ SmallEs N es ∧ th.length ≤ N ∧ SmallSs N th ∧ el.length ≤ N ∧ SmallSs N el
def SmallSs (N : Nat) : List Stmt → Prop
 | [] => True
 | x :: l => SmallS N x ∧ SmallSs N l
end
theorem SmallSs.mem {N : Nat} : ∀ {l : List Stmt} {x : Stmt}, SmallSs N l → x ∈ l → SmallS N x
 | y :: l, x, h, hx => by
   simp only [SmallSs] at h
   rcases List.mem_cons.1 hx with rfl | hx
   ·exact h.1
   ·exact SmallSs.mem h.2 hx
theorem SmallEs.mem {N : Nat} : ∀ {l : List Expr} {x : Expr}, SmallEs N l → x ∈ l → SmallE N x
 | y :: l, x, h, hx => by
   simp only [SmallEs] at h
   rcases List.mem_cons.1 hx with rfl | hx
   ·exact h.1
   ·exact SmallEs.mem h.2 hx
theorem set_self {α : Type} {l : List α} {k : Nat} {x : α} (h : l[k]? = some x) : l.set k x = l := by
 obtain ⟨h1, h2⟩ := List.getElem?_eq_some_iff.1 h
 rw [← h2]
 exact List.set_getElem_self h1
theorem exprInfo : ∃ i z, Tryz.prog.info? 29 = some i ∧ i.zero = some z ∧ i.size = 4 ∧ i.bytes = 56 ∧ z.cells.size = 4 := by
 obtain ⟨i, z, h1, h2, h3, -⟩ := V.tab_ok.zero 29 _ rfl
 obtain ⟨-, ⟨i', h4, h5⟩, -⟩ := V.tab_ok.ty 29 _ _ rfl
 obtain ⟨i2, h6, h7⟩ := V.tab_ok.bytes 29 _ rfl
 rw [h1] at h4 h6
 cases h4; cases h6
 exact ⟨i, z, h1, h2, h5, h7, by rw [h3]; rfl⟩
theorem stmtInfo : ∃ i z, Tryz.prog.info? 118 = some i ∧ i.zero = some z ∧ i.size = 7 ∧ i.bytes = 120 ∧ z.cells.size = 7 := by
 obtain ⟨i, z, h1, h2, h3, -⟩ := V.tab_ok.zero 118 _ rfl
 obtain ⟨-, ⟨i', h4, h5⟩, -⟩ := V.tab_ok.ty 118 _ _ rfl
 obtain ⟨i2, h6, h7⟩ := V.tab_ok.bytes 118 _ rfl
 rw [h1] at h4 h6
 cases h4; cases h6
 exact ⟨i, z, h1, h2, h5, h7, by rw [h3]; rfl⟩
def tabF : Tab := { tab with eff := fun f => f == 116 || f == 100 }
namespace F
theorem tab_ok : tabF.Ok Tryz.prog := ⟨V.tab_ok.ty, V.tab_ok.zero, V.tab_ok.elem, V.tab_ok.off, V.tab_ok.bool, V.tab_ok.fields, V.tab_ok.bytes, V.tab_ok.nilk, V.tab_ok.int, V.tab_ok.map, V.tab_ok.str, V.tab_ok.one, V.tab_ok.seq⟩
theorem tabs : tabF.ty = tab.ty ∧ tabF.zero = tab.zero ∧ tabF.elem = tab.elem ∧ tabF.off = tab.off ∧ tabF.bool = tab.bool ∧ tabF.fields = tab.fields ∧ tabF.bytes = tab.bytes ∧ tabF.nilk = tab.nilk ∧ tabF.int = tab.int ∧ tabF.map = tab.map ∧ tabF.str = tab.str ∧ tabF.one = tab.one ∧ tabF.seq = tab.seq := ⟨rfl, rfl, rfl, rfl, rfl, rfl, rfl, rfl, rfl, rfl, rfl, rfl, rfl⟩
theorem cloneE (l : List Expr) (hl : l.length ≤ 1048576) (M : Mem) (id : Nat) (hid : M id = none) : CallE Tryz.prog 116 [.c (.sl (l.map cExpr))] M [] (.own id) (upd M id (some (.mrow 29 4 (l.map cExpr)))) :=
 clone_mut Tryz.laysClone116 exprInfo (by decide) (enters_of Tryz.func116 (by kernel_rfl) rfl) (l.map cExpr) (fun x hx => by obtain ⟨y, -, rfl⟩ := List.mem_map.1 hx; cases y; rfl) (by rw [List.length_map]; omega) M id hid
set_option maxHeartbeats 2000000 in
theorem exprs_ok : ∀ (d : Nat) (l : List Expr), dExprs l ≤ d → l.length ≤ 1048576 → SmallEs 1048576 l → ∀ m, COk Tryz.prog 101 [.c (.sl (l.map cExpr))] m (.c (.sl (l.map cExpr))) := by
 intro d
 induction d using Nat.strongRecOn with
 | ind d ih =>
 intro l hd hlen hS m
 refine (ok_pure tab_ok Tryz.func101 (by kernel_rfl) rfl rfl (by rfl) (by rfl) (by rfl) (fun R hkeep => ?_) m)
 repeat (first | refine W.seq ?_ | refine W.block ?_ | refine W.skip ?_ | refine W.exit ?_ | refine W.g ?_ zm31q12)
 refine W.regionK tab_ok 0 (by decide) ?_
 refine runk_split 1 zm31q12 ?_
 refine runk_call0 rfl rfl rfl rfl rfl rfl (by simp) cw1 (cloneE l hlen _ 6 rfl) ?_
 refine runk_exec zm31q12 ?_
 repeat (first | refine W.seq ?_ | refine W.block ?_ | refine W.skip ?_ | refine W.exit ?_ | refine W.g ?_ zm31q12)
 refine W.loop (ι := Nat) (fun k => ⟨upd (upd (upd (upd (fun _ => .top) 0 (.own 6)) 7 (.own 6)) 8 (.c (.int .i64 l.length))) 9 (.c (.int .i64 k)), upd Mem.nil 6 (some (.mrow 29 4 (l.map cExpr)))⟩)
  (fun k => k ≤ l.length) (fun k => l.length - k) 0 ?start (Nat.zero_le _) ?round
 case start =>
  exact le_D (kept_not hkeep)
 case round =>
  intro k hk
  repeat (first | refine W.seq ?_ | refine W.block ?_ | refine W.skip ?_ | refine W.exit ?_ | refine W.g ?_ zm31q12)
  refine W.cond rfl ?_ ?_
  ·intro hlt
   simp only [decide_eq_true_eq, Int.ofNat_lt] at hlt
   obtain ⟨x, hx⟩ : ∃ x, l[k]? = some x := ⟨_, List.getElem?_eq_getElem hlt⟩
   have hxm := List.mem_of_getElem? hx
   obtain ⟨kd, nn, nm, kids⟩ := x
   have hsx := hS.mem hxm
   simp only [SmallE] at hsx
   have hdx : dExpr ⟨kd, nn, nm, kids⟩ ≤ dExprs l := dExprs_mem hxm
   simp only [dExpr] at hdx
   repeat (first | refine W.seq ?_ | refine W.block ?_ | refine W.skip ?_ | refine W.exit ?_ | refine W.g ?_ zm31q3)
   refine W.regionK tab_ok 0 (by decide) ?_
   refine runk_split 4 zm31q3 ?_
   refine runk_call rfl rfl rfl rfl rfl (by simp) cw1 (ih (dExprs kids) (by omega) kids (Nat.le_refl _) hsx.1 hsx.2 _) ?_
   refine runk_exec zm31q3 ?_
   repeat (first | refine W.seq ?_ | refine W.block ?_ | refine W.skip ?_ | refine W.exit ?_ | refine W.g ?_ zm31q12)
   refine ⟨k + 1, hlt, by omega, ?_⟩
   have hset : (l.map cExpr).set k [.int .i64 kd, .int .i64 nn, .str nm, .sl (kids.map cExpr)] = l.map cExpr := set_self (by rw [at_map hx]; simp only [cExpr, cExprs_map])
   refine le_L ?sle ?mle (kept_not hkeep)
   case mle => repeat (first | exact mle_nil _ | exact mle_refl _ | refine mle_upd ?_ zm31q17)
   case sle => repeat (first | exact sle_top _ | exact sle_refl _ | refine sle_upd ?_ zm31q13)
  ·intro hge
   simp only [decide_eq_false_iff_not, Int.ofNat_lt] at hge
   obtain rfl : k = l.length := by omega
   refine W.freeze 0 6 rfl rfl (nokeep hkeep) ?_
   repeat (first | refine W.seq ?_ | refine W.block ?_ | refine W.skip ?_ | refine W.exit ?_ | refine W.g ?_ zm31q12)
   exact W.ret ⟨.inr rfl, by rfl, (by simp only [Tryz.f101, resA, resOne, toT, fin, exb, Nat.reduceAdd, Nat.reduceLeDiff, Nat.reduceEqDiff, Nat.reduceMul, Int.reduceToNat, reduceIte, Int.reduceLE, Int.reduceNeg, tabs, V.tabs])⟩
theorem cloneS (l : List Stmt) (hl : l.length ≤ 1048576) (M : Mem) (id : Nat) (hid : M id = none) : CallE Tryz.prog 100 [.c (.sl (l.map cStmt))] M [] (.own id) (upd M id (some (.mrow 118 7 (l.map cStmt)))) :=
 clone_mut Tryz.laysClone100 stmtInfo (by decide) (enters_of Tryz.func100 (by kernel_rfl) rfl) (l.map cStmt) (fun x hx => by obtain ⟨y, -, rfl⟩ := List.mem_map.1 hx; cases y; rfl) (by rw [List.length_map]; omega) M id hid
set_option maxHeartbeats 4000000 in
theorem stmts_ok : ∀ (d : Nat) (l : List Stmt), dStmts l ≤ d → l.length ≤ 1048576 → SmallSs 1048576 l → ∀ m, COk Tryz.prog 75 [.c (.sl (l.map cStmt))] m (.c (.sl (l.map cStmt))) := by
 intro d
 induction d using Nat.strongRecOn with
 | ind d ih =>
 intro l hd hlen hS m
 refine (ok_pure tab_ok Tryz.func75 (by kernel_rfl) rfl rfl (by rfl) (by rfl) (by rfl) (fun R hkeep => ?_) m)
 repeat (first | refine W.seq ?_ | refine W.block ?_ | refine W.skip ?_ | refine W.exit ?_ | refine W.g ?_ zm31q12)
 refine W.regionK tab_ok 0 (by decide) ?_
 refine runk_split 1 zm31q12 ?_
 refine runk_call0 rfl rfl rfl rfl rfl rfl (by simp) cw1 (cloneS l hlen _ 6 rfl) ?_
 refine runk_exec zm31q12 ?_
 repeat (first | refine W.seq ?_ | refine W.block ?_ | refine W.skip ?_ | refine W.exit ?_ | refine W.g ?_ zm31q12)
 refine W.loop (ι := Nat) (fun k => ⟨upd (upd (upd (upd (fun _ => .top) 0 (.own 6)) 7 (.own 6)) 8 (.c (.int .i64 l.length))) 9 (.c (.int .i64 k)), upd Mem.nil 6 (some (.mrow 118 7 (l.map cStmt)))⟩)
  (fun k => k ≤ l.length) (fun k => l.length - k) 0 ?start (Nat.zero_le _) ?round
 case start =>
  exact le_D (kept_not hkeep)
 case round =>
  intro k hk
  repeat (first | refine W.seq ?_ | refine W.block ?_ | refine W.skip ?_ | refine W.exit ?_ | refine W.g ?_ zm31q12)
  refine W.cond rfl ?_ ?_
  ·intro hlt
   simp only [decide_eq_true_eq, Int.ofNat_lt] at hlt
   obtain ⟨x, hx⟩ : ∃ x, l[k]? = some x := ⟨_, List.getElem?_eq_getElem hlt⟩
   have hxm := List.mem_of_getElem? hx
   obtain ⟨kd, nn, ty, nm, es, th, el⟩ := x
   have hsx := hS.mem hxm
   simp only [SmallS] at hsx
   obtain ⟨s1, s2, s3, s4, s5, s6⟩ := hsx
   have hdx : dStmt ⟨kd, nn, ty, nm, es, th, el⟩ ≤ dStmts l := dStmts_mem hxm
   simp only [dStmt] at hdx
   repeat (first | refine W.seq ?_ | refine W.block ?_ | refine W.skip ?_ | refine W.exit ?_ | refine W.g ?_ zm31q2)
   refine W.regionDK tab_ok 0 follows_mixed (by kernel_rfl) (by decide) ?_
   refine runk_split 8 zm31q2 ?_
   refine runk_call rfl rfl rfl rfl rfl (by simp) cw1 (exprs_ok (dExprs es) es (Nat.le_refl _) s1 s2 _) ?_
   refine runk_split 2 zm31q2 ?_
   refine runk_call rfl rfl rfl rfl rfl (by simp) cw1 (ih (dStmts th) (by omega) th (Nat.le_refl _) s3 s4 _) ?_
   refine runk_split 2 zm31q2 ?_
   refine runk_call rfl rfl rfl rfl rfl (by simp) cw1 (ih (dStmts el) (by omega) el (Nat.le_refl _) s5 s6 _) ?_
   have hset : (l.map cStmt).set k [.int .i64 kd, .int .i64 nn, .str ty, .str nm, .sl (es.map cExpr), .sl (th.map cStmt), .sl (el.map cStmt)] = l.map cStmt := set_self (by rw [at_map hx]; simp only [cStmt, cExprs_map, cStmts_map])
   refine runk_exec (by simp only [exb, Nat.reduceAdd, Nat.reduceLeDiff, Nat.reduceEqDiff, Nat.reduceMul, Int.reduceToNat, reduceIte, Int.reduceLE, Int.reduceNeg, tabs, V.tabs, hlt, at_map hx, cStmt, cExprs_map, cStmts_map, hset]; rfl) ?_
   repeat (first | refine W.seq ?_ | refine W.block ?_ | refine W.skip ?_ | refine W.exit ?_ | refine W.g ?_ zm31q12)
   refine ⟨k + 1, hlt, by omega, ?_⟩
   refine le_L ?sle ?mle (kept_not hkeep)
   case mle => repeat (first | exact mle_nil _ | exact mle_refl _ | refine mle_upd ?_ zm31q17)
   case sle => repeat (first | exact sle_top _ | exact sle_refl _ | refine sle_upd ?_ zm31q13)
  ·intro hge
   simp only [decide_eq_false_iff_not, Int.ofNat_lt] at hge
   obtain rfl : k = l.length := by omega
   refine W.freeze 0 6 rfl rfl (nokeep hkeep) ?_
   repeat (first | refine W.seq ?_ | refine W.block ?_ | refine W.skip ?_ | refine W.exit ?_ | refine W.g ?_ zm31q12)
   exact W.ret ⟨.inr rfl, by rfl, (by simp only [Tryz.f75, resA, resOne, toT, fin, exb, Nat.reduceAdd, Nat.reduceLeDiff, Nat.reduceEqDiff, Nat.reduceMul, Int.reduceToNat, reduceIte, Int.reduceLE, Int.reduceNeg, tabs, V.tabs])⟩
end F
end V
end Go.Proofs.YthhpcjoaogmhbaaGreatDoor
end
section
namespace Go.Proofs.YthhpcjoaogmhbaaGreatDoor
namespace V
open Go.RowKit
section
variable {P : Go.Program}
theorem W.nilBox {R : Ref} {n : Nat} {ds : List Deferred} {st : St} {c : Code} {K : Exit → St → Prop} (j k : Nat) {tyb : TypeId} {cells : List A} (hj : st.m j = some (.box tyb cells)) (hk : cells[k]? = some .nil)
 (h : W P R n ds ⟨st.s, upd st.m j (some (.box tyb (cells.set k (.c (.sl [])))))⟩ c K) : W P R n ds st c K := by
 intro a w hr
 refine h a w ?_
 obtain ⟨⟨B, I, hm, hx0, hkp, hs⟩, h2, h3, hnn, h4, h5⟩ := hr
 obtain ⟨b, vs, e1, e2, e3, e4⟩ := hm.objs j _ hj
 have liv : ∀ i, (st.m i).isSome = true → (upd st.m j (some (.box tyb (cells.set k (.c (.sl []))))) i).isSome = true := fun i hi => by
  unfold upd; split
  ·rfl
  ·exact hi
 have hm2 := hm.turn (o' := .box tyb (cells.set k (.c (.sl [])))) hj ⟨0, e1⟩ (fun q hq => by obtain ⟨off, hq⟩ := hq; rw [e1] at hq; cases hq; rfl) e4 rfl rfl rfl rfl (fun _ _ => rfl) (fun i hi => by
  obtain ⟨a', ha', hi'⟩ := List.mem_flatMap.1 hi
  rcases List.mem_or_eq_of_mem_set ha' with ha' | rfl
  ·exact hm.live j _ hj i (List.mem_flatMap.2 ⟨a', ha', hi'⟩)
  ·simp [A.ids] at hi') (fun _ => by
  refine ⟨b, vs, e1, e2, ?_, e4⟩
  have hl := e3.length
  refine RVs.of (by rw [List.length_set]; exact hl) fun q a' v' ha' hv' => ?_
  rw [List.getElem?_set] at ha'
  split at ha'
  ·rename_i hq
   subst hq
   split at ha'
   ·cases ha'
    obtain ⟨v2, q1, q2, q3⟩ := e3.at k _ hk
    rw [hv'] at q1; cases q1
    have hv : v' = .slice none 0 0 := q2
    subst hv
    exact ⟨RC.sl (e := 0) (fun _ _ => undef) rfl (Nat.le_refl _) (Nat.zero_le _) (fun x hx => by simp at hx) (fun i x hx => by simp at hx) (fun i j x c hx _ => by simp at hx), q3⟩
   ·cases ha'
  ·obtain ⟨v2, q1, q2, q3⟩ := e3.at q _ ha'
   rw [hv'] at q1; cases q1
   exact ⟨q2, q3⟩)
 exact ⟨⟨B, I, hm2.1, hx0, hkp, fun t => hs t⟩, fun t i hi => liv i (h2 t i hi), h3, hnn, h4, fun i hi => liv i (h5 i hi)⟩
end
def slotsAt (cs : List Class) (x : Nat × Nat) : List Slot := match cs[x.2]? with | some k => k.fields | none => []
def slotsUp (cs : List Class) (l : List (Nat × Nat)) : List Slot := l.reverse.flatMap (slotsAt cs)
theorem slotsUp_len {cs : List Class} (h : SmallC cs) : ∀ l : List (Nat × Nat), (slotsUp cs l).length ≤ l.length * 1048576
 | [] => by simp [slotsUp]
 | x :: l => by
   have ih := slotsUp_len h l
   unfold slotsUp at *
   rw [List.reverse_cons, List.flatMap_append, List.length_append, List.length_cons]
   have : ([x].flatMap (slotsAt cs)).length ≤ 1048576 := by
    simp only [List.flatMap_cons, List.flatMap_nil, List.append_nil]
    unfold slotsAt
    split
    ·rename_i k hk; exact (h k (List.mem_of_getElem? hk)).1
    ·simp
   rw [Nat.add_mul]
   omega
def fieldsR (E : Int) (cs : List Class) (n : ByteArray) : List Slot := if E = 0 then slotsUp cs (upX cs (cs.length + 1) 0 n) else []
def memF (cs : List Class) (mn : C) (l : List Slot) : Mem :=
 upd (upd Mem.nil 2 (some (.box 25 [.c (.sl (cs.map cClass)), .c mn]))) 4 (some (.box 26 [.c (.sl (l.map cSlot))]))
def slotF : Nat → A := upd (upd (fun _ => .top) 2 (.ptr 2 0)) 4 (.ptr 4 0)
namespace E
set_option maxRecDepth 100000 in
set_option maxHeartbeats 1000000 in
theorem fieldsP_ok (p : Program) (E : Int) (name : ByteArray) (hS : SmallC p.classes) (hlen : p.classes.length ≤ 1000000000) (h16 : E = 0 → p.classes.length ≤ 16) (hchk : ∀ m, COk Tryz.prog 12 [.agg (cProg p)] m (.c (.int .i64 E))) (m : Mem) :
 COk Tryz.prog 37 [.agg (cProg p), .c (.str name)] m (.c (.sl ((fieldsR E p.classes name).map cSlot))) := by
 obtain ⟨cs, mn'⟩ := p
 dsimp only at hS hlen h16 hchk ⊢
 generalize hmn : C.sl (cStmts mn') = mn
 have hpr : cProg ⟨cs, mn'⟩ = [.sl (cs.map cClass), mn] := by rw [← hmn]; rfl
 rw [hpr] at hchk ⊢
 refine (ok_pureM tab_ok Tryz.func37 (by kernel_rfl) rfl rfl (by rfl) (by rfl) (by rfl) (fun R hkeep => ?_) m)
 repeat (first | refine W.seq ?_ | refine W.block ?_ | refine W.skip ?_ | refine W.exit ?_ | refine W.g ?_ zm31q12)
 refine W.regionK tab_ok 0 (by decide) ?_
 refine runk_split 1 zm31q12 ?_
 refine runk_call rfl rfl rfl rfl rfl (by simp) cw1 (hchk _) ?_
 refine runk_exec zm31q12 ?_
 refine W.cond rfl ?_ ?_
 ·intro h
  have he : E ≠ 0 := by simpa using h
  repeat (first | refine W.seq ?_ | refine W.block ?_ | refine W.skip ?_ | refine W.exit ?_ | refine W.g ?_ zm31q12)
  refine W.ret ⟨.inr rfl, .inl ⟨rfl, ?_⟩⟩
  simp only [Tryz.f37, resA, resOne, toT, fin, exb, Nat.reduceAdd, Nat.reduceLeDiff, Nat.reduceEqDiff, Nat.reduceMul, Int.reduceToNat, reduceIte, Int.reduceLE, Int.reduceNeg, tabs, V.tabs]
  simp [fieldsR, he]
 intro h
 have he : E = 0 := by simpa using h
 subst he
 have h16 := h16 rfl
 repeat (first | refine W.seq ?_ | refine W.block ?_ | refine W.skip ?_ | refine W.exit ?_ | refine W.g ?_ zm31q12)
 refine W.nilBox 4 0 rfl rfl ?_
 repeat (first | refine W.seq ?_ | refine W.block ?_ | refine W.skip ?_ | refine W.exit ?_ | refine W.g ?_ zm31q12)
 refine W.regionK tab_ok 0 (by decide) ?_
 refine runk_split 2 zm31q12 ?_
 refine runk_call0 rfl rfl rfl rfl rfl rfl (by simp) cw2 (up_ok (cs.map cClass) mn name _ 1000 1001 rfl rfl (by decide)) ?_
 refine runk_exec zm31q12 ?_
 repeat (first | refine W.seq ?_ | refine W.block ?_ | refine W.skip ?_ | refine W.exit ?_ | refine W.g ?_ zm31q12)
 have hG : ∀ l, GoodM R.keep slotF 1000 1001 1002 1003 (memF cs mn l) := fun l => by
  refine ⟨?_, rfl, rfl, rfl, rfl, ?_, kept_not hkeep⟩
  ·unfold memF
   show MWf _ _
   (repeat (first | exact mwf_nil _ | refine mwf_upd ?_ (by simp [A.ids, O.ids, upd_app])))
  ·show SWf _ _
   unfold memF slotF
   (repeat (first | exact swf_top _ | refine swf_upd ?_ (by simp [A.ids, upd_app])))
 have hul := upX_len cs (cs.length + 1) 0 name
 refine W.rangeUp cs name mn 1000 1001 1002 1003 slotF (fun k => memF cs mn (slotsUp cs ((upX cs (cs.length + 1) 0 name).take k))) (fun _ => True) (by omega) rfl rfl rfl (by decide) rfl rfl (by decide) trivial rfl ?sle ?sn ?m0 (fun k _ => hG _) ?round ?done
 case sle =>
  unfold slotF
  (repeat (first | exact sle_top _ | exact sle_refl _ | refine sle_upd ?_ zm31q18))
 case sn =>
  unfold slotF
  (repeat (first | exact sn_top | refine sn_upd ?_ (by decide)))
 case m0 =>
  refine mle_some ?_
  unfold memF
  (repeat (first | exact mle_nil _ | exact mle_refl _ | refine mle_upd ?_ (by first | rfl | (simp only [upd_app, killM_app, Nat.reduceEqDiff, reduceIte, List.take_zero, slotsUp, List.reverse_nil, List.flatMap_nil, List.map_nil, List.set_cons_zero]; done))))
 case round =>
  intro R' l hk' k j kc x1 x2 xL _ hitem hkc
  have hacc : (slotsUp cs ((upX cs (cs.length + 1) 0 name).take k)).length ≤ 17 * 1048576 := by
   have h1 := slotsUp_len hS ((upX cs (cs.length + 1) 0 name).take k)
   have h2 := List.length_take_le' k (upX cs (cs.length + 1) 0 name)
   have h3 : ((upX cs (cs.length + 1) 0 name).take k).length ≤ 17 := Nat.le_trans h2 (Nat.le_trans hul (Nat.succ_le_succ h16))
   exact Nat.le_trans h1 (Nat.mul_le_mul_right _ h3)
  have hfl := (hS kc (List.mem_of_getElem? hkc)).1
  have hF : [kc.fields, slotsUp cs ((upX cs (cs.length + 1) 0 name).take k)].flatten = slotsUp cs ((upX cs (cs.length + 1) 0 name).take (k + 1)) := by
   rw [List.take_add_one, hitem]
   simp [slotsUp, slotsAt, hkc]
  generalize slotsUp cs ((upX cs (cs.length + 1) 0 name).take k) = acc at hacc hF ⊢
  repeat (first | refine WI.seq ?_ | refine WI.block ?_ | refine WI.skip ?_ | refine WI.exit ?_ | refine WI.region tab_ok 0 (by decide) (by kernel_rfl) (exec_run zm31q5) ?_)
  refine ⟨rfl, fun xL' => ?_⟩
  repeat (first | refine WI.seq ?_ | refine WI.block ?_ | refine WI.skip ?_ | refine WI.exit ?_ | refine WI.region tab_ok 0 (by decide) (by kernel_rfl) (exec_run zm31q5) ?_)
  refine WI.regionK tab_ok 0 (by decide) (by kernel_rfl) ?_
  refine runk_split 4 zm31q5 ?_
  refine runk_call rfl rfl rfl rfl rfl (by simp) cw1 (concat_ok [kc.fields, acc] (by simp) (by simp only [List.flatten_cons, List.flatten_nil, List.append_nil, List.length_append]; omega) _) ?_
  rw [hF]
  refine runk_exec zm31q7 ?_
  repeat (first | refine WI.seq ?_ | refine WI.block ?_ | refine WI.skip ?_ | refine WI.exit ?_ | refine WI.region tab_ok 0 (by decide) (by kernel_rfl) (exec_run zm31q7) ?_)
  refine ⟨trivial, fun j => j, Le.toT ?_⟩
  simp only [fullM, memF]
  refine le_mk ?sle ?mle ?swf ?mwf (fun j hj => fullM_keep (hG _) hj) (by rfl)
  case swf => repeat (first | exact swf_top _ | refine swf_upd ?_ (by simp [A.ids, upd_app, fullM, memF]))
  case mwf => repeat (first | exact mwf_nil _ | refine mwf_upd ?_ (by simp [A.ids, O.ids, upd_app, fullM, memF]))
  case mle => repeat (first | exact mle_nil _ | exact mle_refl _ | refine mle_upd ?_ (by first | rfl | (simp only [upd_app, killM_app, O.kill, A.kill, Nat.reduceEqDiff, reduceIte, Option.map_some, Option.map_none, List.map_cons, List.map_nil, fullM, memF]; done)))
  case sle => repeat (first | exact sle_top _ | exact sle_refl _ | refine sle_upd ?_ (by first | rfl | (simp only [upd_app, killS_app, A.kill, entry_zero, entry_succ, Nat.reduceEqDiff, reduceIte, fullM, memF]; done)))
 case done =>
  intro _ b
  rw [List.take_length]
  repeat (first | refine W.seq ?_ | refine W.block ?_ | refine W.skip ?_ | refine W.exit ?_ | refine W.g ?_ (by simp only [exb, Nat.reduceAdd, Nat.reduceLeDiff, Nat.reduceEqDiff, Nat.reduceMul, Int.reduceToNat, reduceIte, Int.reduceLE, Int.reduceNeg, tabs, V.tabs, doneS, doneM, DID, memF, slotF]; rfl))
  refine W.ret ⟨.inr rfl, .inr ⟨b, 1002, rfl, rfl, rfl, ?_⟩⟩
  simp only [Tryz.f37, resA, resOne, toT, fin, doneS, doneM, DID, exb, Nat.reduceAdd, Nat.reduceLeDiff, Nat.reduceEqDiff, Nat.reduceMul, Int.reduceToNat, reduceIte, Int.reduceLE, Int.reduceNeg, tabs, V.tabs, memF]
  simp [fieldsR]
end E
end V
end Go.Proofs.YthhpcjoaogmhbaaGreatDoor
end
section
namespace Go.Proofs.YthhpcjoaogmhbaaGreatDoor
namespace V
open Go.RowKit
def Runs (P : Go.Program) (T : Tab) (kp : Nat → Prop) (base : Nat) (ops : Array Oper) (K : St → Prop) : Nat → Array Bool → St → Prop
 | 0, listed, st => Region.ready .any ops listed = [] ∧ K st
 | f + 1, listed, st => (Region.ready .any ops listed = [] → K st) ∧ ∀ i ∈ Region.ready .any ops listed, ∀ o, ops[i]? = some o → ∃ st1, HS P T kp base ops o st st1 ∧ Runs P T kp base ops K f (listed.setIfInBounds i true) st1
section
variable {P : Go.Program} {T : Tab} (hT : T.Ok P) {R : Ref} {w : World} {n base : Nat} {ds : List Deferred} {ops : Array Oper}
include hT in
theorem runs_snd (hd : ∀ o ∈ ops, ∀ d, o.dst = some d → d < n) {K : St → Prop} {Q : Exit → Act → World → Prop} (hQ : ∀ st a w, K st → SR R n ds st a w → Q .normal a w) :
 ∀ (fuel : Nat) (listed : Array Bool) (st : St) (a : Act) (w : World), Runs P T R.keep base ops K fuel listed st → SR R n ds st a w → wpAny P .any ops Q fuel listed a w := by
 intro fuel
 induction fuel with
 | zero =>
   intro listed st a w h hr
   exact ⟨h.1, hQ _ _ _ h.2 hr⟩
 | succ fuel ih =>
   intro listed st a w h hr
   obtain ⟨h0, h1⟩ := h
   constructor
   ·intro hnil
    exact hQ _ _ _ (h0 hnil) hr
   ·intro i hi
    obtain ⟨-, oi, h2, -⟩ := mem_ready.1 hi
    obtain ⟨st1, h4, h5⟩ := h1 i hi oi h2
    unfold wpOp
    rw [h2]
    have hgo := h4.snd hT hr (hd oi (Array.mem_of_getElem? h2)) (K := wpAny P .any ops Q fuel (listed.setIfInBounds i true)) (Q := Q) (fun a' w' hr' => ih _ _ _ _ h5 hr')
    dsimp only
    split
    ·rename_i hw; rw [if_pos hw] at hgo; exact .inl hgo
    ·rename_i hw; rw [if_neg hw] at hgo; exact hgo
end
section
variable {P : Go.Program} {T : Tab} {kp : Nat → Prop} {base f : Nat} {ops : Array Oper} {K : St → Prop} {listed : Array Bool} {st st1 st2 : St}
theorem runs_end (hr : Region.ready .any ops listed = []) (hk : K st) : Runs P T kp base ops K f listed st := by
 cases f with
 | zero => exact ⟨hr, hk⟩
 | succ f => exact ⟨fun _ => hk, fun i hi => by rw [hr] at hi; cases hi⟩
theorem run_one {o : Oper} (h : exec T base ops [o] st = some st1) : HS P T kp base ops o st st1 := by
 have := exec_run (P := P) (kp := kp) h
 cases this with
 | cons h t => cases t; exact h
theorem runs_one {i : Nat} {o : Oper} (hr : Region.ready .any ops listed = [i]) (ho : ops[i]? = some o) (h : ∃ st1, exec T base ops [o] st = some st1 ∧ Runs P T kp base ops K f (listed.setIfInBounds i true) st1) : Runs P T kp base ops K (f + 1) listed st :=
 ⟨(fun e => absurd (hr.symm.trans e) (by simp)), fun k hk' o' ho' => by
   rw [hr] at hk'
   obtain rfl : k = i := by simpa using hk'
   rw [ho] at ho'
   cases ho'
   exact let ⟨st1, h1, h2⟩ := h; ⟨st1, run_one h1, h2⟩⟩
theorem runs_two {i j : Nat} {o p : Oper} (hr : Region.ready .any ops listed = [i, j]) (ho : ops[i]? = some o) (hp : ops[j]? = some p) (h : ∃ st1, exec T base ops [o] st = some st1 ∧ Runs P T kp base ops K f (listed.setIfInBounds i true) st1)
 (h' : ∃ st1, exec T base ops [p] st = some st1 ∧ Runs P T kp base ops K f (listed.setIfInBounds j true) st1) : Runs P T kp base ops K (f + 1) listed st :=
 ⟨(fun e => absurd (hr.symm.trans e) (by simp)), fun k hm o' ho' => by
   rw [hr] at hm
   rcases List.mem_cons.1 hm with rfl | hm
   ·rw [ho] at ho'
    cases ho'
    exact let ⟨st1, h1, h2⟩ := h; ⟨st1, run_one h1, h2⟩
   ·obtain rfl : k = j := by simpa using hm
    rw [hp] at ho'
    cases ho'
    exact let ⟨st1, h1, h2⟩ := h'; ⟨st1, run_one h1, h2⟩⟩
end
section
variable {l n' : Nat} {P : Go.Program} {T : Tab} {R : Ref} {n : Nat} {ds : List Deferred} {st : St} {K : Exit → St → Prop}
theorem WI.regionT (hT : T.Ok P) (base : Nat) {id : Nat} {ops : Array Oper} (hm : P.follows .mixedOrders = true) (hd : dstOk n ops = true) (hnd : noDefer ops = true) (h : Runs P T R.keep base ops (K .normal) ops.size (Array.replicate ops.size false) st) : WI l n' P R n ds st (.region id ops true) K := fun a w hr => by
 refine wpIn_mono (Q := fun e a w => e = .normal ∧ ∃ st', K .normal st' ∧ SR R n ds st' a w) (region_round (fun ⟨_, _, h, _⟩ => by cases h) hm hnd (runs_snd hT (dstOk_spec hd) (fun st' a w hk hr' => ⟨rfl, st', hk, hr'⟩) _ _ st a _ h ?_)) fun e a w h => h.1 ▸ h.2
 obtain ⟨⟨B, I, hmr, hx0, hkp, hs⟩, h2, h3, hnn, h4, h5⟩ := hr
 have hE : Ext w w.drew I I := ⟨fun _ _ k => k, fun _ _ _ => rfl⟩
 exact ⟨⟨B, I, hmr.call (Below.refl _ _).drew, hx0.trans hE, hkp, fun t => (hs t).mono hE fun _ _ => rfl⟩, h2, h3, hnn, h4, h5⟩
theorem W.regionT (hT : T.Ok P) (base : Nat) {id : Nat} {ops : Array Oper} (hm : P.follows .mixedOrders = true) (hd : dstOk n ops = true) (h : Runs P T R.keep base ops (K .normal) ops.size (Array.replicate ops.size false) st) : W P R n ds st (.region id ops true) K := fun a w hr => by
 refine wp_region_any hm (runs_snd hT (dstOk_spec hd) (fun st' a w hk hr' => ⟨st', hk, hr'⟩) _ _ st a _ h ?_)
 obtain ⟨⟨B, I, hmr, hx0, hkp, hs⟩, h2, h3, hnn, h4, h5⟩ := hr
 have hE : Ext w w.drew I I := ⟨fun _ _ k => k, fun _ _ _ => rfl⟩
 exact ⟨⟨B, I, hmr.call (Below.refl _ _).drew, hx0.trans hE, hkp, fun t => (hs t).mono hE fun _ _ => rfl⟩, h2, h3, hnn, h4, h5⟩
end
end V
end Go.Proofs.YthhpcjoaogmhbaaGreatDoor
end
section
namespace Go.Proofs.YthhpcjoaogmhbaaGreatDoor
namespace V
open Go.RowKit
theorem clonePar (l : List Slot) (hl : l.length ≤ 1048576) (m : Mem) : COk Tryz.prog 49 [.c (.sl (l.map cSlot))] m (.c (.sl (l.map cSlot))) :=
 clone_ok Tryz.laysClone49 slotInfo (by decide) (enters_of Tryz.func49 (by kernel_rfl) rfl) (l.map cSlot) (fun x hx => by obtain ⟨y, -, rfl⟩ := List.mem_map.1 hx; rfl) (by rw [List.length_map]; omega) m
def methAt (cs : List Class) (n : ByteArray) (x : Nat × Nat) : Option (Method × ByteArray) := match cs[x.2]? with | some k => (k.methods.find? (methIs n)).map (·, k.name) | none => none
def methUp (cs : List Class) (n : ByteArray) (l : List (Nat × Nat)) : Option (Method × ByteArray) := l.findSome? (methAt cs n)
def methodR (E : Int) (cs : List Class) (cn n : ByteArray) : Option (Method × ByteArray) := if E = 0 then methUp cs n (upX cs (cs.length + 1) 0 cn) else none
def SmallB (cs : List Class) : Prop := ∀ c ∈ cs, ∀ m ∈ c.methods, m.body.length ≤ 1048576 ∧ SmallSs 1048576 m.body
theorem find_at {α : Type} {f : α → Bool} {l : List α} {k : Nat} {x : α} (h0 : (l.take k).find? f = none) (hx : l[k]? = some x) (hr : f x = true) : l.find? f = some x := by
 obtain ⟨h1, h2⟩ := List.getElem?_eq_some_iff.1 hx
 have e : l = l.take k ++ x :: l.drop (k + 1) := by rw [← h2, ← List.drop_eq_getElem_cons h1, List.take_append_drop]
 rw [e, List.find?_append, h0]
 simp [hr]
theorem findSome_at {α β : Type} {f : α → Option β} {l : List α} {k : Nat} {x : α} {r : β} (h0 : (l.take k).findSome? f = none) (hx : l[k]? = some x) (hr : f x = some r) : l.findSome? f = some r := by
 obtain ⟨h1, h2⟩ := List.getElem?_eq_some_iff.1 hx
 have e : l = l.take k ++ x :: l.drop (k + 1) := by rw [← h2, ← List.drop_eq_getElem_cons h1, List.take_append_drop]
 rw [e, List.findSome?_append, h0]
 simp [hr]
def memM (cs : List Class) (mn : C) (n : ByteArray) (c6 : List C) (nm : ByteArray) (b : Bool) : Mem :=
 upd (upd (upd (upd (upd Mem.nil 3 (some (.box 25 [.c (.sl (cs.map cClass)), .c mn]))) 5 (some (.box 9 [.c (.str n)]))) 6 (some (.box 44 (c6.map A.c)))) 7 (some (.box 9 [.c (.str nm)]))) 8 (some (.box 4 [.c (.bool b)]))
def slotM : Nat → A := upd (upd (upd (upd (upd (fun _ => .top) 3 (.ptr 3 0)) 5 (.ptr 5 0)) 6 (.ptr 6 0)) 7 (.ptr 7 0)) 8 (.ptr 8 0)
set_option maxRecDepth 100000 in
set_option maxHeartbeats 4000000 in
theorem methodP_ok (p : Program) (E : Int) (cn n : ByteArray) (hS : SmallC p.classes) (hB : SmallB p.classes) (hlen : p.classes.length ≤ 1000000000) (hchk : ∀ m, COk Tryz.prog 12 [.agg (cProg p)] m (.c (.int .i64 E))) (m : Mem) :
 COk Tryz.prog 38 [.agg (cProg p), .c (.str cn), .c (.str n)] m (.tup (methodC (methodR E p.classes cn n))) := by
 obtain ⟨cs, mn'⟩ := p
 dsimp only at hS hB hlen hchk ⊢
 generalize hmn : C.sl (cStmts mn') = mn
 have hpr : cProg ⟨cs, mn'⟩ = [.sl (cs.map cClass), mn] := by rw [← hmn]; rfl
 rw [hpr] at hchk ⊢
 refine (ok_pureM tab_ok Tryz.func38 (by kernel_rfl) rfl rfl (by rfl) (by rfl) (by rfl) (fun R hkeep => ?_) m)
 refine W.go ?_
 refine W.regionK tab_ok 0 (by decide) ?_
 refine xs0 1 ?_
 refine runk_call rfl rfl rfl rfl rfl (by simp) cw1 (hchk _) ?_
 refine xe0 ?_
 refine W.cond rfl ?_ ?_
 ·intro h
  have he : E ≠ 0 := by simpa using h
  refine W.go ?_
  refine W.ret ⟨.inr rfl, .inl ⟨rfl, ?_⟩⟩
  simp only [Tryz.f38, resA, resOne, toT, fin, exb, Nat.reduceAdd, Nat.reduceLeDiff, Nat.reduceEqDiff, Nat.reduceMul, Int.reduceToNat, reduceIte, Int.reduceLE, Int.reduceNeg]
  simp [methodR, he, methodC, cMethod, zeroMethod, cStmts]
 intro h
 have he : E = 0 := by simpa using h
 subst he
 refine W.go ?_
 refine W.nilBox 6 2 rfl rfl ?_
 refine W.nilBox 6 3 rfl rfl ?_
 refine W.regionK tab_ok 0 (by decide) ?_
 refine xs0 2 ?_
 refine runk_call0 rfl rfl rfl rfl rfl rfl (by simp) cw2 (up_ok (cs.map cClass) mn cn _ 1000 1001 rfl rfl (by decide)) ?_
 refine xe0 ?_
 refine W.go ?_
 have hG : ∀ c6 nm b, GoodM R.keep slotM 1000 1001 1002 1003 (memM cs mn n c6 nm b) := fun c6 nm b => by
  refine ⟨?_, rfl, rfl, rfl, rfl, ?_, kept_not hkeep⟩
  ·unfold memM
   show MWf _ _
   (repeat (first | exact mwf_nil _ | refine mwf_upd ?_ (by simp [A.ids, O.ids, upd_app])))
  ·show SWf _ _
   unfold memM slotM
   (repeat (first | exact swf_top _ | refine swf_upd ?_ (by simp [A.ids, upd_app])))
 refine W.rangeUp cs cn mn 1000 1001 1002 1003 slotM (fun k => memM cs mn n (cMethod zeroMethod) ⟨#[]⟩ false) (fun k => methUp cs n ((upX cs (cs.length + 1) 0 cn).take k) = none) (by omega) rfl rfl rfl (by decide) rfl rfl (by decide) rfl rfl ?sle ?sn ?m0 (fun k _ => hG _ _ _) ?round ?done
 case sle =>
  unfold slotM
  (repeat (first | exact sle_top _ | exact sle_refl _ | refine sle_upd ?_ zm31q18))
 case sn =>
  unfold slotM
  (repeat (first | exact sn_top | refine sn_upd ?_ (by decide)))
 case m0 =>
  refine mle_some ?_
  unfold memM
  (repeat (first | exact mle_nil _ | exact mle_refl _ | refine mle_upd ?_ (by first | rfl | (simp only [upd_app, killM_app, Nat.reduceEqDiff, reduceIte, cMethod, zeroMethod, cStmts, List.map_nil, List.map_cons, List.set_cons_zero, List.set_cons_succ]; done))))
 case round =>
  intro R' l hk' k j kc x1 x2 xL hInv hitem hkc
  repeat (first | refine WI.seq ?_ | refine WI.block ?_ | refine WI.skip ?_ | refine WI.exit ?_ | refine WI.region tab_ok 0 (by decide) (by kernel_rfl) (exec_run zm31q9) ?_)
  refine ⟨rfl, fun xL' => ?_⟩
  repeat (first | refine WI.seq ?_ | refine WI.block ?_ | refine WI.skip ?_ | refine WI.exit ?_ | refine WI.region tab_ok 0 (by decide) (by kernel_rfl) (exec_run zm31q9) ?_)
  have hkeepL : ∀ j, R'.keep j → (upd (fullM (memM cs mn n (cMethod zeroMethod) ⟨#[]⟩ false) 1000 1001 1002 1003 x1 x2 xL') 10 (some (.box 42 ((cClass kc).map A.c))) j).isSome = true := fun j hj => by
   rw [hk'] at hj
   unfold upd
   split
   ·rfl
   ·exact fullM_keep (hG _ _ _) hj
  refine WI.loop (ι := Nat) (fun q => ⟨upd (upd (upd (upd (upd (upd (upd (upd (upd (fun _ => .top) 3 (.ptr 3 0)) 5 (.ptr 5 0)) 6 (.ptr 6 0)) 7 (.ptr 7 0)) 8 (.ptr 8 0)) 10 (.ptr 10 0)) 23 (.c (.sl (kc.methods.map cMethod)))) 24 (.c (.int .i64 kc.methods.length))) 25 (.c (.int .i64 q)),
   upd (fullM (memM cs mn n (cMethod zeroMethod) ⟨#[]⟩ false) 1000 1001 1002 1003 x1 x2 xL') 10 (some (.box 42 ((cClass kc).map A.c)))⟩) (fun q => q ≤ kc.methods.length ∧ (kc.methods.take q).find? (methIs n) = none) (fun q => kc.methods.length - q) 0 ?start ⟨Nat.zero_le _, rfl⟩ ?round
  case start =>
   simp only [fullM, memM]
   refine le_mk ?sle ?mle ?swf ?mwf hkeepL (by rfl)
   case swf => repeat (first | exact swf_top _ | refine swf_upd ?_ (by simp [A.ids, upd_app, cClass, fullM, memM]))
   case mwf => repeat (first | exact mwf_nil _ | refine mwf_upd ?_ (by simp [A.ids, O.ids, upd_app, cClass, fullM, memM]))
   case mle => repeat (first | exact mle_nil _ | exact mle_refl _ | refine mle_upd ?_ (by first | rfl | (simp only [upd_app, killM_app, O.kill, A.kill, Nat.reduceEqDiff, reduceIte, Option.map_some, Option.map_none, List.map_cons, List.map_nil, cClass, fullM, memM]; done)))
   case sle => repeat (first | exact sle_top _ | exact sle_refl _ | refine sle_upd ?_ (by first | rfl | (simp only [upd_app, killS_app, A.kill, entry_zero, entry_succ, Nat.reduceEqDiff, reduceIte, cClass, fullM, memM]; done)))
  case round =>
   rintro q ⟨hq, hno⟩
   repeat (first | refine WI.seq ?_ | refine WI.block ?_ | refine WI.skip ?_ | refine WI.exit ?_ | refine WI.region tab_ok 0 (by decide) (by kernel_rfl) (exec_run zm31q9) ?_)
   refine WI.cond rfl ?_ ?_
   ·intro hlt
    simp only [decide_eq_true_eq, Int.ofNat_lt] at hlt
    obtain ⟨y, hy⟩ : ∃ y, kc.methods[q]? = some y := ⟨_, List.getElem?_eq_getElem hlt⟩
    repeat (first | refine WI.seq ?_ | refine WI.block ?_ | refine WI.skip ?_ | refine WI.exit ?_ | refine WI.region tab_ok 0 (by decide) (by kernel_rfl) (exec_run (by simp only [exb, Nat.reduceAdd, Nat.reduceLeDiff, Nat.reduceEqDiff, Nat.reduceMul, Int.reduceToNat, reduceIte, Int.reduceLE, Int.reduceNeg, fullM, memM, slotM, cClass, at_map hy, cMethod]; rfl)) ?_)
    refine WI.cond rfl ?_ ?_
    ·intro heq
     have hyb := hB kc (List.mem_of_getElem? hkc) y (List.mem_of_getElem? hy)
     have hyp := (hS kc (List.mem_of_getElem? hkc)).2.2 y (List.mem_of_getElem? hy)
     have hfm : kc.methods.find? (methIs n) = some y := find_at hno hy heq
     have hres : methodR 0 cs cn n = some (y, kc.name) := by
      unfold methodR methUp
      rw [if_pos rfl]
      exact findSome_at hInv hitem (by simp [methAt, hkc, hfm])
     repeat (first | refine WI.seq ?_ | refine WI.block ?_ | refine WI.skip ?_ | refine WI.exit ?_ | refine WI.region tab_ok 0 (by decide) (by kernel_rfl) (exec_run (by simp only [exb, Nat.reduceAdd, Nat.reduceLeDiff, Nat.reduceEqDiff, Nat.reduceMul, Int.reduceToNat, reduceIte, Int.reduceLE, Int.reduceNeg, fullM, memM, slotM, cClass, cMethod]; rfl)) ?_)
     refine WI.regionK tab_ok 0 (by decide) (by kernel_rfl) ?_
     refine runk_split 2 zm31q1 ?_
     refine runk_call rfl rfl rfl rfl rfl (by simp) cw1 (clonePar y.params hyp _) ?_
     refine runk_exec zm31q1 ?_
     repeat (first | refine WI.seq ?_ | refine WI.block ?_ | refine WI.skip ?_ | refine WI.exit ?_ | refine WI.region tab_ok 0 (by decide) (by kernel_rfl) (exec_run zm31q4) ?_)
     refine WI.regionK tab_ok 0 (by decide) (by kernel_rfl) ?_
     refine runk_split 2 zm31q4 ?_
     refine runk_call rfl rfl rfl rfl rfl (by simp) cw1 (F.stmts_ok (dStmts y.body) y.body (Nat.le_refl _) hyb.1 hyb.2 _) ?_
     refine runk_exec zm31q4 ?_
     refine WI.seq ?_
     refine WI.regionT tab_ok 0 follows_mixed (by decide) (by kernel_rfl) ?_
     repeat' (first | refine Exists.intro _ (And.intro zm31q4 ?_) | refine runs_two (i := 0) (j := 1) (by decide +kernel) rfl rfl ?_ ?_ | refine runs_two (i := 1) (j := 3) (by decide +kernel) rfl rfl ?_ ?_ | refine runs_two (i := 0) (j := 2) (by decide +kernel) rfl rfl ?_ ?_ | refine runs_two (i := 2) (j := 3) (by decide +kernel) rfl rfl ?_ ?_ | refine runs_one (i := 4) (by decide +kernel) rfl ?_ | refine runs_one (i := 5) (by decide +kernel) rfl ?_ | refine runs_one (i := 0) (by decide +kernel) rfl ?_ | refine runs_one (i := 1) (by decide +kernel) rfl ?_ | refine runs_one (i := 2) (by decide +kernel) rfl ?_ | refine runs_one (i := 3) (by decide +kernel) rfl ?_ | refine runs_end (by decide +kernel) ?_)
     all_goals
      repeat (first | refine WI.seq ?_ | refine WI.block ?_ | refine WI.skip ?_ | refine WI.exit ?_ | refine WI.region tab_ok 0 (by decide) (by kernel_rfl) (exec_run zm31q4) ?_)
      refine WI.ret ⟨fun j => j, memM cs mn n (cMethod y) kc.name true, Le.toT ?_, hG _ _ _, fun b => ⟨.inr rfl, .inr ⟨b, 1002, rfl, rfl, rfl, ?_⟩⟩⟩
      ·simp only [fullM, memM]
       refine le_mk ?sle ?mle ?swf ?mwf (fun j hj => fullM_keep (hG _ _ _) hj) (by rfl)
       case swf => repeat (first | exact swf_top _ | refine swf_upd ?_ (by simp [A.ids, upd_app, cClass, fullM, memM, cMethod, cStmts_map]))
       case mwf => repeat (first | exact mwf_nil _ | refine mwf_upd ?_ (by simp [A.ids, O.ids, upd_app, cClass, fullM, memM, cMethod, cStmts_map]))
       case mle => repeat (first | exact mle_nil _ | exact mle_refl _ | refine mle_upd ?_ (by first | rfl | (simp only [upd_app, killM_app, O.kill, A.kill, Nat.reduceEqDiff, reduceIte, Option.map_some, Option.map_none, List.map_cons, List.map_nil, cClass, fullM, memM, cMethod, cStmts_map]; done)))
       case sle => repeat (first | exact sle_top _ | exact sle_refl _ | refine sle_upd ?_ (by first | rfl | (simp only [upd_app, killS_app, A.kill, entry_zero, entry_succ, Nat.reduceEqDiff, reduceIte, cClass, fullM, memM, cMethod, cStmts_map]; done)))
      ·simp only [Tryz.f38, resA, resOne, toT, fin, doneS, doneM, DID, exb, Nat.reduceAdd, Nat.reduceLeDiff, Nat.reduceEqDiff, Nat.reduceMul, Int.reduceToNat, reduceIte, Int.reduceLE, Int.reduceNeg, memM, slotM, hres, methodC, cMethod]
    ·intro hneq
     repeat (first | refine WI.seq ?_ | refine WI.block ?_ | refine WI.skip ?_ | refine WI.exit ?_ | refine WI.region tab_ok 0 (by decide) (by kernel_rfl) (exec_run zm31q9) ?_)
     refine ⟨q + 1, ⟨hlt, ?_⟩, by omega, ?_⟩
     ·rw [List.take_add_one, hy, List.find?_append, hno]
      simpa [methIs] using hneq
     simp only [fullM, memM]
     refine le_mk ?sle ?mle ?swf ?mwf hkeepL (by rfl)
     case swf => repeat (first | exact swf_top _ | refine swf_upd ?_ (by simp [A.ids, upd_app, cClass, fullM, memM, wrap_succ (show q + 1 < 9223372036854775808 by have := (hS kc (List.mem_of_getElem? hkc)).2.1; omega)]))
     case mwf => repeat (first | exact mwf_nil _ | refine mwf_upd ?_ (by simp [A.ids, O.ids, upd_app, cClass, fullM, memM, wrap_succ (show q + 1 < 9223372036854775808 by have := (hS kc (List.mem_of_getElem? hkc)).2.1; omega)]))
     case mle => repeat (first | exact mle_nil _ | exact mle_refl _ | refine mle_upd ?_ (by first | rfl | (simp only [upd_app, killM_app, O.kill, A.kill, Nat.reduceEqDiff, reduceIte, Option.map_some, Option.map_none, List.map_cons, List.map_nil, cClass, fullM, memM, wrap_succ (show q + 1 < 9223372036854775808 by have := (hS kc (List.mem_of_getElem? hkc)).2.1; omega)]; done)))
     case sle => repeat (first | exact sle_top _ | exact sle_refl _ | refine sle_upd ?_ (by first | rfl | (simp only [upd_app, killS_app, A.kill, entry_zero, entry_succ, Nat.reduceEqDiff, reduceIte, cClass, fullM, memM, wrap_succ (show q + 1 < 9223372036854775808 by have := (hS kc (List.mem_of_getElem? hkc)).2.1; omega)]; done)))
   ·intro hge
    simp only [decide_eq_false_iff_not, Int.ofNat_lt] at hge
    obtain rfl : q = kc.methods.length := by omega
    rw [List.take_length] at hno
    repeat (first | refine WI.seq ?_ | refine WI.block ?_ | refine WI.skip ?_ | refine WI.exit ?_ | refine WI.region tab_ok 0 (by decide) (by kernel_rfl) (exec_run zm31q9) ?_)
    refine ⟨?_, fun j => j, Le.toT ?_⟩
    ·show methUp cs n ((upX cs (cs.length + 1) 0 cn).take (k + 1)) = none
     unfold methUp at *
     rw [List.take_add_one, hitem, List.findSome?_append, hInv]
     simp [methAt, hkc, hno]
    ·simp only [fullM, memM]
     refine le_mk ?sle ?mle ?swf ?mwf (fun j hj => fullM_keep (hG _ _ _) hj) (by rfl)
     case swf => repeat (first | exact swf_top _ | refine swf_upd ?_ (by simp [A.ids, upd_app, fullM, memM]))
     case mwf => repeat (first | exact mwf_nil _ | refine mwf_upd ?_ (by simp [A.ids, O.ids, upd_app, fullM, memM]))
     case mle => repeat (first | exact mle_nil _ | exact mle_refl _ | refine mle_upd ?_ (by first | rfl | (simp only [upd_app, killM_app, O.kill, A.kill, Nat.reduceEqDiff, reduceIte, Option.map_some, Option.map_none, List.map_cons, List.map_nil, fullM, memM]; done)))
     case sle => repeat (first | exact sle_top _ | exact sle_refl _ | refine sle_upd ?_ (by first | rfl | (simp only [upd_app, killS_app, A.kill, entry_zero, entry_succ, Nat.reduceEqDiff, reduceIte, fullM, memM]; done)))
 case done =>
  intro hI b
  rw [List.take_length] at hI
  repeat (first | refine W.seq ?_ | refine W.block ?_ | refine W.skip ?_ | refine W.exit ?_ | refine W.g ?_ (by simp only [exb, Nat.reduceAdd, Nat.reduceLeDiff, Nat.reduceEqDiff, Nat.reduceMul, Int.reduceToNat, reduceIte, Int.reduceLE, Int.reduceNeg, doneS, doneM, DID, memM, slotM]; rfl))
  refine W.ret ⟨.inr rfl, .inr ⟨b, 1002, rfl, rfl, rfl, ?_⟩⟩
  simp only [Tryz.f38, resA, resOne, toT, fin, doneS, doneM, DID, exb, Nat.reduceAdd, Nat.reduceLeDiff, Nat.reduceEqDiff, Nat.reduceMul, Int.reduceToNat, reduceIte, Int.reduceLE, Int.reduceNeg, memM]
  simp [methodR, hI, methodC, cMethod, zeroMethod, cStmts]
end V
end Go.Proofs.YthhpcjoaogmhbaaGreatDoor
end
section
namespace Go.Proofs.YthhpcjoaogmhbaaGreatDoor
namespace V
open Go.RowKit
section
variable {H : Type} {enc : TypeId × Value → H} {w : World} {held : Bool}
theorem smallEs_of {N : Nat} : ∀ {l : List Expr}, (∀ x ∈ l, SmallE N x) → SmallEs N l
 | [], _ => by simp only [SmallEs]
 | x :: l, h => by simp only [SmallEs]; exact ⟨h x (by simp), smallEs_of fun y hy => h y (List.mem_cons_of_mem _ hy)⟩
theorem smallSs_of {N : Nat} : ∀ {l : List Stmt}, (∀ x ∈ l, SmallS N x) → SmallSs N l
 | [], _ => by simp only [SmallSs]
 | x :: l, h => by simp only [SmallSs]; exact ⟨h x (by simp), smallSs_of fun y hy => h y (List.mem_cons_of_mem _ hy)⟩
theorem expr_small {N : Nat} : ∀ (d n : Nat) (cs : List Value) (x : Expr) (z : DataW H × List MemPlace), RExpr d w (· < w.heap.size) cs x → DataW.trod enc Tryz.prog w 0 (fun _ => true) held n 29 cs = some z → Rows.uptoBulk z.1 ≤ N → SmallE N x
 | 0, _, _, _, _, h, _, _ => h.elim
 | d + 1, n, cs, ⟨k, nn, nm, kids⟩, z, ⟨kv, e1, _, _, _, h5⟩, h, hN => by
   subst e1
   obtain ⟨n3, y3, k3, b3⟩ := struct_bulk fieldsExpr (by simp) h (27, 3) (by simp)
   rw [cellsOf_one _ c_exprs _ _ _ rfl] at k3
   obtain ⟨l3, hall⟩ := slice_bulk Tryz.underlying27 c_expr (by decide) (fun cs y hy => by cases d with | zero => exact hy.elim | succ d => obtain ⟨_, rfl, -⟩ := hy; rfl) k3 h5
   simp only [SmallE]
   refine ⟨Nat.le_trans l3 (Nat.le_trans b3 hN), smallEs_of fun y hy => ?_⟩
   obtain ⟨n4, cs4, z4, q1, q2, q3⟩ := hall y hy
   exact expr_small d n4 cs4 y z4 q1 q2 (by omega)
theorem exprs_small {N d n : Nat} {v : Value} {l : List Expr} {z : DataW H × List MemPlace} (h : RSl 4 (RExpr d w (· < w.heap.size)) w (· < w.heap.size) v l) (k : DataW.trod enc Tryz.prog w 0 (fun _ => true) held n 27 [v] = some z) (hN : Rows.uptoBulk z.1 ≤ N) : l.length ≤ N ∧ SmallEs N l := by
 obtain ⟨l3, hall⟩ := slice_bulk Tryz.underlying27 c_expr (by decide) (fun cs y hy => by cases d with | zero => exact hy.elim | succ d => obtain ⟨_, rfl, -⟩ := hy; rfl) k h
 refine ⟨by omega, smallEs_of fun y hy => ?_⟩
 obtain ⟨n4, cs4, z4, q1, q2, q3⟩ := hall y hy
 exact expr_small d n4 cs4 y z4 q1 q2 (by omega)
theorem stmt_small {N : Nat} : ∀ (d n : Nat) (cs : List Value) (x : Stmt) (z : DataW H × List MemPlace), RStmt d w (· < w.heap.size) cs x → DataW.trod enc Tryz.prog w 0 (fun _ => true) held n 118 cs = some z → Rows.uptoBulk z.1 ≤ N → SmallS N x
 | 0, _, _, _, _, h, _, _ => h.elim
 | d + 1, n, cs, ⟨k, nn, ty, nm, es, th, el⟩, z, ⟨ev, tv, fv, e1, _, _, _, _, h6, h7, h8⟩, h, hN => by
   subst e1
   have hlen : ∀ cs y, RStmt d w (· < w.heap.size) cs y → cs.length = 7 := fun cs y hy => by cases d with | zero => exact hy.elim | succ d => obtain ⟨_, _, _, rfl, -⟩ := hy; rfl
   obtain ⟨n4, y4, k4, b4⟩ := struct_bulk fieldsStmt (by simp) h (27, 4) (by simp)
   obtain ⟨n5, y5, k5, b5⟩ := struct_bulk fieldsStmt (by simp) h (23, 5) (by simp)
   obtain ⟨n6, y6, k6, b6⟩ := struct_bulk fieldsStmt (by simp) h (23, 6) (by simp)
   rw [cellsOf_one _ c_exprs _ _ _ rfl] at k4
   rw [cellsOf_one _ c_stmts _ _ _ rfl] at k5 k6
   obtain ⟨q1, q2⟩ := exprs_small h6 k4 (Nat.le_trans b4 hN)
   obtain ⟨l5, a5⟩ := slice_bulk Tryz.underlying23 c_stmt (by decide) hlen k5 h7
   obtain ⟨l6, a6⟩ := slice_bulk Tryz.underlying23 c_stmt (by decide) hlen k6 h8
   simp only [SmallS]
   refine ⟨q1, q2, Nat.le_trans l5 (Nat.le_trans b5 hN), smallSs_of fun y hy => ?_, Nat.le_trans l6 (Nat.le_trans b6 hN), smallSs_of fun y hy => ?_⟩
   ·obtain ⟨n7, cs7, z7, r1, r2, r3⟩ := a5 y hy
    exact stmt_small d n7 cs7 y z7 r1 r2 (by omega)
   ·obtain ⟨n7, cs7, z7, r1, r2, r3⟩ := a6 y hy
    exact stmt_small d n7 cs7 y z7 r1 r2 (by omega)
theorem smallB_of {d fuel : Nat} {cs : List Value} {x : DataW H × List MemPlace} {p : Program} (hp : RProgram d w (· < w.heap.size) (.agg cs.toArray) p) (h : DataW.trod enc Tryz.prog w 0 (fun _ => true) held fuel 25 cs = some x) (hN : Rows.uptoBulk x.1 ≤ 1048576) : SmallB p.classes := by
 obtain ⟨cv, mv, e1, h1, -⟩ := hp
 have e2 : cs = [cv, mv] := by simpa using congrArg Array.toList (Value.agg.inj e1)
 subst e2
 obtain ⟨n1, y1, k1, b1⟩ := struct_bulk fieldsProgram (by simp) h (22, 0) (by simp)
 rw [cellsOf_one _ c_classes _ _ _ rfl] at k1
 obtain ⟨l1, hall⟩ := slice_bulk Tryz.underlying22 c_class (by decide) (fun cs y hy => by obtain ⟨_, _, rfl, -⟩ := hy; rfl) k1 h1
 intro c hc m hm
 obtain ⟨n2, cs2, y2, hc2, k2, b2⟩ := hall c hc
 obtain ⟨fv, mv2, rfl, -, -, hf, hmm⟩ := hc2
 obtain ⟨n4, y4, k4, b4⟩ := struct_bulk fieldsClass (by simp) k2 (40, 3) (by simp)
 rw [cellsOf_one _ c_methods _ _ _ rfl] at k4
 obtain ⟨l4, hall4⟩ := slice_bulk Tryz.underlying40 c_method (by decide) (fun cs y hy => by obtain ⟨_, _, rfl, -⟩ := hy; rfl) k4 hmm
 obtain ⟨n5, cs5, y5, hc5, k5, b5⟩ := hall4 m hm
 obtain ⟨pv, bv, rfl, -, -, -, hbody⟩ := hc5
 obtain ⟨n6, y6, k6, b6⟩ := struct_bulk fieldsMethod (by simp) k5 (23, 3) (by simp)
 rw [cellsOf_one _ c_stmts _ _ _ rfl] at k6
 obtain ⟨l6, a6⟩ := slice_bulk Tryz.underlying23 c_stmt (by decide) (fun cs y hy => by cases d with | zero => exact hy.elim | succ d => obtain ⟨_, _, _, rfl, -⟩ := hy; rfl) k6 hbody
 refine ⟨by omega, smallSs_of fun y hy => ?_⟩
 obtain ⟨n7, cs7, z7, r1, r2, r3⟩ := a6 y hy
 exact stmt_small d n7 cs7 y z7 r1 r2 (by omega)
end
end V
end Go.Proofs.YthhpcjoaogmhbaaGreatDoor
end
section
namespace Go.Proofs.YthhpcjoaogmhbaaGreatDoor
namespace V
open Go.RowKit
section
variable {H : Type} {enc : TypeId × Value → H} {w : World} {held : Bool}
theorem sum_le {α β : Type} (f : α → Nat) (g : β → Nat) : ∀ (l : List α) (e : List β), l.length ≤ e.length → (∀ (i : Nat) x y, l[i]? = some x → e[i]? = some y → f x ≤ g y) → (l.map f).sum ≤ (e.map g).sum
 | [], _, _, _ => by simp
 | x :: l, [], h, _ => by simp at h
 | x :: l, y :: e, h, hp => by
   have h1 := hp 0 x y rfl rfl
   have h2 := sum_le f g l e (by simpa using h) (fun i a b ha hb => hp (i + 1) a b (by simpa using ha) (by simpa using hb))
   simp only [List.map_cons, List.sum_cons]
   omega
theorem bulk_sum : ∀ l : List (DataW H), Rows.uptoBulkAll l = (l.map Rows.uptoBulk).sum
 | [] => by simp [Rows.uptoBulkAll]
 | x :: l => by simp [Rows.uptoBulkAll, bulk_sum l]
theorem slice_sum {α : Type} {P : Go.Program} {t e : TypeId} {sz fuel : Nat} {v : Value} {x : DataW H × List MemPlace} {R : List Value → α → Prop} {J : Nat → Prop} {l : List α} (cnt : α → Nat) (ht : P.underlying t = some (.slice e)) (hsz : P.cellsOf e = sz) (hpos : 0 < sz)
 (hlen : ∀ cs y, R cs y → cs.length = sz) (h : DataW.trod enc P w 0 (fun _ => true) held fuel t [v] = some x) (hR : RSl sz R w J v l) (hc : ∀ y ∈ l, ∀ n cs z, R cs y → DataW.trod enc P w 0 (fun _ => true) held n e cs = some z → cnt y ≤ Rows.uptoBulk z.1) :
 (l.map cnt).sum + 1 ≤ Rows.uptoBulk x.1 := by
 obtain ⟨a, n, cap, rfl, hn, -, -, hel⟩ := hR
 rcases DataW.trod_slice ht h with ⟨e1, rfl⟩ | ⟨a', len, cap', elems, rest, m, -, e1, hxe, -, -, -, hlen', hall, -, -⟩
 ·simp only [List.cons.injEq, Value.slice.injEq, and_true] at e1
  obtain ⟨-, rfl, -⟩ := e1
  obtain rfl : l = [] := List.length_eq_zero_iff.1 hn
  have := bulk_one (H := H) DataW.nil
  simpa using this
 ·simp only [List.cons.injEq, Value.slice.injEq, and_true] at e1
  obtain ⟨rfl, rfl, rfl⟩ := e1
  subst hxe
  have hb : Rows.uptoBulkAll (elems.map (·.1)) + 1 ≤ Rows.uptoBulk (DataW.slice (elems.map (·.1)) (rest.map (·.1))) := by simp only [Rows.uptoBulk]; omega
  refine Nat.le_trans (Nat.succ_le_succ ?_) hb
  rw [bulk_sum, List.map_map]
  refine sum_le cnt _ l elems (by omega) fun i y z hi hz => ?_
  have hil := (List.getElem?_eq_some_iff.1 hi).1
  obtain ⟨b, off, cs, ea, -, hcc, hr⟩ := hel i y hi
  cases ea
  have h1 := hall i (by omega)
  rw [hsz, hz] at h1
  cases hcell : w.cells? 0 ((⟨b, off, none⟩ : Addr).add (i * sz)) sz with
  | none => rw [hcell] at h1; simp at h1
  | some cs' =>
    rw [hcell] at h1
    have h1' : DataW.trod enc P w 0 (fun _ => true) held m e cs' = some z := by simpa using h1
    obtain ⟨_, hlen2, hcs⟩ := World.cells?_some hcell
    have : cs = cs' := cells_same hcc (fun j hj => by
     have := hcs j (by omega)
     rw [← this]
     congr 1
     have h3 : ∀ (o k : Nat), (⟨b, o, none⟩ : Addr).add k = ⟨b, o + k, none⟩ := fun o k => by
      unfold Addr.add
      by_cases hk : k = 0
      ·subst hk; rfl
      ·simp [hk]
     rw [h3, h3]) (by rw [hlen _ _ hr, hlen2])
    subst this
    exact hc y (List.mem_of_getElem? hi) m cs z hr h1'
end
end V
end Go.Proofs.YthhpcjoaogmhbaaGreatDoor
end
section
namespace Go.Proofs.YthhpcjoaogmhbaaGreatDoor
namespace V
open Go.RowKit
section
variable {H : Type} {enc : TypeId × Value → H} {w : World} {held : Bool}
theorem cntEs_sum : ∀ l : List Expr, cntEs l = (l.map cntE).sum
 | [] => by simp [cntEs]
 | x :: l => by simp only [cntEs, List.map_cons, List.sum_cons, cntEs_sum l]
theorem expr_cnt : ∀ (d n : Nat) (cs : List Value) (x : Expr) (z : DataW H × List MemPlace), RExpr d w (· < w.heap.size) cs x → DataW.trod enc Tryz.prog w 0 (fun _ => true) held n 29 cs = some z → cntE x ≤ Rows.uptoBulk z.1
 | 0, _, _, _, _, h, _ => h.elim
 | d + 1, n, cs, ⟨k, nn, nm, kids⟩, z, ⟨kv, e1, _, _, _, h5⟩, h => by
   subst e1
   obtain ⟨n3, y3, k3, b3⟩ := struct_bulk fieldsExpr (by simp) h (27, 3) (by simp)
   rw [cellsOf_one _ c_exprs _ _ _ rfl] at k3
   have c5 : (kids.map cntE).sum + 1 ≤ Rows.uptoBulk y3.1 := slice_sum cntE Tryz.underlying27 c_expr (by decide) (fun cs y hy => by cases d with | zero => exact hy.elim | succ d => obtain ⟨_, rfl, -⟩ := hy; rfl) k3 h5 (fun y _ n cs z hr ht => expr_cnt d n cs y z hr ht)
   simp only [cntE, cntEs_sum]
   omega
theorem expr_short {x : Expr} (h : cntE x ≤ 1048576) (want : Int) (hb : exprB x = true) : (exprX x want).length ≤ 140737488351232 := by
 have h1 := textX_len x hb
 have h2 := exprX_le x want
 omega
end
end V
end Go.Proofs.YthhpcjoaogmhbaaGreatDoor
end
section
namespace Go.Proofs.YthhpcjoaogmhbaaGreatDoor
open Go.ChangeShapes Go.WideShapes Go.ChangeAt Go.RowKit
open Go.ChangeMaps (open_string shut_string)
theorem own : ownKnob Tryz.prog.godebug = none := by kernel_rfl
theorem laidOut : laidOutB Tryz.prog = true := by kernel_rfl
namespace V
theorem cok_top {f : FuncId} {args : List A} {r : A} {W : World} {vals : List Value} (h : COk Tryz.prog f args Mem.nil r) (hg : GlobOk W) (hv : ∀ B, RVl B W (fun b _ => b < W.heap.size) args vals) :
 Calls Tryz.prog f vals.toArray W fun e w' => ∃ v, e = .returned v ∧ Below W.heap.size W w' ∧ ∃ B I', RV B w' I' r v := by
 obtain ⟨-, -, h⟩ := h
 have hm : MR W (fun b _ => b < W.heap.size) (fun _ => undef) (fun b _ => b < W.heap.size) Mem.nil W :=
  ⟨Below.refl _ _, hg, fun _ _ h => h, fun _ _ h => .inl h, fun _ _ h => h, (fun _ _ h => by simp [Mem.nil] at h), (fun _ _ h => by simp [Mem.nil] at h), (fun _ _ _ _ h => by simp [Mem.nil] at h), (fun _ _ h => by simp [Mem.nil] at h)⟩
 refine (h Mem.nil (fun _ _ => rfl) W _ _ _ W vals hm (hv _)).mono ?_
 rintro e w' ⟨v, I', rfl, hb, -, -, hr⟩
 exact ⟨v, rfl, hb, _, _, hr⟩
theorem cok_true {f : FuncId} {args : List A} {W : World} {vals : List Value} (h : COk Tryz.prog f args Mem.nil (.c (.bool true))) (hg : GlobOk W) (hv : ∀ B, RVl B W (fun b _ => b < W.heap.size) args vals) :
 Calls Tryz.prog f vals.toArray W fun e w' => e = .returned (.bool true) ∧ Below W.heap.size W w' := by
 refine (cok_top h hg hv).mono ?_
 rintro e w' ⟨v, rfl, hb, B, I', hr⟩
 have hr : RC w' I' v (.bool true) := hr
 cases hr
 exact ⟨rfl, hb⟩
theorem rv_prog {B : Nat → Value} {W : World} {d : Nat} {v : Value} {p : Program} (h : RProgram d W (· < W.heap.size) v p) : RV B W (fun b _ => b < W.heap.size) (.agg (cProg p)) v :=
 prog_rcs (fun _ _ h => h) h
theorem rv_str {B : Nat → Value} {W : World} {s : ByteArray} (h : s.size ≤ maxS) : RV B W (fun b _ => b < W.heap.size) (.c (.str s)) (.string s) := RC.str h
end V
end Go.Proofs.YthhpcjoaogmhbaaGreatDoor
end
section
namespace Go.Proofs.YthhpcjoaogmhbaaGreatDoor
open Go.ChangeShapes Go.WideShapes Go.ChangeAt Go.RowKit
open V
theorem tabIs_of_vars {P : Go.Program} {W : World} {name : String} {k : IntKind} {zs : List Int} {g : Nat} {t e : TypeId} {n : Nat}
 (hg : P.globalNamed name = some g) (hty : (P.globals[g]?).map (·.type) = some t) (ht : P.underlying t = some (.array n e)) (he : P.underlying e = some (.int k)) (hce : P.cellsOf e = 1) (hct : P.cellsOf t = n) {rest : List (String × DataW Unit)} {ps : List MemPlace}
 (h : DataW.LaidVars P W ((name, Lib.tabData k zs) :: rest) ps) : Lib.TabIs P W name k zs := by
 obtain ⟨g', t', cs, fuel, p, q, hg', ht', hvar, hd, _, _⟩ := h
 obtain rfl := Option.some.inj (hg.symm.trans hg')
 obtain rfl := Option.some.inj (hty.symm.trans ht')
 unfold Lib.TabIs
 rw [hvar, ← Lib.cells_of_tab ht he hce hct hd]
theorem gTens : Tryz.prog.globalNamed "internal/strconv.uint64pow10" = some 0 := by kernel_rfl
theorem tens_of {W : World} (h : laidMetH Tryz.prog Rows.checkSightUptoRow.laid W) : Lib.TabIs Tryz.prog W "internal/strconv.uint64pow10" .u64 Lib.pow10Tab := by
 obtain ⟨ps, ⟨_, _, _, _, _, q1, _, _, _, _, ⟨_, _, _, _, _, q2, _, _, _, _, h3, _⟩, _⟩, _⟩ := h
 exact tabIs_of_vars (zs := Lib.pow10Tab) gTens (by kernel_rfl) Tryz.underlying154 Tryz.underlying147 (by kernel_rfl) (by kernel_rfl) h3
def laidVals : DataW Unit → Array Value
 | .agg l => (l.map fun | .lit (.int k z) => Value.int k z | _ => undef).toArray
 | _ => #[]
def setTab (h : Array Obj) (g : Nat) (d : DataW Unit) : Array Obj := h.modify g fun
 | .cells _ t frozen => .cells (laidVals d) t frozen
 | o => o
noncomputable def laidWorld (os : Os) : World :=
 { World.holding Tryz.prog os ⟨#[], #[], []⟩ with heap := setTab (setTab (setTab (World.holding Tryz.prog os ⟨#[], #[], []⟩).heap 2 Rows.laid_math_bits_deBruijn32tab) 3 Rows.laid_math_bits_deBruijn64tab) 0 Rows.laid_internal_strconv_uint64pow10 }
section
variable {H : Type} {enc : TypeId × Value → H} {w : World} {held : Bool}
theorem slots_bulk {n : Nat} {v : Value} {l : List Slot} {z : DataW H × List MemPlace} (h : RSlots w (· < w.heap.size) v l) (k : DataW.trod enc Tryz.prog w 0 (fun _ => true) held n 26 [v] = some z) : l.length ≤ Rows.uptoBulk z.1 :=
 (slice_bulk Tryz.underlying26 c_slot (by decide) (fun cs y hy => (slot_rcs (w := w) (I := fun _ _ => False) hy).1) k h).1
end
theorem rv_slots {B : Nat → Value} {W : World} {v : Value} {l : List Slot} (h : RSlots W (· < W.heap.size) v l) : RV B W (fun b _ => b < W.heap.size) (.c (.sl (l.map cSlot))) v :=
 rsl_rc (fun _ _ h => h) (fun cs x _ h => slot_rcs h) h
theorem rv_expr {B : Nat → Value} {W : World} {d : Nat} {cs : Array Value} {x : Expr} (h : RExpr d W (· < W.heap.size) cs.toList x) : RV B W (fun b _ => b < W.heap.size) (.agg (cExpr x)) (.agg cs) :=
 ⟨cs.toList, by simp, (expr_rcs (fun _ _ h => h) d h).2⟩
end Go.Proofs.YthhpcjoaogmhbaaGreatDoor
end
section
namespace Go.Proofs.YthhpcjoaogmhbaaGreatDoor
namespace V
open Go.RowKit
theorem mle_refl' {m m' : Mem} (h : m = m') : MLe m m' := h ▸ mle_refl m
theorem mle_skip {m m' : Mem} {j : Nat} {x : Option O} (h : MLe m m') (hj : m' j = none) : MLe (upd m j x) m' := fun u => by
 unfold upd; split
 ·rename_i e; subst e; exact .inl hj
 ·exact h u
theorem upd_upd {α : Type} (f : Nat → α) (t : Nat) (x y : α) : upd (upd f t x) t y = upd f t y := by
 funext u; unfold upd; split <;> rfl
theorem upd_id {α : Type} (f : Nat → α) {t : Nat} {x : α} (h : f t = x) : upd f t x = f := by
 funext u; unfold upd; split
 ·rename_i e; subst e; exact h.symm
 ·rfl
theorem mwf_some {M : Mem} {j : Nat} {o : O} (hw : WFm M) (ho : ∀ i ∈ o.ids, (upd M j (some o) i).isSome = true) : WFm (upd M j (some o)) := fun id z hz i hi => by
 unfold upd at hz
 split at hz
 ·cases hz; exact ho i hi
 ·have := hw id z hz i hi
  unfold upd; split
  ·rfl
  ·exact this
theorem live_upd {M : Mem} {j : Nat} {o : O} : ∀ i, (M i).isSome = true → (upd M j (some o) i).isSome = true := fun i hi => by
 unfold upd; split
 ·rfl
 ·exact hi
theorem ren1_id : A1.ren (fun j => j) = id := funext fun a => by cases a <;> rfl
theorem ren_id : A.ren (fun j => j) = id := funext fun a => by cases a <;> simp [A.ren, ren1_id]
theorem renO_id (o : O) : O.ren (fun j => j) o = o := by cases o <;> simp [O.ren, ren1_id, ren_id]
theorem ok_eff {P : Go.Program} {T : Tab} (hT : T.Ok P) {f : FuncId} {fn : Func} {c : Code} {l : List ResultVar} {args : List A} {M : Mem} (D : List Nat) {r : A} {M' : Mem} (hf : P.funcs[f]? = some fn) (hn : (fn.name == "runtime.NumGoroutine") = false) (hb : fn.body = some c) (hl : fn.results.toList = l)
 (hle : decide (args.length ≤ fn.ntmps ∧ fn.ntmps ≤ DID) = true) (hdf : args.all (fun a => !(match a with | .defs _ => true | _ => false)) = true) (hids : ∀ a ∈ args, ∀ j ∈ a.ids, (M j).isSome = true) (hr : ∀ j ∈ r.ids, (M' j).isSome = true) (hsub : ∀ j, (M j).isSome = true → (M' j).isSome = true) (hwm : WFm M → WFm M')
 (hW : WFm M → ∀ R : Ref, R.keep = (fun j => (M j).isSome = true ∧ j ∉ D) → W P R fn.ntmps [] ⟨entry args, M⟩ c (fun e st => (e = .normal ∨ e = .ret) ∧ dfs (st.s DID) = [] ∧ resE T st l = some r ∧ MLe st.m M')) : CallE P f args M D r M' := by
 refine ⟨enters_of hf hn hb, hr, hsub, hwm, ?_⟩
 intro w0 I0 B I w vals hm hv
 have hWF : WFm M := hm.live
 refine (call_eff hT (D := D) hf hb hl (of_decide_eq_true hle).1 (of_decide_eq_true hle).2 hids (fun a ha l e => by have := List.all_eq_true.1 hdf a ha; subst e; simp at this) (enters_of hf hn hb) hr hsub hwm (fun R hR => ?_)).2.2.2.2 w0 I0 B I w vals hm hv
 refine W.mono (hW hWF R hR) fun e st ⟨h1, h2, h3, h4⟩ => ⟨h1, h2, fun j => j, r, h3, ?_⟩
 have hwf' : WFm M' := hwm hWF
 refine ⟨fun t => .inr ?_, fun j o ho => ?_, fun i j _ _ e => e, ⟨fun t j hj => ?_, hwf'⟩, fun j hj => ?_, ?_⟩
 ·show (upd (fun _ => A.top) 0 r t).ren (fun j => j) = _
  rw [ren_id]; rfl
 ·rw [renO_id]
  rcases h4 j with q | q
  ·rw [show (⟨upd (fun _ => A.top) 0 r, M'⟩ : St).m j = M' j from rfl, q] at ho; cases ho
  ·exact q.symm.trans ho
 ·show (M' j).isSome = true
  have hj : j ∈ (upd (fun _ => A.top) 0 r t).ids := hj
  unfold upd at hj
  split at hj
  ·exact hr j hj
  ·simp [A.ids] at hj
 ·rw [hR] at hj
  exact ⟨rfl, hsub j hj.1⟩
 ·show dfs (upd (fun _ => A.top) 0 r DID) = dfs (upd (fun _ => A.top) 0 r DID)
  rfl
theorem mwf_base {M m : Mem} (hw : WFm M) (h : ∀ i, (M i).isSome = true → (m i).isSome = true) : MWf m M := fun id o ho j hj => h j (hw id o ho j hj)
end V
end Go.Proofs.YthhpcjoaogmhbaaGreatDoor
end
section
namespace Go.Proofs.YthhpcjoaogmhbaaGreatDoor
namespace V
open Go.RowKit
section
variable {P : Go.Program} {T : Tab} {kp : Nat → Prop} {base : Nat} {ops : Array Oper} {K : St → Prop}
def RunsW (P : Go.Program) (T : Tab) (kp : Nat → Prop) (base : Nat) (ops : Array Oper) (K : St → Prop) (f : Nat) (listed : Array Bool) (st : St) : Prop := listed.size = ops.size → ClosedL ops listed → WF st → Runs P T kp base ops K f listed st
theorem runs_mono {K' : St → Prop} (hk : ∀ st, K st → K' st) : ∀ {f : Nat} {listed : Array Bool} {st : St}, Runs P T kp base ops K f listed st → Runs P T kp base ops K' f listed st
 | 0, _, _, h => ⟨h.1, hk _ h.2⟩
 | _ + 1, _, _, h => ⟨fun e => hk _ (h.1 e), fun i hi o ho => let ⟨st1, h1, h2⟩ := h.2 i hi o ho; ⟨st1, h1, runs_mono hk h2⟩⟩
theorem RunsW.mono {K' : St → Prop} (hk : ∀ st, K st → K' st) {f : Nat} {listed : Array Bool} {st : St} (h : RunsW P T kp base ops K f listed st) : RunsW P T kp base ops K' f listed st := fun a b c => runs_mono hk (h a b c)
theorem closed_none {n : Nat} (hn : ops.size = n) : ClosedL ops (Array.replicate n false) := fun k o hk h => by
 have hlt := (Array.getElem?_eq_some_iff.1 hk).1
 rw [Array.getD_eq_getD_getElem?, Array.getElem?_replicate, if_pos (by omega)] at h
 cases h
end
section
variable {l n' : Nat} {P : Go.Program} {T : Tab} {R : Ref} {n : Nat} {ds : List Deferred} {st : St} {K : Exit → St → Prop}
end
end V
end Go.Proofs.YthhpcjoaogmhbaaGreatDoor
end
section
namespace Go.Proofs.YthhpcjoaogmhbaaGreatDoor
namespace V
open Go.RowKit
def XSem (P : Go.Program) (f : FuncId) (args : List A) (m : Mem) (ch : List PanicEntry) : Prop :=
 ∀ (w0 : World) (I0 : Nat → Nat → Prop) (B : Nat → Value) (I : Nat → Nat → Prop) (w : World) (vals : List Value), MR w0 I0 B I m w → RVl B w I args vals →
   Calls P f vals.toArray w fun e w' => e = .panicked ch ∧ Below w.heap.size w w'
def XOk (P : Go.Program) (f : FuncId) (args : List A) (m : Mem) (ch : List PanicEntry) : Prop :=
 (∀ args w, (callFunc f args).run P w = .ok (.enter f args) w) ∧ ∀ m', (∀ j, Reach m args j → m' j = m j) → XSem P f args m' ch
structure XS (P : Go.Program) (T : Tab) (kp : Nat → Prop) (ops : Array Oper) (o : Oper) (st : St) (ch : List PanicEntry) (st' : St) : Prop where
 run : ∀ (R : Ref) (n : Nat) (ds : List Deferred) (a : Act) (w : World) (K : Act → World → Prop) (Q : Exit → Act → World → Prop), R.keep = kp → SR R n ds st a w → (∀ a' w', SR R n ds st' a' w' → Q (.panic ch) a' w') →
  Region.wanted o (yielded ops a.tmps) = true ∧ o.wp P a w K Q
section
variable {P : Go.Program} {T : Tab} {kp : Nat → Prop} {ops : Array Oper}
theorem SR.below {R : Ref} {n : Nat} {ds : List Deferred} {st : St} {a : Act} {w w' : World} (hr : SR R n ds st a w) (hb : Below w.heap.size w w') : SR R n ds st a w' := by
 obtain ⟨B, I, hm, hx0, hkp, hs⟩ := hr.ex
 have hE : Ext w w' I I := hm.ext hb (fun _ _ k => k)
 exact ⟨⟨B, I, hm.call hb, hx0.trans hE, hkp, fun t => (hs t).mono hE fun _ _ => rfl⟩, hr.ids, hr.size, hr.nn, hr.defs, hr.kept⟩
theorem xs_call {o : Oper} {st : St} {ch : List PanicEntry} {c : Call} {x : Operand} {f : FuncId} {ids : List Nat} {args : List A} (h : wantA ops o st.s = some true) (hop : o.op = .call c) (hc : c.callee = .value x) (hx : ev st.s x = .fn f ids) (hb : ∀ j ∈ ids, ∃ ty cells, st.m j = some (.box ty cells))
 (ha : Cvs st.m (c.args.toList.map (ev st.s) ++ ids.map (A.ptr · 0)) args) (hk : XOk P f args st.m ch) : XS P T kp ops o st ch st := by
 refine ⟨fun R n ds a w K Q hR hr hK => ?_⟩
 obtain ⟨B, I, hm, hx0, hkp0, hs⟩ := hr.ex
 refine ⟨want_snd hs h, ?_⟩
 have hev := ev_rv hs
 have hfv : a.eval x = .func (.func f) #[] (ids.map B).toArray := by have := hev x; rw [hx] at this; exact this
 have hrv := cvs_rvl hm ha ((rvl_map hev c.args.toList).append (rvl_ptrs hm hb))
 have hcl := hk.2 st.m (fun _ _ => rfl) R.w0 R.I0 B I w _ hm hrv
 unfold Oper.wp Oper.upon
 have hrun : (execOp a.eval o).run P w = .ok (.enter f (c.args.toList.map a.eval ++ ids.map B).toArray) w := by
  simp only [execOp, hop, resolve, hc, hfv, Deferred.ofValue, Sem.run_bind, Sem.run_pure, Result.andThen_ok, invoke]
  rw [show (#[] ++ Array.map a.eval c.args ++ (List.map B ids).toArray) = (List.map a.eval c.args.toList ++ List.map B ids).toArray by rw [← List.map_toArray]; simp]
  exact hk.1 _ _
 rw [hrun]
 refine hcl.mono ?_
 rintro e w' ⟨rfl, hbl⟩
 exact hK _ _ (hr.below hbl)
theorem xs_callR {o : Oper} {st : St} {ch : List PanicEntry} {c : Call} {x : Operand} {f : FuncId} {ids : List Nat} {args : List A} (h : wantA ops o st.s = some true) (hop : o.op = .call c) (hc : c.callee = .value x) (hx : ev st.s x = .fn f ids) (hb : ∀ j ∈ ids, ∃ ty cells, st.m j = some (.box ty cells))
 (ha : CvRs st.m (c.args.toList.map (ev st.s) ++ ids.map (A.ptr · 0)) args) (hk : ∀ m, XOk P f args m ch) : XS P T kp ops o st ch st := by
 refine ⟨fun R n ds a w K Q hR hr hK => ?_⟩
 obtain ⟨B, I, hm, hx0, hkp0, hs⟩ := hr.ex
 refine ⟨want_snd hs h, ?_⟩
 have hev := ev_rv hs
 have hfv : a.eval x = .func (.func f) #[] (ids.map B).toArray := by have := hev x; rw [hx] at this; exact this
 have hrv := cvrs_rvl hm ha ((rvl_map hev c.args.toList).append (rvl_ptrs hm hb))
 have hcl := (hk Mem.nil).2 Mem.nil (fun _ _ => rfl) R.w0 R.I0 B _ w _ (lent_mr hm) hrv
 unfold Oper.wp Oper.upon
 have hrun : (execOp a.eval o).run P w = .ok (.enter f (c.args.toList.map a.eval ++ ids.map B).toArray) w := by
  simp only [execOp, hop, resolve, hc, hfv, Deferred.ofValue, Sem.run_bind, Sem.run_pure, Result.andThen_ok, invoke]
  rw [show (#[] ++ Array.map a.eval c.args ++ (List.map B ids).toArray) = (List.map a.eval c.args.toList ++ List.map B ids).toArray by rw [← List.map_toArray]; simp]
  exact (hk Mem.nil).1 _ _
 rw [hrun]
 refine hcl.mono ?_
 rintro e w' ⟨rfl, hbl⟩
 exact hK _ _ (hr.below hbl)
end
def PanK (P : Go.Program) (T : Tab) (kp : Nat → Prop) (base : Nat) (ops : Array Oper) (l : List Oper) (st : St) (ch : List PanicEntry) (k : St → Prop) : Prop :=
 ∃ l1 o l2 st1 st2, l = l1 ++ o :: l2 ∧ RunL P T kp base ops l1 st st1 ∧ XS P T kp ops o st1 ch st2 ∧ k st2
section
variable {P : Go.Program} {T : Tab} {kp : Nat → Prop} {base : Nat} {ops : Array Oper}
variable (hT : T.Ok P) {R : Ref} {n : Nat} {ds : List Deferred}
include hT
theorem pan_snd (hd : ∀ o ∈ ops, ∀ d, o.dst = some d → d < n) {Q : Exit → Act → World → Prop} {i : Nat} {o : Oper} {st1 st2 : St} {ch : List PanicEntry} (ho : ops[i]? = some o) (hx : XS P T R.keep ops o st1 ch st2) (hQ : ∀ a w, SR R n ds st2 a w → Q (.panic ch) a w) :
 ∀ (l l2 : List Nat) (st : St) (a : Act) (w : World), Chain P T R.keep base ops l st st1 → SR R n ds st a w → wpOps P ops Q (l ++ i :: l2) a w
 | [], l2, st, a, w, h, hr => by
   cases h
   rw [List.nil_append, wpOps_cons]
   unfold wpOp
   rw [ho]
   obtain ⟨hw, hgo⟩ := hx.run R n ds a w (wpOps P ops Q l2) Q rfl hr hQ
   dsimp only
   rw [if_pos hw]
   exact .inl hgo
 | j :: l, l2, st, a, w, h, hr => by
   cases h with
   | @cons _ o' _ _ st1' _ hi h1 t =>
     rw [List.cons_append, wpOps_cons]
     unfold wpOp
     rw [hi]
     have hgo := h1.snd hT hr (hd o' (Array.mem_of_getElem? hi)) (K := wpOps P ops Q (l ++ i :: l2)) (Q := Q) (fun a' w' hr' => pan_snd hd ho hx hQ l l2 st1' a' w' t hr')
     dsimp only
     split
     ·rename_i hw; rw [if_pos hw] at hgo; exact .inl hgo
     ·rename_i hw; rw [if_neg hw] at hgo; exact hgo
omit hT in
theorem range_split {n i : Nat} (h : i < n) : List.range n = List.range' 0 i ++ i :: List.range' (i + 1) (n - i - 1) := by
 rw [List.range_eq_range', show n = i + (1 + (n - i - 1)) by omega, ← List.range'_append_1]
 congr 1
 rw [← List.range'_append_1]
 simp [List.range'_one, Nat.add_comm]
omit hT in
theorem runl_chain : ∀ {l : List Oper} {k : Nat} {st st' : St}, (∀ j x, l[j]? = some x → ops[k + j]? = some x) → RunL P T kp base ops l st st' → Chain P T kp base ops (List.range' k l.length) st st'
 | [], _, _, _, _, h => by cases h; exact .nil _
 | o :: l, k, _, _, hl, h => by
   cases h with
   | cons h t =>
     refine .cons (by simpa using hl 0 o rfl) h (runl_chain (fun j x hx => ?_) t)
     have := hl (j + 1) x (by simpa using hx)
     rwa [show k + 1 + j = k + (j + 1) by omega]
theorem W.pan {id : Nat} {st : St} {K : Exit → St → Prop} {ch : List PanicEntry} (hd : dstOk n ops = true) (h : PanK P T R.keep base ops ops.toList st ch (K (.panic ch))) : W P R n ds st (.region id ops false) K := fun a w hr => by
 obtain ⟨l1, o, l2, st1, st2, h1, h2, h3, h4⟩ := h
 have hi : ops[l1.length]? = some o := by rw [← Array.getElem?_toList, h1]; simp
 have hlt := (Array.getElem?_eq_some_iff.1 hi).1
 refine wp_region ?_
 rw [range_split hlt]
 refine pan_snd hT (base := base) (dstOk_spec hd) hi h3 (fun a w hr' => ⟨st2, h4, hr'⟩) _ _ st a w ?_ hr
 refine runl_chain (k := 0) (fun j x hx => ?_) h2
 rw [Nat.zero_add, ← Array.getElem?_toList, h1, List.getElem?_append_left (List.getElem?_eq_some_iff.1 hx).1]
 exact hx
end
theorem xs_panic {P : Go.Program} {T : Tab} {kp : Nat → Prop} {ops : Array Oper} {o : Oper} {st : St} {x : Operand} {t : TypeId} {u : Value} (h : wantA ops o st.s = some true) (hop : o.op = .panic x) (hx : ∀ (B : Nat → Value) (w : World) (I : Nat → Nat → Prop) (v : Value), RV B w I (ev st.s x) v → v = .iface t u) : XS P T kp ops o st [{ v := .iface t u, recovered := false }] st := by
 refine ⟨fun R n ds a w K Q hR hr hK => ?_⟩
 obtain ⟨B, I, hm, hx0, hkp0, hs⟩ := hr.ex
 refine ⟨want_snd hs h, ?_⟩
 have hv := hx B w I _ (ev_rv hs x)
 unfold Oper.wp Oper.upon
 have hrun : (execOp a.eval o).run P w = .halt (.panic (.iface t u)) w := by
  simp only [execOp, hop, hv]
  rfl
 rw [hrun]
 exact hK _ _ hr
theorem ok_pan {P : Go.Program} {T : Tab} {f : FuncId} {fn : Func} {c : Code} {args : List A} {ch : List PanicEntry} (hT : T.Ok P) (hf : P.funcs[f]? = some fn) (hn : (fn.name == "runtime.NumGoroutine") = false) (hb : fn.body = some c) (hd : args.all (fun a => a.ids.isEmpty && !(match a with | .defs _ => true | _ => false)) = true) (hle : decide (args.length ≤ fn.ntmps ∧ fn.ntmps ≤ DID) = true)
 (hW : ∀ R : Ref, R.keep = (fun _ => False) → W P R fn.ntmps [] ⟨entry args, Mem.nil⟩ c (fun e st => e = .panic ch ∧ dfs (st.s DID) = [])) (m : Mem) : XOk P f args m ch := by
 refine ⟨enters_of hf hn hb, fun m' _ => ?_⟩
 intro w0 I0 B I w vals hm hv
 have hd1 : ∀ a ∈ args, a.ids = [] := fun a ha => by have := List.all_eq_true.1 hd a ha; simp only [Bool.and_eq_true] at this; simpa using this.1
 have hd2 : ∀ a ∈ args, ∀ l, a ≠ .defs l := fun a ha l e => by have := List.all_eq_true.1 hd a ha; subst e; simp at this
 obtain ⟨hl1, hl2⟩ := of_decide_eq_true hle
 have hlen := rvl_len hv
 refine calls_of_wp hf hb ?_
 have h0 : SR ⟨w, I, w, I, B, fun _ => False⟩ fn.ntmps [] ⟨entry args, Mem.nil⟩ { tmps := vals.toArray ++ Array.replicate (fn.ntmps - vals.toArray.size) undef, defers := [] } w := by
  refine ⟨⟨B, I, ⟨Below.refl _ _, hm.globNow, fun _ _ h => h, fun _ _ h => .inl h, hm.there, fun _ _ h => absurd h (noneSome _), fun _ _ h => absurd h (noneSome _), fun _ _ _ _ h => absurd h (noneSome _), fun _ _ h => absurd h (noneSome _)⟩, Ext.refl _ _, fun _ _ => rfl, rvl_entry hv⟩, fun t j hj => ?_, by simp [hlen]; omega, hl2, by rw [show dfs ((⟨entry args, Mem.nil⟩ : St).s DID) = [] from entry_dfs (fun a ha l e => by subst e; exact hd2 _ ha l rfl)]; rfl, fun j hj => hj.elim⟩
  simp only [entry, List.getD_eq_getElem?_getD] at hj
  cases hx : args[t]? with
  | none => rw [hx] at hj; simp [A.ids] at hj
  | some a => rw [hx] at hj; simp [hd1 a (List.mem_of_getElem? hx)] at hj
 refine wp_mono (hW _ rfl _ w h0) ?_
 rintro e a' w' ⟨st', ⟨rfl, hdn⟩, ⟨⟨B', I', hm', hx', -, hs'⟩, -, -, -, hds, -⟩⟩
 rw [hdn] at hds
 exact ⟨hds, rfl, hm'.below⟩
section
variable {P : Go.Program} {T : Tab} (hT : T.Ok P) {R : Ref} {n base : Nat} {ds : List Deferred} {ops : Array Oper} {ch : List PanicEntry}
include hT in
include hT in
end
section
variable {P : Go.Program} {T : Tab} {kp : Nat → Prop} {base f : Nat} {ops : Array Oper} {ch : List PanicEntry} {K Kp : St → Prop} {listed : Array Bool} {st : St}
end
end V
end Go.Proofs.YthhpcjoaogmhbaaGreatDoor
end
section
namespace Go.Proofs.YthhpcjoaogmhbaaGreatDoor
namespace V
open Go.RowKit
def tame : Op → Bool
 | .move _ => true
 | .load .. => true
 | _ => false
theorem load1_none {T : Tab} {s : Nat → A} {m : Mem} {id : Nat} {ty : TypeId} {x : Operand} {r : A} {ob : Option O} (hq : qv1 T s m id (.load ty x) = some (r, ob)) : ob = none := by
 simp only [qv1] at hq
 repeat' split at hq
 all_goals first | (cases hq; rfl) | (cases hq)
theorem load2_none {T : Tab} {s : Nat → A} {m : Mem} {id : Nat} {ty : TypeId} {x : Operand} {r : A} {ob : Option O} (hq : qv2 T s m id (.load ty x) = some (r, ob)) : ob = none := by
 simp only [qv2] at hq
 repeat' split at hq
 all_goals first | (cases hq; rfl) | (cases hq)
theorem tame_none {T : Tab} {s : Nat → A} {m : Mem} {id : Nat} {op : Op} {r : A} {ob : Option O} (h : tame op = true) (hq : qv T s m id op = some (r, ob)) : ob = none := by
 cases op with
 | move x => cases hq; rfl
 | load ty x =>
   unfold qv at hq
   split at hq
   ·rename_i h1; cases hq; exact load1_none h1
   ·exact load2_none hq
 | _ => cases h
theorem tame_step {P : Go.Program} {T : Tab} {kp : Nat → Prop} {base : Nat} {ops : Array Oper} {o : Oper} {st st' : St} (ht : tame o.op = true) (h : HS P T kp base ops o st st') : st'.m = st.m ∧ ∀ t, o.dst ≠ some t → st'.s t = st.s t := by
 have put : ∀ r : A, ∀ t, o.dst ≠ some t → putS st.s o.dst r t = st.s t := fun r t hne => by
  cases hd : o.dst with
  | none => rfl
  | some d => exact upd_ne _ _ (fun e => hne (by rw [hd, e]))
 cases h with
 | @val r ob h =>
   have hob : ob = none := by
    cases h with
    | skip => rfl
    | val _ hq _ _ => exact tame_none ht hq
    | call => rfl
    | callF => rfl
    | callR => rfl
   subst hob
   exact ⟨rfl, put r⟩
 | store h => have := h.op; rw [this] at ht; cases ht
 | eff h =>
   have := h.bar
   cases hop : o.op <;> rw [hop] at ht this <;> simp [tame] at ht <;> simp [kind] at this
theorem tame_chain {P : Go.Program} {T : Tab} {kp : Nat → Prop} {base : Nat} {ops : Array Oper} {need : List Nat} : ∀ {l : List Nat} {st st' : St}, (∀ i ∈ l, ∀ o, ops[i]? = some o → tame o.op = true ∧ ∀ t ∈ need, o.dst ≠ some t) → Chain P T kp base ops l st st' → st'.m = st.m ∧ ∀ t ∈ need, st'.s t = st.s t
 | [], _, _, _, h => by cases h; exact ⟨rfl, fun _ _ => rfl⟩
 | i :: l, _, _, hl, h => by
   cases h with
   | cons hi h t =>
     obtain ⟨h1, h2⟩ := hl i (by simp) _ hi
     obtain ⟨q1, q2⟩ := tame_step h1 h
     obtain ⟨q3, q4⟩ := tame_chain (need := need) (fun j hj => hl j (List.mem_cons_of_mem _ hj)) t
     exact ⟨q3.trans q1, fun t ht => (q4 t ht).trans (q2 t (h2 t ht))⟩
def okPan (T : Tab) (ops : Array Oper) (p : Nat) (need : List Nat) : Bool :=
 decide (p < ops.size) && (List.range (p + 1)).all (okOp T ops) && ((List.range ops.size).all fun k => decide (k ≤ p) || ancB ops ops.size k p) && ((List.range p).all fun k => ancB ops ops.size p k || (match ops[k]? with | some o => tame o.op && !(need.any fun t => o.dst == some t) | none => true))
theorem exists_least (f : Nat → Bool) : ∀ p, f p = false → ∃ i, i ≤ p ∧ f i = false ∧ ∀ j, j < i → f j = true := by
 intro p
 induction p using Nat.strongRecOn with
 | ind p ih =>
   intro h
   by_cases hj : ∃ j, j < p ∧ f j = false
   ·obtain ⟨j, h1, h2⟩ := hj
    obtain ⟨i, h3, h4, h5⟩ := ih j h1 h2
    exact ⟨i, by omega, h4, h5⟩
   ·exact ⟨p, Nat.le_refl _, h, fun j hlt => by
     cases hf : f j with
     | true => rfl
     | false => exact absurd ⟨j, hlt, hf⟩ hj⟩
section
variable {P : Go.Program} {T : Tab} (hT : T.Ok P) {R : Ref} {n base : Nat} {ds : List Deferred} {ops : Array Oper} {ch : List PanicEntry}
include hT
theorem anyx_snd {p : Nat} {need : List Nat} (hok : okPan T ops p need = true) (hd : ∀ o ∈ ops, ∀ d, o.dst = some d → d < n) {Q : Exit → Act → World → Prop} {stp : St} {op : Oper} (hop : ops[p]? = some op) (hx : ∀ st, (∀ t ∈ need, st.s t = stp.s t) → st.m = stp.m → ∃ st', XS P T R.keep ops op st ch st' ∧ ∀ a w, SR R n ds st' a w → Q (.panic ch) a w) :
 ∀ (fuel : Nat) (listed : Array Bool) (l : List Nat) (st : St) (a : Act) (w : World), l.length + 1 ≤ fuel → listed.size = ops.size → l.Pairwise (· < ·) → (∀ i, i ∈ l ↔ i < p ∧ listed.getD i true = false) → listed.getD p true = false → ClosedL ops listed → SR R n ds st a w → Chain P T R.keep base ops l st stp →
   wpAny P .any ops Q fuel listed a w := by
 simp only [okPan, Bool.and_eq_true, decide_eq_true_eq] at hok
 obtain ⟨⟨⟨hp, hok1⟩, hok2⟩, hok3⟩ := hok
 have hokAt : ∀ k, k ≤ p → okOp T ops k = true := fun k hk => List.all_eq_true.1 hok1 k (List.mem_range.2 (by omega))
 intro fuel
 induction fuel with
 | zero => intro listed l st a w hl; omega
 | succ fuel ih =>
   intro listed l st a w hl hsz hpw hmem hlp hc hr hch
   -- p, once all that it waits for has come up
   have ready_p : ∀ {i : Nat}, i ∈ Region.ready .any ops listed → i ≤ p := fun {i} hi => by
    obtain ⟨h1, oi, h2, h3⟩ := mem_ready.1 hi
    have hlt := (Array.getElem?_eq_some_iff.1 h2).1
    have := List.all_eq_true.1 hok2 i (List.mem_range.2 hlt)
    simp only [Bool.or_eq_true, decide_eq_true_eq] at this
    refine this.resolve_right fun ha => ?_
    have hjl := anc_listed hc _ i oi h2 h3 ha
    rw [getD_tf hjl] at hlp
    cases hlp
   constructor
   ·intro hnil
    exfalso
    -- the least that has not come up
    have least : ∀ i, i ≤ p → listed.getD i true = false → (∀ j, j < i → listed.getD j true = true) → i ∈ Region.ready .any ops listed := by
     intro i hip hli hbel
     have hilt : i < ops.size := by omega
     rw [mem_ready]
     refine ⟨hli, ops[i], by simp [hilt], fun e he hb => ?_⟩
     have hk := hokAt i hip
     simp only [okOp, Array.getElem?_eq_getElem hilt, Bool.and_eq_true, List.all_eq_true] at hk
     have hlt := hk.1 e (by simpa using he)
     rw [hb] at hlt
     simp at hlt
     have hb1 := hbel e.on hlt
     have hsz2 : e.on < listed.size := by omega
     rw [Array.getD_eq_getD_getElem?, Array.getElem?_eq_getElem hsz2] at hb1 ⊢
     simpa using hb1
    obtain ⟨i, h1, h2, h3⟩ := exists_least (fun i => listed.getD i true) p hlp
    have := least i h1 h2 h3
    rw [hnil] at this
    cases this
   ·intro i hi
    have hip := ready_p hi
    obtain ⟨h1, oi, h2, h3⟩ := mem_ready.1 hi
    have hlt := (Array.getElem?_eq_some_iff.1 h2).1
    rcases Nat.lt_or_eq_of_le hip with hilt | rfl
    ·have hil := (hmem i).2 ⟨hilt, h1⟩
     obtain ⟨l1, l2, rfl⟩ := List.append_of_mem hil
     have hpp := List.pairwise_append.1 hpw
     have hind : ∀ j ∈ l1, ∀ oj, ops[j]? = some oj → indep T ops oj oi = true := fun j hj oj hoj => by
      have hji : j < i := hpp.2.2 j hj i (by simp)
      have hk := hokAt i hip
      simp only [okOp, h2, Bool.and_eq_true, List.all_eq_true] at hk
      have := hk.2 j (List.mem_range.2 hji)
      rw [hoj] at this
      simp only [Bool.or_eq_true] at this
      refine this.resolve_right fun ha => ?_
      have hjl := anc_listed hc _ i oi h2 h3 ha
      have := ((hmem j).1 (by simp [hj])).2
      rw [getD_tf hjl] at this
      cases this
     obtain ⟨st1, h4, h5⟩ := Chain.front h2 hr.wf hind hch
     have hoi : oi ∈ ops := Array.mem_of_getElem? h2
     have hset : ∀ k, (listed.setIfInBounds i true).getD k true = if k = i then true else listed.getD k true := fun k => by
      rw [Array.getD_eq_getD_getElem?, Array.getD_eq_getD_getElem?, Array.getElem?_setIfInBounds]
      by_cases e : i = k
      ·subst e; simp; split <;> rfl
      ·rw [if_neg e, if_neg (Ne.symm e)]
     have hsetf : ∀ k, listed.getD k false = true → (listed.setIfInBounds i true).getD k false = true := fun k hk => by
      rw [Array.getD_eq_getD_getElem?] at hk ⊢
      rw [Array.getElem?_setIfInBounds]
      by_cases e : i = k
      ·subst e; simp [hsz, hlt]
      ·rw [if_neg e]; exact hk
     unfold wpOp
     rw [h2]
     have hgo := h4.snd hT hr (hd oi hoi) (K := wpAny P .any ops Q fuel (listed.setIfInBounds i true)) (Q := Q) (fun a' w' hr' => by
      refine ih _ (l1 ++ l2) st1 a' w' ?_ (by simpa using hsz) (hpw.sublist (by simp)) (fun k => ?_) ?_ (fun k o ho hkl e he hb => ?_) hr' h5
      ·simp at hl ⊢; omega
      ·rw [hset]
       by_cases e : k = i
       ·subst e
        rw [if_pos rfl]
        refine ⟨fun hk => ?_, fun hk => by cases hk.2⟩
        exfalso
        rcases List.mem_append.1 hk with hk | hk
        ·have := hpp.2.2 k hk k (by simp); omega
        ·have := (List.pairwise_cons.1 hpp.2.1).1 k hk; omega
       ·rw [if_neg e, ← hmem k]
        simp [e]
      ·rw [hset, if_neg (by omega)]; exact hlp
      ·rw [hset] at hkl
       split at hkl
       ·rename_i e'; subst e'
        have : o = oi := Option.some.inj (ho.symm.trans h2)
        subst this
        exact hsetf _ (h3 e he hb)
       ·exact hsetf _ (hc k o ho hkl e he hb))
     dsimp only
     split
     ·rename_i hw; rw [if_pos hw] at hgo; exact .inl hgo
     ·rename_i hw; rw [if_neg hw] at hgo; exact hgo
    ·have hoo : oi = op := Option.some.inj (h2.symm.trans hop)
     subst hoo
     obtain ⟨q1, q2⟩ := tame_chain (need := need) (fun j hj o ho => by
      obtain ⟨hj1, hj2⟩ := (hmem j).1 hj
      have := List.all_eq_true.1 hok3 j (List.mem_range.2 hj1)
      rw [ho] at this
      simp only [Bool.or_eq_true, Bool.and_eq_true, Bool.not_eq_true'] at this
      rcases this with ha | ⟨ha, hb⟩
      ·exfalso
       have hjl := anc_listed hc _ i oi h2 h3 ha
       rw [getD_tf hjl] at hj2
       cases hj2
      ·refine ⟨ha, fun t ht e => ?_⟩
       rw [List.any_eq_false] at hb
       exact hb t ht (by rw [e]; simp)) hch
     obtain ⟨st', hx1, hx2⟩ := hx st (fun t ht => (q2 t ht).symm) q1.symm
     unfold wpOp
     rw [h2]
     obtain ⟨hw, hgo⟩ := hx1.run R n ds a w (wpAny P .any ops Q fuel (listed.setIfInBounds i true)) Q rfl hr hx2
     dsimp only
     rw [if_pos hw]
     exact .inl hgo
end
theorem W.panR {P : Go.Program} {T : Tab} (hT : T.Ok P) {R : Ref} {n : Nat} {ds : List Deferred} {ops : Array Oper} {ch : List PanicEntry} {base id : Nat} {st : St} {K : Exit → St → Prop} (p : Nat) {op : Oper} (hd : dstOk n ops = true) (hop : ops[p]? = some op)
 (h : RunK P T R.keep base ops (ops.toList.take p) st (fun st1 => ∃ st2, XS P T R.keep ops op st1 ch st2 ∧ K (.panic ch) st2)) : W P R n ds st (.region id ops false) K := by
 obtain ⟨st1, h1, st2, h2, h3⟩ := h
 refine W.pan hT (base := base) hd ⟨ops.toList.take p, op, ops.toList.drop (p + 1), st1, st2, ?_, h1, h2, h3⟩
 have hlt := (Array.getElem?_eq_some_iff.1 hop).1
 have : ops.toList[p]? = some op := by rw [Array.getElem?_toList]; exact hop
 obtain ⟨hl, he⟩ := List.getElem?_eq_some_iff.1 this
 rw [← he, ← List.drop_eq_getElem_cons hl, List.take_append_drop]
theorem W.panD' {P : Go.Program} {T : Tab} (hT : T.Ok P) {R : Ref} {n : Nat} {ds : List Deferred} {ops : Array Oper} {ch : List PanicEntry} {base id : Nat} {st : St} {K : Exit → St → Prop} (p : Nat) (need : List Nat) {op : Oper} (hm : P.follows .mixedOrders = true) (hok : okPan T ops p need = true) (hd : dstOk n ops = true) (hop : ops[p]? = some op)
 (h : RunK P T R.keep base ops (ops.toList.take p) st (fun stp => ∀ st', (∀ t ∈ need, st'.s t = stp.s t) → st'.m = stp.m → ∃ st2, XS P T R.keep ops op st' ch st2 ∧ K (.panic ch) st2)) : W P R n ds st (.region id ops true) K := fun a w hr => by
 obtain ⟨stp, h1, hx⟩ := h
 have hp : p < ops.size := (Array.getElem?_eq_some_iff.1 hop).1
 have hch : Chain P T R.keep base ops (List.range p) st stp := by
  have h1 := runl_chain (P := P) (T := T) (kp := R.keep) (base := base) (ops := ops) (k := 0) (l := ops.toList.take p) (fun j x hx => by
   rw [Nat.zero_add, ← Array.getElem?_toList]
   rw [List.getElem?_take] at hx
   split at hx
   ·exact hx
   ·cases hx) h1
  have h2 : (ops.toList.take p).length = p := by rw [List.length_take, Array.length_toList]; omega
  rw [h2] at h1
  rw [List.range_eq_range']; exact h1
 refine wp_region_any hm (anyx_snd (ch := ch) hT hok (dstOk_spec hd) hop (fun st' h1 h2 => ?_) _ _ (List.range p) st a _ ?_ (by simp) List.pairwise_lt_range (fun i => ?_) ?_ (closed_none rfl) (hr.below (Below.refl _ _).drew) hch)
 ·obtain ⟨st2, h3, h4⟩ := hx st' h1 h2
  exact ⟨st2, h3, fun a w hr' => ⟨st2, h4, hr'⟩⟩
 ·simp; omega
 ·rw [List.mem_range]
  refine ⟨fun hi => ⟨hi, ?_⟩, fun hi => hi.1⟩
  have : i < ops.size := by omega
  simp [this]
 ·simp [hp]
def TOk (P : Go.Program) (f : FuncId) (args : List A) (m : Mem) (ch : List PanicEntry) : Option A → Prop
 | some r => COk P f args m r
 | none => XOk P f args m ch
theorem ok_both {P : Go.Program} {T : Tab} (hT : T.Ok P) {f : FuncId} {fn : Func} {c : Code} {l : List ResultVar} {args : List A} {ch : List PanicEntry} (r : Option A) (hf : P.funcs[f]? = some fn) (hn : (fn.name == "runtime.NumGoroutine") = false) (hb : fn.body = some c) (hl : fn.results.toList = l) (hd : args.all (fun a => a.ids.isEmpty && !(match a with | .defs _ => true | _ => false)) = true) (hr : ∀ x, r = some x → x.ids = []) (hle : decide (args.length ≤ fn.ntmps ∧ fn.ntmps ≤ DID) = true)
 (hW : ∀ R : Ref, R.keep = (fun _ => False) → W P R fn.ntmps [] ⟨entry args, Mem.nil⟩ c (fun e st => dfs (st.s DID) = [] ∧ match r with | some x => (e = .normal ∨ e = .ret) ∧ resA T st l = some x | none => e = .panic ch)) (m : Mem) : TOk P f args m ch r := by
 cases r with
 | some x => exact ok_pure hT hf hn hb hl hd (hr x rfl) hle (fun R hR => W.mono (hW R hR) fun e st ⟨h1, h2, h3⟩ => ⟨h2, h1, h3⟩) m
 | none => exact ok_pan hT hf hn hb hd hle (fun R hR => W.mono (hW R hR) fun e st ⟨h1, h2⟩ => ⟨h2, h1⟩) m
end V
end Go.Proofs.YthhpcjoaogmhbaaGreatDoor
end
section
namespace Go.Proofs.YthhpcjoaogmhbaaGreatDoor
namespace V
open Go.RowKit
theorem treeErr_wf (b : Bool) : (Lit.int .i64 (treeErr b)).wf = true := by cases b <;> decide
theorem refTree_ok (p : Program) (m : Mem) : COk Tryz.prog 17 [.agg (cProg p)] m (.c (.int .i64 (treeErr (checkB p)))) := by
 refine ⟨enters_of Tryz.func17 (by kernel_rfl) rfl, rfl, fun m' _ => ?_⟩
 intro w0 I0 B I w vals hm hv
 match vals, hv with
 | [v], ⟨h1, _⟩ =>
   obtain ⟨d, hp⟩ := rprog_of hm.there h1
   refine (refCheck_any d w v p hp).mono ?_
   rintro e w' ⟨rfl, hb⟩
   exact ⟨_, I, rfl, hb, fun _ _ k => k, fun _ _ k => .inl k, .int (treeErr_wf _)⟩
theorem tree_ok (p : Program) (m : Mem) : COk Tryz.prog 25 [.agg (cProg p)] m (.c (.int .i64 (treeErr (checkB p)))) := by
 refine ⟨enters_of Tryz.func25 (by kernel_rfl) rfl, rfl, fun m' _ => ?_⟩
 intro w0 I0 B I w vals hm hv
 match vals, hv with
 | [v], ⟨h1, _⟩ =>
   obtain ⟨d, hp⟩ := rprog_of hm.there h1
   refine (check_any d w v p hm.globNow.max hp).mono ?_
   rintro e w' ⟨rfl, hb⟩
   exact ⟨_, I, rfl, hb, fun _ _ k => k, fun _ _ k => .inl k, .int (treeErr_wf _)⟩
end V
end Go.Proofs.YthhpcjoaogmhbaaGreatDoor
end
section
namespace Go.Proofs.YthhpcjoaogmhbaaGreatDoor
namespace V
theorem toList_loop (bs : ByteArray) : ∀ (n i : Nat) (r : List UInt8), bs.size - i = n → ByteArray.toList.loop bs i r = r.reverse ++ bs.data.toList.drop i := by
 intro n
 induction n with
 | zero =>
   intro i r h
   unfold ByteArray.toList.loop
   have : ¬ i < bs.size := by omega
   rw [if_neg this, List.drop_eq_nil_of_le (by rw [Array.length_toList]; show bs.size ≤ i; omega)]
   simp
 | succ n ih =>
   intro i r h
   have hi : i < bs.size := by omega
   unfold ByteArray.toList.loop
   rw [if_pos hi, ih (i + 1) _ (by omega)]
   have hl : i < bs.data.toList.length := by rw [Array.length_toList]; exact hi
   rw [List.drop_eq_getElem_cons hl]
   have : bs.get! i = bs.data.toList[i] := by
    have hi' : i < bs.data.size := hi
    show bs.data[i]! = _
    rw [getElem!_pos bs.data i hi']; simp
   rw [this]; simp
theorem toList_data (s : ByteArray) : s.toList = s.data.toList := by
 unfold ByteArray.toList
 rw [toList_loop s _ 0 [] rfl]; simp
theorem toList_inj {a b : ByteArray} : a.toList = b.toList ↔ a = b := by
 rw [toList_data, toList_data]
 refine ⟨fun h => ?_, fun h => by rw [h]⟩
 cases a; cases b
 simpa using h
theorem beq_bytes {a b : ByteArray} : (a.toList == b.toList) = true ↔ a = b := by rw [beq_iff_eq, toList_inj]
theorem onceB_iff {l : List ByteArray} : onceB l = true ↔ l.Nodup := by
 unfold onceB
 rw [decide_eq_true_eq]
 have e : (fun s : ByteArray => s.data.toList) = ByteArray.toList := funext fun s => (toList_data s).symm
 rw [e]
 exact ⟨fun h => (List.pairwise_map.1 h).imp fun hab e => hab (by rw [e]), fun h => List.Pairwise.map _ (fun a b hab hc => hab (toList_inj.1 hc)) h⟩
def chainC (cs : List Class) : Nat → ByteArray → List Class
 | 0, _ => []
 | k + 1, name => match cs.find? (nameIs name) with
   | none => []
   | some c => c :: chainC cs k c.super
theorem named_name : namedB = nameIs := rfl
theorem find_name {cs : List Class} {name : ByteArray} {c : Class} (h : cs.find? (nameIs name) = some c) : c.name = name ∧ c ∈ cs := by
 refine ⟨?_, List.mem_of_find?_eq_some h⟩
 have := List.find?_some h
 exact beq_bytes.1 this
theorem findJ_find (cs : List Class) (name : ByteArray) : (∀ j, findJ cs name = some j → cs[j]? = cs.find? (nameIs name) ∧ (cs.find? (nameIs name)).isSome = true) ∧ (findJ cs name = none → cs.find? (nameIs name) = none) := by
 obtain ⟨h1, h2⟩ := idx_find (namedB name) cs
 rw [named_name] at h1 h2
 unfold findJ
 rw [named_name]
 refine ⟨fun j hj => ?_, fun h => ?_⟩
 ·split at hj
  ·rename_i hi
   cases hj
   obtain ⟨x, hx, -⟩ := idxB_spec (nameIs name) cs hi
   exact ⟨h2 hi, by rw [← h2 hi, hx]; rfl⟩
  ·cases hj
 ·split at h
  ·cases h
  ·rename_i hi; exact h1 (by omega)
theorem upX_chain (cs : List Class) : ∀ (k m : Nat) (name : ByteArray), ∃ f : Nat → Nat, upX cs k m name = (List.range (chainC cs k name).length).map (fun i => (m + i, f i)) ∧ ∀ i, i < (chainC cs k name).length → cs[f i]? = (chainC cs k name)[i]?
 | 0, m, name => ⟨fun _ => 0, rfl, fun i h => by simp [chainC] at h⟩
 | k + 1, m, name => by
   obtain ⟨h1, h2⟩ := findJ_find cs name
   unfold upX
   cases hj : findJ cs name with
   | none =>
     have := h2 hj
     exact ⟨fun _ => 0, by simp [chainC, this], fun i h => by simp [chainC, this] at h⟩
   | some j =>
     obtain ⟨h3, h4⟩ := h1 j hj
     obtain ⟨c, hc⟩ := Option.isSome_iff_exists.1 h4
     rw [hc] at h3
     have hs : superOf cs j = c.super := by simp [superOf, h3]
     obtain ⟨f, h5, h6⟩ := upX_chain cs k (m + 1) c.super
     refine ⟨fun i => if i = 0 then j else f (i - 1), ?_, fun i hi => ?_⟩
     ·dsimp only
      rw [hs, h5]
      simp only [chainC, hc, List.length_cons, List.range_succ_eq_map, List.map_cons, List.map_map]
      congr 1
      refine List.map_congr_left fun i _ => ?_
      simp [Nat.add_assoc, Nat.add_comm 1 i]
     ·simp only [chainC, hc, List.length_cons] at hi ⊢
      cases i with
      | zero => simpa using h3
      | succ i => simpa using h6 i (by omega)
theorem chainF_chain (cs : List Class) : ∀ (k : Nat) (name : ByteArray), chainF cs k name = (chainC cs k name).map (·.name)
 | 0, _ => rfl
 | k + 1, name => by
   unfold chainF chainC
   cases h : cs.find? (nameIs name) with
   | none => rfl
   | some c => simp [chainF_chain cs k c.super, (find_name h).1]
theorem chainC_mem (cs : List Class) : ∀ (k : Nat) (name : ByteArray), ∀ d ∈ chainC cs k name, d ∈ cs ∧ cs.find? (nameIs d.name) = some d
 | 0, _, d, hd => by simp [chainC] at hd
 | k + 1, name, d, hd => by
   unfold chainC at hd
   cases h : cs.find? (nameIs name) with
   | none => rw [h] at hd; simp at hd
   | some c =>
     rw [h] at hd
     rcases List.mem_cons.1 hd with rfl | hd
     ·obtain ⟨h1, h2⟩ := find_name h
      exact ⟨h2, by rw [h1]; exact h⟩
     ·exact chainC_mem cs k c.super d hd
theorem chainC_more (cs : List Class) : ∀ (k a : Nat) (name : ByteArray), (chainC cs k name).length < k → chainC cs (k + a) name = chainC cs k name
 | 0, a, name, h => by omega
 | k + 1, a, name, h => by
   rw [Nat.add_right_comm]
   unfold chainC at h ⊢
   cases hf : cs.find? (nameIs name) with
   | none => rfl
   | some c =>
     rw [hf] at h
     simp only [List.length_cons] at h
     simp only
     rw [chainC_more cs k a c.super (by omega)]
theorem chainC_drop (cs : List Class) : ∀ (k i : Nat) (name : ByteArray) (d : Class), (chainC cs k name)[i]? = some d → (chainC cs k name).drop i = chainC cs (k - i) d.name
 | 0, i, name, d, h => by simp [chainC] at h
 | k + 1, 0, name, d, h => by
   rw [List.drop_zero, Nat.sub_zero]
   unfold chainC at h ⊢
   cases hf : cs.find? (nameIs name) with
   | none => rw [hf] at h; simp at h
   | some c =>
     rw [hf] at h
     simp at h; subst h
     rw [(find_name hf).1, hf]
 | k + 1, i + 1, name, d, h => by
   cases hf : cs.find? (nameIs name) with
   | none => simp [chainC, hf] at h
   | some c =>
     have e : chainC cs (k + 1) name = c :: chainC cs k c.super := by
      conv => lhs; unfold chainC
      rw [hf]
     rw [e] at h ⊢
     rw [List.getElem?_cons_succ] at h
     rw [List.drop_succ_cons, Nat.add_sub_add_right]
     exact chainC_drop cs k i c.super d h
theorem classD_of {cs : List Class} {d : Class} (h : cs.find? (nameIs d.name) = some d) : classD cs d.name = d := by unfold classD; rw [h]; rfl
theorem likeB_alike (x y : Method) : likeB x y = alikeB x y := rfl
theorem alike_refl (x : Method) : alikeB x x = true := by simp [alikeB]
theorem alike_iff {x y : Method} : alikeB x y = true ↔ x.type.toList = y.type.toList ∧ typesOf x.params = typesOf y.params := by simp [alikeB]
theorem alike_trans {x y z : Method} (h : alikeB x y = true) (k : alikeB y z = true) : alikeB x z = true := by
 rw [alike_iff] at *; exact ⟨h.1.trans k.1, h.2.trans k.2⟩
theorem upX_all {cs : List Class} {c : Class} (k m : Nat) (name : ByteArray) : (upX cs k m name).all (roundB cs c) = true ↔ ∀ i d, (chainC cs k name)[i]? = some d → topB cs c (m + i) d = true := by
 obtain ⟨f, h1, h2⟩ := upX_chain cs k m name
 rw [h1, List.all_eq_true]
 constructor
 ·intro h i d hd
  have hi := (List.getElem?_eq_some_iff.1 hd).1
  have := h (m + i, f i) (List.mem_map.2 ⟨i, List.mem_range.2 hi, rfl⟩)
  rwa [roundB_at ((h2 i hi).trans hd)] at this
 ·intro h x hx
  obtain ⟨i, hi, rfl⟩ := List.mem_map.1 hx
  have hi := List.mem_range.1 hi
  have hd := List.getElem?_eq_getElem hi
  rw [roundB_at ((h2 i hi).trans hd)]
  exact h i _ hd
theorem fieldsUp_chain (cs : List Class) (k m : Nat) (name : ByteArray) : fieldsUp cs (upX cs k m name) = (chainC cs k name).flatMap fun d => namesL d.fields := by
 obtain ⟨f, h1, h2⟩ := upX_chain cs k m name
 rw [h1]
 unfold fieldsUp
 have : ∀ (l : List Class), (∀ i, i < l.length → cs[f i]? = l[i]?) → ((List.range l.length).map fun i => (m + i, f i)).flatMap (fieldsAt cs) = l.flatMap fun d => namesL d.fields := by
  intro l h
  have e : (List.range l.length).map (fun i => fieldsAt cs (m + i, f i)) = l.map fun d => namesL d.fields := by
   refine List.ext_getElem? fun i => ?_
   by_cases hi : i < l.length
   ·simp only [List.getElem?_map, List.getElem?_range hi, Option.map_some]
    rw [List.getElem?_eq_getElem hi]
    simp [fieldsAt, h i hi, List.getElem?_eq_getElem hi]
   ·rw [List.getElem?_eq_none (by simpa using Nat.not_lt.1 hi), List.getElem?_eq_none (by simpa using Nat.not_lt.1 hi)]
  rw [List.flatMap_def, List.map_map, List.flatMap_def]
  exact congrArg List.flatten e
 exact this _ h2
theorem twice_iff (l : List Slot) : twiceB l = false ↔ (namesL l).Nodup := by
 unfold twiceB namesL
 rw [List.any_eq_false, List.Nodup, List.pairwise_map, List.pairwise_iff_getElem]
 constructor
 ·intro h i j hi hj hij e
  have h1 := h j (List.mem_range.2 hj)
  refine h1 (List.any_eq_true.2 ⟨i, List.mem_range.2 hij, ?_⟩)
  simp [eqAt, List.getElem?_eq_getElem hi, List.getElem?_eq_getElem hj, e]
 ·intro h j hj hc
  have hj := List.mem_range.1 hj
  obtain ⟨i, hi, he⟩ := List.any_eq_true.1 hc
  have hij := List.mem_range.1 hi
  have hil : i < l.length := by omega
  have hne := h i j hil hj hij
  simp only [eqAt, List.getElem?_eq_getElem hil, List.getElem?_eq_getElem hj] at he
  exact hne (beq_bytes.1 he).symm
theorem nodup_rows {α : Type} (l : List α) (g : α → ByteArray) : (∀ i x, l[i]? = some x → ((l.take i).any fun o => (g o).toList == (g x).toList) = false) ↔ (l.map g).Nodup := by
 rw [List.Nodup, List.pairwise_map, List.pairwise_iff_getElem]
 constructor
 ·intro h i j hi hj hij e
  have h1 := h j l[j] (List.getElem?_eq_getElem hj)
  rw [List.any_eq_false] at h1
  refine h1 l[i] ?_ (beq_bytes.2 e)
  refine List.mem_of_getElem? (i := i) ?_
  rw [List.getElem?_take, if_pos hij]
  exact List.getElem?_eq_getElem hi
 ·intro h j x hx
  rw [List.any_eq_false]
  intro o ho hc
  obtain ⟨i, hi⟩ := List.getElem?_of_mem ho
  rw [List.getElem?_take] at hi
  split at hi
  ·rename_i hij
   have hj := (List.getElem?_eq_some_iff.1 hx).1
   have hil := (List.getElem?_eq_some_iff.1 hi).1
   have e1 : l[i] = o := (List.getElem?_eq_some_iff.1 hi).2
   have e2 : l[j] = x := (List.getElem?_eq_some_iff.1 hx).2
   have := h i j hil hj hij
   rw [e1, e2] at this
   exact this (beq_bytes.1 hc)
  ·cases hi
def nextM (name : ByteArray) : List Class → Option Method
 | [] => none
 | d :: l => match d.methods.find? (methIs name) with | some x => some x | none => nextM name l
theorem methodF_next {cs : List Class} (name : ByteArray) : ∀ l : List Class, (∀ d ∈ l, cs.find? (nameIs d.name) = some d) → (methodF cs name (l.map (·.name))).map (·.1) = nextM name l
 | [], _ => rfl
 | d :: l, h => by
   simp only [List.map_cons, methodF, nextM]
   rw [classD_of (h d (by simp))]
   cases d.methods.find? (methIs name) with
   | some x => rfl
   | none => exact methodF_next name l fun d hd => h d (List.mem_cons_of_mem _ hd)
structure Same0 (cs : List Class) : Prop where
 names : (cs.map (·.name)).Nodup
 sup : ∀ c ∈ cs, c.super.toList = [] ∨ (cs.find? (nameIs c.super)).isSome = true
 len : ∀ c ∈ cs, (chainC cs (cs.length + 1) c.name).length ≤ cs.length
 fields : ∀ c ∈ cs, ((chainC cs (cs.length + 1) c.name).flatMap fun d => namesL d.fields).Nodup
 own : ∀ c ∈ cs, (c.methods.map (·.name)).Nodup
 params : ∀ c ∈ cs, ∀ m ∈ c.methods, (namesL m.params).Nodup
def RefM (cs : List Class) : Prop := ∀ c ∈ cs, ∀ m ∈ c.methods, ∀ o, nextM m.name ((chainC cs (cs.length + 1) c.name).drop 1) = some o → alikeB m o = true
def ProgM (cs : List Class) : Prop := ∀ c ∈ cs, ∀ m ∈ c.methods, ∀ (i : Nat) d, (chainC cs (cs.length + 1) c.name)[i]? = some d → fitsB m d.methods = true
theorem find_uniq {cs : List Class} (h : (cs.map (·.name)).Nodup) {c : Class} (hc : c ∈ cs) : cs.find? (nameIs c.name) = some c := by
 obtain ⟨d, hd⟩ := find_self hc
 rw [hd]
 obtain ⟨h1, h2⟩ := find_name hd
 obtain ⟨i, hi⟩ := List.getElem?_of_mem hc
 obtain ⟨j, hj⟩ := List.getElem?_of_mem h2
 have hi' := (List.getElem?_eq_some_iff.1 hi)
 have hj' := (List.getElem?_eq_some_iff.1 hj)
 rw [List.Nodup, List.pairwise_map, List.pairwise_iff_getElem] at h
 rcases Nat.lt_trichotomy i j with hij | hij | hij
 ·exact absurd (by rw [hi'.2, hj'.2]; exact h1.symm) (h i j hi'.1 hj'.1 hij)
 ·subst hij; rw [hi] at hj; exact hj.symm
 ·exact absurd (by rw [hi'.2, hj'.2]; exact h1) (h j i hj'.1 hi'.1 hij)
theorem next_at {name : ByteArray} : ∀ {l : List Class} {o : Method}, nextM name l = some o → ∃ (i : Nat) (d : Class), l[i]? = some d ∧ d.methods.find? (methIs name) = some o ∧ ∀ j e, j < i → l[j]? = some e → e.methods.find? (methIs name) = none
 | [], o, h => by cases h
 | d :: l, o, h => by
   simp only [nextM] at h
   cases hf : d.methods.find? (methIs name) with
   | some x => rw [hf] at h; cases h; exact ⟨0, d, rfl, hf, fun j e hj => by omega⟩
   | none =>
     rw [hf] at h
     obtain ⟨i, e, h1, h2, h3⟩ := next_at h
     refine ⟨i + 1, e, by simpa using h1, h2, fun j f hj he => ?_⟩
     cases j with
     | zero => simp at he; subst he; exact hf
     | succ j => exact h3 j f (by omega) (by simpa using he)
theorem next_some {name : ByteArray} : ∀ {l : List Class} {i : Nat} {d : Class} {o : Method}, l[i]? = some d → d.methods.find? (methIs name) = some o → ∃ o', nextM name l = some o'
 | [], i, d, o, h, _ => by simp at h
 | e :: l, 0, d, o, h, k => by simp at h; subst h; exact ⟨o, by simp [nextM, k]⟩
 | e :: l, i + 1, d, o, h, k => by
   simp only [nextM]
   cases e.methods.find? (methIs name) with
   | some x => exact ⟨x, rfl⟩
   | none => exact next_some (by simpa using h) k
theorem meth_of {l : List Method} {name : ByteArray} {o : Method} (h : l.find? (methIs name) = some o) : o ∈ l ∧ o.name = name := ⟨List.mem_of_find?_eq_some h, by have := List.find?_some h; exact beq_bytes.1 this⟩
theorem meth_uniq {l : List Method} (h : (l.map (·.name)).Nodup) {m : Method} (hm : m ∈ l) : l.find? (methIs m.name) = some m := by
 cases hf : l.find? (methIs m.name) with
 | none =>
   have := List.find?_eq_none.1 hf m hm
   simp [methIs] at this
 | some o =>
   obtain ⟨h1, h2⟩ := meth_of hf
   obtain ⟨i, hi⟩ := List.getElem?_of_mem hm
   obtain ⟨j, hj⟩ := List.getElem?_of_mem h1
   have hi' := (List.getElem?_eq_some_iff.1 hi)
   have hj' := (List.getElem?_eq_some_iff.1 hj)
   rw [List.Nodup, List.pairwise_map, List.pairwise_iff_getElem] at h
   rcases Nat.lt_trichotomy i j with hij | hij | hij
   ·exact absurd (by rw [hi'.2, hj'.2]; exact h2.symm) (h i j hi'.1 hj'.1 hij)
   ·subst hij; rw [hi] at hj; exact hj.symm
   ·exact absurd (by rw [hi'.2, hj'.2]; exact h2) (h j i hj'.1 hi'.1 hij)
theorem fits_iff {m : Method} {l : List Method} : fitsB m l = true ↔ ∀ o, l.find? (methIs m.name) = some o → alikeB m o = true := by
 unfold fitsB
 have e : methB m.name = methIs m.name := rfl
 rw [e]
 cases l.find? (methIs m.name) with
 | none => simp
 | some o => simp
theorem refM_progM {cs : List Class} (h0 : Same0 cs) : RefM cs ↔ ProgM cs := by
 constructor
 ·intro hR
  -- by how far above it stands
  have key : ∀ n, ∀ c ∈ cs, ∀ m ∈ c.methods, ∀ (i : Nat) d, i ≤ n → (chainC cs (cs.length + 1) c.name)[i]? = some d → fitsB m d.methods = true := by
   intro n
   induction n with
   | zero =>
     intro c hc m hm i d hi hd
     obtain rfl : i = 0 := by omega
     have hf := find_uniq h0.names hc
     have : d = c := by
      have h1 : chainC cs (cs.length + 1) c.name = c :: chainC cs cs.length c.super := by
       conv => lhs; unfold chainC
       rw [hf]
      rw [h1] at hd
      simpa using hd.symm
     subst this
     rw [fits_iff]
     intro o ho
     rw [meth_uniq (h0.own d hc) hm] at ho
     cases ho
     exact alike_refl m
   | succ n ih =>
     intro c hc m hm i d hi hd
     rcases Nat.lt_or_ge i (n + 1) with h1 | h1
     ·exact ih c hc m hm i d (by omega) hd
     ·obtain rfl : i = n + 1 := by omega
      rw [fits_iff]
      intro o ho
      have hd1 : ((chainC cs (cs.length + 1) c.name).drop 1)[n]? = some d := by rw [List.getElem?_drop, Nat.add_comm 1 n]; exact hd
      obtain ⟨o', ho'⟩ := next_some hd1 ho
      have hlike := hR c hc m hm o' ho'
      obtain ⟨q, e, he, hf, hbefore⟩ := next_at ho'
      rw [List.getElem?_drop] at he
      rcases Nat.lt_trichotomy q n with hq | hq | hq
      ·-- the next one stands below: from there on
       obtain ⟨hem, hef⟩ := chainC_mem cs _ _ e (List.mem_of_getElem? he)
       obtain ⟨ho1, ho2⟩ := meth_of hf
       have hdr := chainC_drop cs (cs.length + 1) (1 + q) c.name e he
       have hlen := h0.len c hc
       have hmore : chainC cs (cs.length + 1) e.name = (chainC cs (cs.length + 1) c.name).drop (1 + q) := by
        rw [hdr]
        have hl : (chainC cs (cs.length + 1 - (1 + q)) e.name).length < cs.length + 1 - (1 + q) := by
         rw [← hdr, List.length_drop]
         have := (List.getElem?_eq_some_iff.1 he).1
         omega
        have := chainC_more cs (cs.length + 1 - (1 + q)) (1 + q) e.name hl
        rw [show cs.length + 1 - (1 + q) + (1 + q) = cs.length + 1 by have := (List.getElem?_eq_some_iff.1 he).1; omega] at this
        exact this
       have hd2 : (chainC cs (cs.length + 1) e.name)[n + 1 - (1 + q)]? = some d := by
        rw [hmore, List.getElem?_drop]
        rw [show 1 + q + (n + 1 - (1 + q)) = n + 1 by omega]
        exact hd
       have := ih e hem o' ho1 (n + 1 - (1 + q)) d (by omega) hd2
       rw [fits_iff, ho2] at this
       exact alike_trans hlike (this o ho)
      ·subst hq
       rw [Nat.add_comm 1 q] at he
       rw [hd] at he
       cases he
       rw [hf] at ho
       cases ho
       exact hlike
      ·have := hbefore n d hq hd1
       rw [this] at ho
       cases ho
  exact fun c hc m hm i d hd => key i c hc m hm i d (Nat.le_refl _) hd
 ·intro hP c hc m hm o ho
  obtain ⟨i, d, h1, h2, -⟩ := next_at ho
  rw [List.getElem?_drop] at h1
  have := hP c hc m hm _ d h1
  rw [fits_iff] at this
  exact this o h2
end V
end Go.Proofs.YthhpcjoaogmhbaaGreatDoor
end
section
namespace Go.Proofs.YthhpcjoaogmhbaaGreatDoor
namespace V
theorem names_iff {cs : List Class} : namesB cs = true ↔ (cs.map (·.name)).Nodup ∧ ∀ c ∈ cs, c.super.toList = [] ∨ (cs.find? (nameIs c.super)).isSome = true := by
 rw [← nodup_rows]
 unfold namesB
 rw [List.all_eq_true]
 have row : ∀ i c, cs[i]? = some c → (nameRowB cs i = true ↔ ((cs.take i).any fun o => o.name.toList == c.name.toList) = false ∧ (c.super.toList = [] ∨ (cs.find? (nameIs c.super)).isSome = true)) := by
  intro i c hc
  have e : ((cs.take i).any fun d => c.name.toList == d.name.toList) = ((cs.take i).any fun o => o.name.toList == c.name.toList) := by
   congr 1; funext d; exact BEq.comm
  unfold nameRowB
  rw [hc]
  dsimp only
  rw [e]
  simp only [Bool.and_eq_true, Bool.not_eq_true', Bool.or_eq_true, beq_iff_eq]
 constructor
 ·intro h
  refine ⟨fun i c hc => ((row i c hc).1 (h i (List.mem_range.2 (List.getElem?_eq_some_iff.1 hc).1))).1, fun c hm => ?_⟩
  obtain ⟨i, hc⟩ := List.getElem?_of_mem hm
  exact ((row i c hc).1 (h i (List.mem_range.2 (List.getElem?_eq_some_iff.1 hc).1))).2
 ·rintro ⟨h1, h2⟩ i hi
  have hc := List.getElem?_eq_getElem (List.mem_range.1 hi)
  exact (row i _ hc).2 ⟨h1 i _ hc, h2 _ (List.mem_of_getElem? hc)⟩
theorem fieldsF_perm {cs : List Class} (l : List Class) (h : ∀ d ∈ l, cs.find? (nameIs d.name) = some d) : (namesL (fieldsF cs (l.map (·.name)))).Nodup ↔ (l.flatMap fun d => namesL d.fields).Nodup := by
 have e : namesL (fieldsF cs (l.map (·.name))) = l.reverse.flatMap fun d => namesL d.fields := by
  unfold fieldsF namesL
  rw [← List.map_reverse, List.map_flatMap, List.flatMap_map]
  have : ∀ l' : List Class, (∀ d ∈ l', d ∈ l) → (l'.flatMap fun d => ((classD cs d.name).fields.map (·.name))) = l'.flatMap fun d => d.fields.map (·.name) := by
   intro l'
   induction l' with
   | nil => intro _; rfl
   | cons d l' ih =>
     intro hm
     rw [List.flatMap_cons, List.flatMap_cons, ih fun x hx => hm x (List.mem_cons_of_mem _ hx), classD_of (h d (hm d (by simp)))]
  exact this _ fun d hd => List.mem_reverse.1 hd
 rw [e]
 exact (List.Perm.flatMap_right _ (List.reverse_perm l)).nodup_iff
theorem methods_iff {cs : List Class} (k : Nat) (name : ByteArray) (j : Nat) (l : List Method) : methodsB cs ((chainF cs k name).drop j) l = true ↔ (l.map (·.name)).Nodup ∧ ∀ m ∈ l, (namesL m.params).Nodup ∧ ∀ o, nextM m.name ((chainC cs k name).drop j) = some o → alikeB m o = true := by
 rw [← nodup_rows, chainF_chain, ← List.map_drop]
 have hmem : ∀ d ∈ (chainC cs k name).drop j, cs.find? (nameIs d.name) = some d := fun d hd => (chainC_mem cs k name d (List.mem_of_mem_drop hd)).2
 generalize (chainC cs k name).drop j = ab at hmem ⊢
 unfold methodsB
 rw [List.all_eq_true]
 have row : ∀ i x, l[i]? = some x → (methRowB cs (ab.map (·.name)) l i = true ↔ ((l.take i).any fun o => o.name.toList == x.name.toList) = false ∧ (namesL x.params).Nodup ∧ ∀ o, nextM x.name ab = some o → alikeB x o = true) := by
  intro i x hx
  have hn := methodF_next x.name ab hmem
  unfold methRowB
  rw [hx]
  dsimp only
  rw [← twice_iff]
  cases hm : methodF cs x.name (ab.map (·.name)) with
  | none =>
    rw [hm] at hn
    rw [← hn]
    simp
  | some q =>
    rw [hm] at hn
    rw [← hn]
    obtain ⟨o, n⟩ := q
    simp only [Option.map_some, Bool.and_eq_true, Bool.not_eq_true', Bool.or_eq_false_iff, Option.some.injEq, forall_eq', Bool.not_eq_false', likeB_alike]
    constructor
    ·rintro ⟨a, b, c⟩; exact ⟨a, c, b⟩
    ·rintro ⟨a, b, c⟩; exact ⟨a, c, b⟩
 constructor
 ·intro h
  refine ⟨fun i x hx => ((row i x hx).1 (h i (List.mem_range.2 (List.getElem?_eq_some_iff.1 hx).1))).1, fun x hm => ?_⟩
  obtain ⟨i, hx⟩ := List.getElem?_of_mem hm
  exact ((row i x hx).1 (h i (List.mem_range.2 (List.getElem?_eq_some_iff.1 hx).1))).2
 ·rintro ⟨h1, h2⟩ i hi
  have hx := List.getElem?_eq_getElem (List.mem_range.1 hi)
  exact (row i _ hx).2 ⟨h1 i _ hx, h2 _ (List.mem_of_getElem? hx)⟩
theorem ref_iff {cs : List Class} : (namesB cs = true ∧ (List.range cs.length).all (classRowB cs) = true) ↔ Same0 cs ∧ RefM cs := by
 rw [names_iff, List.all_eq_true]
 have row : ∀ i c, cs[i]? = some c → (classRowB cs i = true ↔ (chainC cs (cs.length + 1) c.name).length ≤ cs.length ∧ ((chainC cs (cs.length + 1) c.name).flatMap fun d => namesL d.fields).Nodup ∧ (c.methods.map (·.name)).Nodup ∧ ∀ m ∈ c.methods, (namesL m.params).Nodup ∧ ∀ o, nextM m.name ((chainC cs (cs.length + 1) c.name).drop 1) = some o → alikeB m o = true) := by
  intro i c hc
  unfold classRowB
  rw [hc]
  dsimp only
  rw [Bool.and_eq_true, methods_iff, Bool.not_eq_true', Bool.or_eq_false_iff, twice_iff, chainF_chain, List.length_map, decide_eq_false_iff_not, Nat.not_lt,
   fieldsF_perm _ (fun d hd => (chainC_mem cs _ _ d hd).2), and_assoc]
 constructor
 ·rintro ⟨⟨h1, h2⟩, h3⟩
  have R := fun c (hm : c ∈ cs) => (List.getElem?_of_mem hm).elim fun i hc => (row i c hc).1 (h3 i (List.mem_range.2 (List.getElem?_eq_some_iff.1 hc).1))
  exact ⟨⟨h1, h2, fun c hc => (R c hc).1, fun c hc => (R c hc).2.1, fun c hc => (R c hc).2.2.1, fun c hc m hm => ((R c hc).2.2.2 m hm).1⟩, fun c hc m hm => ((R c hc).2.2.2 m hm).2⟩
 ·rintro ⟨h, hR⟩
  refine ⟨⟨h.names, h.sup⟩, fun i hi => ?_⟩
  have hx := List.getElem?_eq_getElem (List.mem_range.1 hi)
  have hm := List.mem_of_getElem? hx
  exact (row i _ hx).2 ⟨h.len _ hm, h.fields _ hm, h.own _ hm, fun m hmm => ⟨h.params _ hm m hmm, hR _ hm m hmm⟩⟩
theorem chainC_self {cs : List Class} {c : Class} (h : cs.find? (nameIs c.name) = some c) (k : Nat) : chainC cs (k + 1) c.name = c :: chainC cs k c.super := by
 conv => lhs; unfold chainC
 rw [h]
theorem any_named {cs : List Class} {n : ByteArray} : cs.any (namedB n) = true ↔ (cs.find? (nameIs n)).isSome = true := by
 rw [named_name, List.find?_isSome, List.any_eq_true]
theorem top_iff {cs : List Class} {c d : Class} {m : Nat} : topB cs c m d = true ↔ m ≠ cs.length ∧ (d.super.toList = [] ∨ (cs.find? (nameIs d.super)).isSome = true) ∧ ∀ y ∈ c.methods, fitsB y d.methods = true := by
 unfold topB
 rw [Bool.and_eq_true, Bool.and_eq_true, Bool.or_eq_true, any_named, List.all_eq_true, List.isEmpty_iff, Bool.not_eq_true', decide_eq_false_iff_not, and_assoc]
theorem prog_iff {cs : List Class} : (onceB (cs.map (·.name)) = true ∧ ∀ c ∈ cs, okClassB cs c = true) ↔ Same0 cs ∧ ProgM cs := by
 have row : ∀ c, okClassB cs c = true ↔ (∀ i d, (chainC cs (cs.length + 1) c.name)[i]? = some d → topB cs c (0 + i) d = true) ∧ (∀ m ∈ c.methods, (namesL m.params).Nodup) ∧ ((chainC cs (cs.length + 1) c.name).flatMap fun d => namesL d.fields).Nodup ∧ (c.methods.map (·.name)).Nodup := by
  intro c
  unfold okClassB
  rw [Bool.and_eq_true, Bool.and_eq_true, Bool.and_eq_true, upX_all, List.all_eq_true, fieldsUp_chain, onceB_iff, onceB_iff, and_assoc, and_assoc]
  simp only [onceB_iff]
 rw [onceB_iff]
 constructor
 ·rintro ⟨h1, h2⟩
  have R := fun c hc => (row c).1 (h2 c hc)
  refine ⟨⟨h1, fun c hc => ?_, fun c hc => ?_, fun c hc => (R c hc).2.2.1, fun c hc => (R c hc).2.2.2, fun c hc => (R c hc).2.1⟩, fun c hc m hm i d hd => ?_⟩
  ·have hf := find_uniq h1 hc
   have : (chainC cs (cs.length + 1) c.name)[0]? = some c := by rw [chainC_self hf]; rfl
   exact (top_iff.1 ((R c hc).1 0 c this)).2.1
  ·rcases Nat.lt_or_ge cs.length (chainC cs (cs.length + 1) c.name).length with hl | hl
   ·have := (top_iff.1 ((R c hc).1 cs.length _ (List.getElem?_eq_getElem hl))).1
    rw [Nat.zero_add] at this
    exact absurd rfl this
   ·exact hl
  ·exact (top_iff.1 ((R c hc).1 i d hd)).2.2 m hm
 ·rintro ⟨h, hP⟩
  refine ⟨h.names, fun c hc => (row c).2 ⟨fun i d hd => ?_, h.params c hc, h.fields c hc, h.own c hc⟩⟩
  refine top_iff.2 ⟨?_, h.sup d (chainC_mem cs _ _ d (List.mem_of_getElem? hd)).1, fun y hy => hP c hc y hy i d hd⟩
  have := (List.getElem?_eq_some_iff.1 hd).1
  have := h.len c hc
  omega
theorem err_eq (e : Int) (cs : List Class) : chkErr e cs = refErr e cs := by
 have key : (onceB (cs.map (·.name)) = true ∧ ∀ c ∈ cs, okClassB cs c = true) ↔ (namesB cs = true ∧ (List.range cs.length).all (classRowB cs) = true) := by
  rw [ref_iff, prog_iff]
  exact ⟨fun h => ⟨h.1, (refM_progM h.1).2 h.2⟩, fun h => ⟨h.1, (refM_progM h.1).1 h.2⟩⟩
 have ha : (cs.any (fun c => !okClassB cs c) = true) ↔ ¬ ∀ c ∈ cs, okClassB cs c = true := by
  rw [← List.all_eq_true, List.any_eq_not_all_not]
  simp
 unfold chkErr refErr
 split
 ·split
  ·rfl
  ·by_cases h1 : onceB (cs.map (·.name)) = true
   ·rw [if_neg (by rw [h1]; decide)]
    by_cases h2 : ∀ c ∈ cs, okClassB cs c = true
    ·rw [if_neg (fun h => ha.1 h h2)]
     obtain ⟨k1, k2⟩ := key.1 ⟨h1, h2⟩
     rw [if_neg (by rw [k1]; decide), if_pos k2]
    ·rw [if_pos (ha.2 h2)]
     split
     ·rfl
     ·rename_i k1
      rw [if_neg (fun k2 => h2 (key.2 ⟨by simpa using k1, k2⟩).2)]
   ·rw [if_pos (by simpa using h1)]
    split
    ·rfl
    ·rename_i k1
     rw [if_neg (fun k2 => h1 (key.2 ⟨by simpa using k1, k2⟩).1)]
 ·rfl
end V
end Go.Proofs.YthhpcjoaogmhbaaGreatDoor
end
section
namespace Go.Proofs.YthhpcjoaogmhbaaGreatDoor
namespace V
open Go.RowKit
def errP (p : Program) : Int := treeErr (checkB p)
theorem chk_ok (p : Program) (hS : SmallC p.classes) (hlen : p.classes.length ≤ 1048576) (m : Mem) : COk Tryz.prog 12 [.agg (cProg p)] m (.c (.int .i64 (chkErr (errP p) p.classes))) :=
 check_ok p (errP p) hS (by omega) (fun m => tree_ok p m) m
theorem refChk_ok (p : Program) (hS : SmallC p.classes) (hlen : p.classes.length ≤ 1048576) (m : Mem) : COk Tryz.prog 9 [.agg (cProg p)] m (.c (.int .i64 (chkErr (errP p) p.classes))) := by
 rw [err_eq]
 exact refCheck_ok p (errP p) (treeErr_wf _) hS (by omega) (fun m => refTree_ok p m) m
end V
end Go.Proofs.YthhpcjoaogmhbaaGreatDoor
end
section
namespace Go.Proofs.YthhpcjoaogmhbaaGreatDoor
namespace V
open Go.RowKit
abbrev tInt : ByteArray := ⟨#[105, 110, 116]⟩
abbrev tInts : ByteArray := ⟨#[105, 110, 116, 91, 93]⟩
abbrev tNull : ByteArray := ⟨#[110, 117, 108, 108]⟩
def isNm (t : ByteArray) (d : Class) : Bool := d.name.toList == t.toList
def knownR (cs : List Class) (t : ByteArray) : Bool := t.toList == tInt.toList || (t.toList == tInts.toList || cs.any (isNm t))
def fitR (E : Int) (cs : List Class) (a b : ByteArray) : Bool :=
 knownR cs b && (a.toList == b.toList || (if (a.toList == tNull.toList) = true then !(b.toList == tInt.toList) else cs.any (isNm a) && belowR E cs a b))
theorem isNm_ok (d : Class) (t : ByteArray) (m : Mem) : COk Tryz.prog 73 [.agg (cClass d), .rptr [.str t]] m (.c (.bool (isNm t d))) := by
 refine (ok_pure tab_ok Tryz.func73 (by kernel_rfl) rfl rfl (by rfl) (by rfl) (by rfl) (fun R hkeep => ?_) m)
 repeat (first | refine W.seq ?_ | refine W.block ?_ | refine W.skip ?_ | refine W.exit ?_ | refine W.g ?_ zm31q14)
 exact W.ret ⟨.inr rfl, by rfl, (by simp only [Tryz.f73, resA, resOne, toT, fin, exb, Nat.reduceAdd, Nat.reduceLeDiff, Nat.reduceEqDiff, Nat.reduceMul, Int.reduceToNat, reduceIte, Int.reduceLE, Int.reduceNeg, cClass]; rfl)⟩
theorem isClass_ok (cs : List Class) (r : List C) (t : ByteArray) (hlen : cs.length ≤ 1000000000) (m : Mem) : COk Tryz.prog 36 [.rptr (.sl (cs.map cClass) :: r), .c (.str t)] m (.c (.bool (cs.any (isNm t)))) := by
 refine (ok_pure tab_ok Tryz.func36 (by kernel_rfl) rfl rfl (by rfl) (by rfl) (by rfl) (fun R hkeep => ?_) m)
 refine W.go ?_
 refine W.regionK tab_ok 0 (by decide) ?_
 refine xs0 6 ?_
 refine runk_callR rfl rfl rfl rfl rfl (by simp) (cvrs_cons cvr_refl (cvrs_cons (cvr_fn (caps_one rfl rfl)) cvrs_nil)) (by rfl) (by rfl) (anyClass_ok cs 73 [[.str t]] (isNm t) (by omega) (fun x _ m => isNm_ok x t m)) ?_
 refine xe0 ?_
 exact W.ret ⟨.inr rfl, by rfl, (by simp only [Tryz.f36, resA, resOne, toT, fin, exb, Nat.reduceAdd, Nat.reduceLeDiff, Nat.reduceEqDiff, Nat.reduceMul, Int.reduceToNat, reduceIte, Int.reduceLE, Int.reduceNeg])⟩
theorem known_ok (cs : List Class) (r : List C) (t : ByteArray) (hlen : cs.length ≤ 1000000000) (m : Mem) : COk Tryz.prog 24 [.rptr (.sl (cs.map cClass) :: r), .c (.str t)] m (.c (.bool (knownR cs t))) := by
 have hk := isClass_ok cs r t hlen
 unfold knownR
 refine (ok_pure tab_ok Tryz.func24 (by kernel_rfl) rfl rfl (by rfl) (by rfl) (by rfl) (fun R hkeep => ?_) m)
 refine W.go ?_
 cases h1 : (t.toList == tInt.toList) with
 | true =>
   refine W.regionK tab_ok 0 (by decide) ?_
   refine runk_exec (by simp only [exb, Nat.reduceAdd, Nat.reduceLeDiff, Nat.reduceEqDiff, Nat.reduceMul, Int.reduceToNat, reduceIte, Int.reduceLE, Int.reduceNeg, h1]; rfl) ?_
   exact W.ret ⟨.inr rfl, by rfl, (by simp only [Tryz.f24, resA, resOne, toT, fin, exb, Nat.reduceAdd, Nat.reduceLeDiff, Nat.reduceEqDiff, Nat.reduceMul, Int.reduceToNat, reduceIte, Int.reduceLE, Int.reduceNeg, h1]; rfl)⟩
 | false =>
   cases h2 : (t.toList == tInts.toList) with
   | true =>
     refine W.regionK tab_ok 0 (by decide) ?_
     refine runk_exec zm31q15 ?_
     exact W.ret ⟨.inr rfl, by rfl, (by simp only [Tryz.f24, resA, resOne, toT, fin, exb, Nat.reduceAdd, Nat.reduceLeDiff, Nat.reduceEqDiff, Nat.reduceMul, Int.reduceToNat, reduceIte, Int.reduceLE, Int.reduceNeg, h1, h2]; rfl)⟩
   | false =>
     refine W.regionK tab_ok 0 (by decide) ?_
     refine runk_split 9 zm31q15 ?_
     refine runk_call rfl rfl rfl rfl rfl (by simp) cw2 (hk _) ?_
     refine runk_exec zm31q15 ?_
     exact W.ret ⟨.inr rfl, by rfl, (by simp only [Tryz.f24, resA, resOne, toT, fin, exb, Nat.reduceAdd, Nat.reduceLeDiff, Nat.reduceEqDiff, Nat.reduceMul, Int.reduceToNat, reduceIte, Int.reduceLE, Int.reduceNeg]; rfl)⟩
theorem fits_ok (p : Program) (E : Int) (r : List C) (a b : ByteArray) (hlen : p.classes.length ≤ 1000000000) (hchk : ∀ m, COk Tryz.prog 12 [.agg (cProg p)] m (.c (.int .i64 E))) (m : Mem) :
 COk Tryz.prog 41 [.rptr (.sl (p.classes.map cClass) :: .sl (cStmts p.main) :: r), .c (.str a), .c (.str b)] m (.c (.bool (fitR E p.classes a b))) := by
 have hkn := known_ok p.classes (.sl (cStmts p.main) :: r) b hlen
 have hcl := isClass_ok p.classes (.sl (cStmts p.main) :: r) a hlen
 have hbe := fun m => below_ok p E a b (by omega) hchk m
 unfold fitR
 generalize knownR p.classes b = K at hkn
 generalize p.classes.any (isNm a) = L at hcl
 generalize belowR E p.classes a b = B at hbe
 refine (ok_pure tab_ok Tryz.func41 (by kernel_rfl) rfl rfl (by rfl) (by rfl) (by rfl) (fun R hkeep => ?_) m)
 refine W.go ?_
 refine W.regionK tab_ok 0 (by decide) ?_
 refine xs0 2 ?_
 refine runk_call rfl rfl rfl rfl rfl (by simp) cw2 (hkn _) ?_
 refine xe0 ?_
 refine W.cond rfl ?_ ?_
 ·intro h
  obtain rfl : K = false := by simpa using h
  refine W.go ?_
  exact W.ret ⟨.inr rfl, by rfl, (by simp only [Tryz.f41, resA, resOne, toT, fin, exb, Nat.reduceAdd, Nat.reduceLeDiff, Nat.reduceEqDiff, Nat.reduceMul, Int.reduceToNat, reduceIte, Int.reduceLE, Int.reduceNeg]; rfl)⟩
 intro h
 obtain rfl : K = true := by simpa using h
 refine W.go ?_
 refine W.cond rfl ?_ ?_
 ·intro h
  have h : (a.toList == b.toList) = true := h
  refine W.go ?_
  exact W.ret ⟨.inr rfl, by rfl, (by simp only [Tryz.f41, resA, resOne, toT, fin, exb, Nat.reduceAdd, Nat.reduceLeDiff, Nat.reduceEqDiff, Nat.reduceMul, Int.reduceToNat, reduceIte, Int.reduceLE, Int.reduceNeg, h]; rfl)⟩
 intro h1
 have h1 : (a.toList == b.toList) = false := h1
 refine W.go ?_
 refine W.cond rfl ?_ ?_
 ·intro h
  have h : (a.toList == tNull.toList) = true := h
  refine W.go ?_
  exact W.ret ⟨.inr rfl, by rfl, (by simp only [Tryz.f41, resA, resOne, toT, fin, exb, Nat.reduceAdd, Nat.reduceLeDiff, Nat.reduceEqDiff, Nat.reduceMul, Int.reduceToNat, reduceIte, Int.reduceLE, Int.reduceNeg, h, h1]; rfl)⟩
 intro h2
 have h2 : (a.toList == tNull.toList) = false := h2
 refine W.go ?_
 cases L with
 | false =>
   refine W.regionK tab_ok 0 (by decide) ?_
   refine xs0 2 ?_
   refine runk_call rfl rfl rfl rfl rfl (by simp) cw2 (hcl _) ?_
   refine xe0 ?_
   exact W.ret ⟨.inr rfl, by rfl, zm31q6⟩
 | true =>
   refine W.regionK tab_ok 0 (by decide) ?_
   refine xs0 2 ?_
   refine runk_call rfl rfl rfl rfl rfl (by simp) cw2 (hcl _) ?_
   refine runk_split 7 zm31q16 ?_
   refine runk_call rfl rfl rfl rfl rfl (by simp) cw3 (hbe _) ?_
   refine xe0 ?_
   exact W.ret ⟨.inr rfl, by rfl, zm31q6⟩
end V
end Go.Proofs.YthhpcjoaogmhbaaGreatDoor
end
section
namespace Go.Proofs.YthhpcjoaogmhbaaGreatDoor
namespace V
open Go.RowKit
def zipAll {α β : Type} (p : α → β → Bool) : List α → List β → Bool
 | [], [] => true
 | x :: l, y :: r => p x y && zipAll p l r
 | _, _ => false
theorem zipAll_len {α β : Type} {p : α → β → Bool} : ∀ {l : List α} {r : List β}, l.length ≠ r.length → zipAll p l r = false
 | [], [], h => absurd rfl h
 | [], _ :: _, _ => rfl
 | _ :: _, [], _ => rfl
 | x :: l, y :: r, h => by
   simp only [zipAll, zipAll_len (p := p) (l := l) (r := r) (by simpa using h), Bool.and_false]
theorem zipAll_append {α β : Type} {p : α → β → Bool} : ∀ {l l' : List α} {r r' : List β}, l.length = r.length → zipAll p (l ++ l') (r ++ r') = (zipAll p l r && zipAll p l' r')
 | [], l', [], r', _ => by simp [zipAll]
 | [], _, _ :: _, _, h => by simp at h
 | _ :: _, _, [], _, h => by simp at h
 | x :: l, l', y :: r, r', h => by
   have ih := zipAll_append (p := p) (l := l) (l' := l') (r := r) (r' := r') (by simpa using h)
   simp only [List.cons_append, zipAll, ih, Bool.and_assoc]
theorem zipAll_take {α β : Type} {p : α → β → Bool} {l : List α} {r : List β} {k : Nat} {x : α} {y : β} (h : l.length = r.length) (hx : l[k]? = some x) (hy : r[k]? = some y) (ht : zipAll p (l.take k) (r.take k) = true) : zipAll p (l.take (k + 1)) (r.take (k + 1)) = p x y := by
 rw [List.take_add_one, List.take_add_one, hx, hy, zipAll_append (by simp [h]), ht]
 simp [zipAll]
theorem zipAll_no {α β : Type} {p : α → β → Bool} {l : List α} {r : List β} {k : Nat} (h : l.length = r.length) (ht : zipAll p (l.take k) (r.take k) = false) : zipAll p l r = false := by
 have e1 : l = l.take k ++ l.drop k := (List.take_append_drop _ _).symm
 have e2 : r = r.take k ++ r.drop k := (List.take_append_drop _ _).symm
 rw [e1, e2, zipAll_append (by simp [h]), ht]; rfl
abbrev tNo : ByteArray := ⟨#[]⟩
def isT (a b : ByteArray) : Bool := a.toList == b.toList
abbrev eqTL (a b : List ByteArray) : Bool := zipAll isT a b
abbrev eqFit (cs : List Class) (a : List ByteArray) (b : List Slot) : Bool := zipAll (fun t s => fitR 0 cs t s.type) a b
def slotIs (n : ByteArray) (s : Slot) : Bool := s.name.toList == n.toList
def pickB (l : List Slot) (n : ByteArray) : Option ByteArray := (l.find? (slotIs n)).map (·.type)
def hdT (l : List ByteArray) : ByteArray := l.headD tNo
def sameT (cs : List Class) (a b : ByteArray) : Bool :=
 (isT a tInt && isT b tInt) || (!(isT a tInt) && !(isT b tInt) && ((isT a tNull && isT b tNull) || fitR 0 cs a b || fitR 0 cs b a))
def typK (cs : List Class) (inn : ByteArray) (env : List Slot) (k : Int) (nm : ByteArray) (ls : List ByteArray) : Option ByteArray :=
 if k = 2 then some tNull
 else if k = 3 then (if isT inn tNo = true then none else some inn)
 else if k = 4 then (match pickB env nm with | some t => if isT t tNo = true then none else some t | none => none)
 else if k = 5 then (if cs.any (isNm nm) = true then some nm else none)
 else if k = 6 then (if eqTL ls [tInt] = true then some tInts else none)
 else if k = 7 then pickB (fieldsR 0 cs (hdT ls)) nm
 else if k = 8 then (if eqTL ls [tInts, tInt] = true then some tInt else none)
 else if k = 9 then (if eqTL ls [tInts] = true then some tInt else none)
 else if k = 10 then (match methodR 0 cs (hdT ls) nm with | some (m, _) => if eqFit cs ls.tail m.params = true then some m.type else none | none => none)
 else if k = 12 then (if eqTL ls [tInt] = true then some tInt else none)
 else if k = 13 ∨ k = 14 ∨ k = 15 ∨ k = 16 ∨ k = 17 then (if eqTL ls [tInt, tInt] = true then some tInt else none)
 else if k = 18 then (if sameT cs (hdT ls) (hdT ls.tail) = true then some tInt else none)
 else some tInt
mutual
def typB (cs : List Class) (inn : ByteArray) (env : List Slot) : Expr → Option ByteArray
 | ⟨k, _, nm, kids⟩ => (typsB cs inn env kids).bind (typK cs inn env k nm)
def typsB (cs : List Class) (inn : ByteArray) (env : List Slot) : List Expr → Option (List ByteArray)
 | [] => some []
 | x :: l => match typB cs inn env x with
   | some t => (typsB cs inn env l).map (t :: ·)
   | none => none
end
def stmtT (cs : List Class) (inn ret : ByteArray) (env : List Slot) (k : Int) (ty : ByteArray) (ts : List ByteArray) : Bool :=
 if k = 1 then knownR cs ty && (ts.isEmpty || fitR 0 cs (hdT ts) ty)
 else if k = 2 then fitR 0 cs (hdT ts.tail) (hdT ts)
 else if k = 3 ∨ k = 4 ∨ k = 5 then isT (hdT ts) tInt
 else if k = 6 then !(isT ret tNo) && fitR 0 cs (hdT ts) ret
 else true
mutual
def stmtTB (cs : List Class) (inn ret : ByteArray) (env : List Slot) : Stmt → Bool
 | ⟨k, _, ty, nm, es, th, el⟩ => (match typsB cs inn env es with | some ts => stmtT cs inn ret env k ty ts | none => false) && blockTB cs inn ret env th && blockTB cs inn ret env el
def blockTB (cs : List Class) (inn ret : ByteArray) (env : List Slot) : List Stmt → Bool
 | [] => true
 | x :: l => stmtTB cs inn ret env x && blockTB cs inn ret (if x.kind = 1 then env ++ [⟨x.type, x.name⟩] else env) l
end
mutual
def declS : Stmt → List ByteArray
 | ⟨k, _, _, nm, _, th, el⟩ => (if k = 1 then [nm] else []) ++ declSs th ++ declSs el
def declSs : List Stmt → List ByteArray
 | [] => []
 | x :: l => declS x ++ declSs l
end
end V
end Go.Proofs.YthhpcjoaogmhbaaGreatDoor
end
section
namespace Go.Proofs.YthhpcjoaogmhbaaGreatDoor
namespace V
open Go.RowKit
def mism : List PanicEntry := [{ v := .iface 67 (.agg #[]), recovered := false }]
def tabM : Tab := { tab with fields := fun t => if t = 67 then some [] else tab.fields t, zero := fun t => if t = 67 then some [] else tab.zero t }
namespace M
theorem tab_ok : tabM.Ok Tryz.prog := ⟨V.tab_ok.ty, fun t vs h => by
 by_cases e : t = 67
 ·subst e
  have h : some [] = some vs := by simpa [tabM] using h
  cases h
  have hz : (Tryz.prog.info? 67).map (·.zero) = some (some (.agg #[])) := by kernel_rfl
  obtain ⟨i, hi, hz⟩ := Option.map_eq_some_iff.1 hz
  exact ⟨i, .agg #[], hi, hz, by rfl, fun v hv => by cases hv⟩
 ·exact V.tab_ok.zero t vs (by simpa [tabM, e] using h), V.tab_ok.elem, V.tab_ok.off, V.tab_ok.bool, fun t l h => by
 by_cases e : t = 67
 ·subst e
  have h : some [] = some l := by simpa [tabM] using h
  cases h
  refine ⟨#[], by kernel_rfl, by rfl⟩
 ·exact V.tab_ok.fields t l (by simpa [tabM, e] using h), V.tab_ok.bytes, V.tab_ok.nilk, V.tab_ok.int, V.tab_ok.map, V.tab_ok.str, V.tab_ok.one, V.tab_ok.seq⟩
theorem tabs : tabM.fields 67 = some [] ∧ tabM.zero 67 = some [] ∧ tabM.ty = tab.ty := ⟨rfl, rfl, rfl⟩
theorem must_both (b : Bool) (m : Mem) : TOk Tryz.prog 15 [.c (.bool b)] m mism (if b = true then some (.tup []) else none) := by
 refine (ok_both tab_ok (ch := mism) (if b = true then some (.tup []) else none) Tryz.func15 (by kernel_rfl) rfl rfl (by rfl) ?rid (by rfl) (fun R hkeep => ?_) m)
 case rid => rintro x hx; first | (cases hx; rfl) | (split at hx <;> first | (cases hx; rfl) | cases hx) | (obtain ⟨y, -, rfl⟩ := Option.map_eq_some_iff.1 hx; rfl)
 refine W.go ?_
 cases b with
 | true =>
   refine W.cond rfl (fun h => absurd h (by simp)) (fun _ => ?_)
   refine W.go ?_
   refine ⟨by rfl, .inl rfl, ?_⟩
   simp only [Tryz.f15, resA, resOne, toT, fin, exb, Nat.reduceAdd, Nat.reduceLeDiff, Nat.reduceEqDiff, Nat.reduceMul, Int.reduceToNat, reduceIte, Int.reduceLE, Int.reduceNeg]
 | false =>
   refine W.cond rfl (fun _ => ?_) (fun h => absurd h (by simp))
   refine W.panR (base := 0) (ch := mism) tab_ok 2 (by decide) rfl ?_
   refine runk_exec (by simp only [exb, Nat.reduceAdd, Nat.reduceLeDiff, Nat.reduceEqDiff, Nat.reduceMul, Int.reduceToNat, reduceIte, Int.reduceLE, Int.reduceNeg, tabs]; rfl) ?_
   refine ⟨_, xs_panic rfl rfl (fun B w I v hv => ?_), by rfl, rfl⟩
   obtain ⟨u, rfl, us, rfl, h⟩ := hv
   cases us with
   | nil => rfl
   | cons a l => cases h
end M
open M (must_both)
theorem must_yes (m : Mem) : COk Tryz.prog 15 [.c (.bool true)] m (.tup []) := must_both true m
theorem must_no (m : Mem) : XOk Tryz.prog 15 [.c (.bool false)] m mism := must_both false m
theorem equal_ok (a b : List ByteArray) (ha : a.length ≤ 1000000000) (m : Mem) : COk Tryz.prog 34 [.c (.sl (a.map cStr)), .c (.sl (b.map cStr))] m (.c (.bool (eqTL a b))) := by
 refine (ok_pure tab_ok Tryz.func34 (by kernel_rfl) rfl rfl (by rfl) (by rfl) (by rfl) (fun R hkeep => ?_) m)
 by_cases hl : a.length = b.length
 ·have hd : decide ((a.length : Int) = (b.length : Int)) = true := by simp [hl]
  repeat (first | refine W.seq ?_ | refine W.block ?_ | refine W.skip ?_ | refine W.exit ?_ | refine W.g ?_ zm31q10)
  refine W.cond rfl (fun h => absurd h (by simp)) (fun _ => ?_)
  refine W.go ?_
  refine W.loop (ι := Nat) (fun k => ⟨upd (upd (upd (upd (fun _ => .top) 0 (.c (.sl (a.map cStr)))) 1 (.c (.sl (b.map cStr)))) 12 (.c (.int .i64 a.length))) 13 (.c (.int .i64 k)), Mem.nil⟩) (fun k => k ≤ a.length ∧ eqTL (a.take k) (b.take k) = true) (fun k => a.length - k) 0 ?start ⟨Nat.zero_le _, by simp [zipAll]⟩ ?round
  case start =>
   refine le_L ?sle ?mle (kept_not hkeep)
   case mle => repeat (first | exact mle_nil _ | exact mle_refl _ | refine mle_upd ?_ (by first | rfl | (simp only [upd_app, killM_app, Nat.reduceEqDiff, reduceIte, List.length_map]; done)))
   case sle => repeat (first | exact sle_top _ | exact sle_refl _ | refine sle_upd ?_ (by first | rfl | (simp only [upd_app, entry_zero, entry_succ, Nat.reduceEqDiff, reduceIte, List.length_map]; done)))
  case round =>
   rintro k ⟨hk, hall⟩
   refine W.go ?_
   refine W.cond rfl ?_ ?_
   ·intro hlt
    simp only [decide_eq_true_eq, Int.ofNat_lt] at hlt
    obtain ⟨x, hx⟩ : ∃ x, a[k]? = some x := ⟨_, List.getElem?_eq_getElem hlt⟩
    obtain ⟨y, hy⟩ : ∃ y, b[k]? = some y := ⟨_, List.getElem?_eq_getElem (by omega)⟩
    have ht := zipAll_take (p := isT) hl hx hy hall
    refine W.go ?_
    refine W.regionDK tab_ok 0 follows_mixed (by kernel_rfl) (by decide) ?_
    refine runk_exec (by simp only [exb, Nat.reduceAdd, Nat.reduceLeDiff, Nat.reduceEqDiff, Nat.reduceMul, Int.reduceToNat, reduceIte, Int.reduceLE, Int.reduceNeg, at_map hx, at_map hy, cStr]; rfl) ?_
    refine W.cond rfl ?_ ?_
    ·intro hne
     have hf : isT x y = false := by unfold isT; simpa using hne
     refine W.go ?_
     refine W.ret ⟨.inr rfl, by rfl, ?_⟩
     simp only [Tryz.f34, resA, resOne, toT, fin, exb, Nat.reduceAdd, Nat.reduceLeDiff, Nat.reduceEqDiff, Nat.reduceMul, Int.reduceToNat, reduceIte, Int.reduceLE, Int.reduceNeg]
     simp only [eqTL, zipAll_no (k := k + 1) hl (ht.trans hf)]
    ·intro heq
     have hf : isT x y = true := by unfold isT; simpa using heq
     refine W.go ?_
     refine ⟨k + 1, ⟨hlt, ht.trans hf⟩, by omega, ?_⟩
     exact le_Sk (kept_not hkeep)
   ·intro hge
    simp only [decide_eq_false_iff_not, Int.ofNat_lt] at hge
    obtain rfl : k = a.length := by omega
    rw [List.take_length, hl, List.take_length] at hall
    refine W.go ?_
    exact W.ret ⟨.inr rfl, by rfl, (by simp only [Tryz.f34, resA, resOne, toT, fin, exb, Nat.reduceAdd, Nat.reduceLeDiff, Nat.reduceEqDiff, Nat.reduceMul, Int.reduceToNat, reduceIte, Int.reduceLE, Int.reduceNeg, hall])⟩
 ·have hd : decide ((a.length : Int) = (b.length : Int)) = false := by simp; omega
  repeat (first | refine W.seq ?_ | refine W.block ?_ | refine W.skip ?_ | refine W.exit ?_ | refine W.g ?_ zm31q10)
  refine W.cond rfl (fun _ => ?_) (fun h => absurd h (by simp))
  refine W.go ?_
  exact W.ret ⟨.inr rfl, by rfl, (by simp only [Tryz.f34, resA, resOne, toT, fin, exb, Nat.reduceAdd, Nat.reduceLeDiff, Nat.reduceEqDiff, Nat.reduceMul, Int.reduceToNat, reduceIte, Int.reduceLE, Int.reduceNeg, zipAll_len hl])⟩
theorem want_both (ts l : List ByteArray) (hl : l.length ≤ 1000000000) (m : Mem) : TOk Tryz.prog 33 [.c (.sl (ts.map cStr)), .rptr [.sl (l.map cStr)]] m mism (if eqTL l ts = true then some (.tup []) else none) := by
 have he := equal_ok l ts hl
 refine (ok_both tab_ok (ch := mism) (if eqTL l ts = true then some (.tup []) else none) Tryz.func33 (by kernel_rfl) rfl rfl (by rfl) ?rid (by rfl) (fun R hkeep => ?_) m)
 case rid => rintro x hx; first | (cases hx; rfl) | (split at hx <;> first | (cases hx; rfl) | cases hx) | (obtain ⟨y, -, rfl⟩ := Option.map_eq_some_iff.1 hx; rfl)
 cases hb : eqTL l ts with
 | true =>
   rw [hb] at he
   refine W.go ?_
   refine W.regionK tab_ok 0 (by decide) ?_
   refine xs0 2 ?_
   refine runk_call rfl rfl rfl rfl rfl (by simp) cw2 (he _) ?_
   refine xs0 0 ?_
   refine runk_call rfl rfl rfl rfl rfl (by simp) cw1 (must_yes _) ?_
   refine xe0 ?_
   refine ⟨by rfl, .inl rfl, ?_⟩
   simp only [Tryz.f33, resA, resOne, toT, fin, exb, Nat.reduceAdd, Nat.reduceLeDiff, Nat.reduceEqDiff, Nat.reduceMul, Int.reduceToNat, reduceIte, Int.reduceLE, Int.reduceNeg]
 | false =>
   rw [hb] at he
   refine W.panR (base := 0) (ch := mism) tab_ok 3 (by decide) rfl ?_
   refine xs0 2 ?_
   refine runk_call rfl rfl rfl rfl rfl (by simp) cw2 (he _) ?_
   refine xe0 ?_
   exact ⟨_, xs_call rfl rfl rfl rfl (by simp) cw1 (must_no _), by rfl, rfl⟩
end V
end Go.Proofs.YthhpcjoaogmhbaaGreatDoor
end
section
namespace Go.Proofs.YthhpcjoaogmhbaaGreatDoor
namespace V
open Go.RowKit
theorem idxSlot_ok (l : List Slot) (f : FuncId) (caps : List (List C)) (p : Slot → Bool) (hlen : l.length ≤ 1000000000000) (hk : ∀ x ∈ l, ∀ m, COk Tryz.prog f (.agg (cSlot x) :: caps.map A.rptr) m (.c (.bool (p x)))) (m : Mem) : COk Tryz.prog 71 [.c (.sl (l.map cSlot)), .fnR f caps] m (.c (.int .i64 (idxB p l))) := by
 refine (ok_pure tab_ok Tryz.func71 (by kernel_rfl) rfl rfl (by rfl) (by rfl) (by rfl) (fun R hkeep => ?_) m)
 refine W.go ?_
 refine W.loop (ι := Nat) (fun k => ⟨upd (upd (upd (upd (upd (fun _ => .top) 0 (.c (.sl (l.map cSlot)))) 1 (.fnR f caps)) 4 (.c (.int .i64 0))) 7 (.c (.int .i64 l.length))) 8 (.c (.int .i64 k)), Mem.nil⟩) (fun k => k ≤ l.length ∧ (l.take k).any p = false) (fun k => l.length - k) 0 ?start ⟨Nat.zero_le _, rfl⟩ ?round
 case start =>
  exact le_D (kept_not hkeep)
 case round =>
  rintro k ⟨hkl, hno⟩
  refine W.go ?_
  refine W.cond rfl ?_ ?_
  ·intro hlt
   simp only [decide_eq_true_eq, Int.ofNat_lt] at hlt
   obtain ⟨x, hx⟩ : ∃ x, l[k]? = some x := ⟨_, List.getElem?_eq_getElem hlt⟩
   refine W.go ?_
   refine W.regionK tab_ok 0 (by decide) ?_
   refine runk_split 5 (by simp only [exb, Nat.reduceAdd, Nat.reduceLeDiff, Nat.reduceEqDiff, Nat.reduceMul, Int.reduceToNat, reduceIte, Int.reduceLE, Int.reduceNeg, at_map hx, cSlot]; rfl) ?_
   refine runk_callF rfl rfl rfl rfl rfl (cvs_cons cv_refl (cvs_caps _)) (hk x (List.mem_of_getElem? hx) _) ?_
   refine xe0 ?_
   refine W.cond rfl ?_ ?_
   ·intro hp
    refine W.go ?_
    refine W.ret ⟨.inr rfl, by rfl, ?_⟩
    simp only [Tryz.f71, resA, resOne, toT, fin, exb, Nat.reduceAdd, Nat.reduceLeDiff, Nat.reduceEqDiff, Nat.reduceMul, Int.reduceToNat, reduceIte, Int.reduceLE, Int.reduceNeg]
    rw [idxB_at hno hx hp]
   ·intro hp
    refine W.go ?_
    refine ⟨k + 1, ⟨hlt, ?_⟩, by omega, ?_⟩
    ·rw [List.take_add_one, hx, List.any_append, hno]; simp [hp]
    exact le_Sk (kept_not hkeep)
  ·intro hge
   simp only [decide_eq_false_iff_not, Int.ofNat_lt] at hge
   obtain rfl : k = l.length := by omega
   rw [List.take_length] at hno
   refine W.go ?_
   refine W.ret ⟨.inr rfl, by rfl, ?_⟩
   simp only [Tryz.f71, resA, resOne, toT, fin, exb, Nat.reduceAdd, Nat.reduceLeDiff, Nat.reduceEqDiff, Nat.reduceMul, Int.reduceToNat, reduceIte, Int.reduceLE, Int.reduceNeg]
   rw [idxB_none hno]
theorem idxB_find {α : Type} (p : α → Bool) : ∀ l : List α, (idxB p l = -1 ∧ l.find? p = none) ∨ ∃ k x, idxB p l = ((k : Nat) : Int) ∧ l[k]? = some x ∧ l.find? p = some x
 | [] => .inl ⟨rfl, rfl⟩
 | x :: l => by
   unfold idxB
   cases hp : p x with
   | true => exact .inr ⟨0, x, by simp, rfl, by simp [hp]⟩
   | false =>
     rcases idxB_find p l with ⟨h1, h2⟩ | ⟨k, y, h1, h2, h3⟩
     ·exact .inl ⟨by simp [h1], by simp [hp, h2]⟩
     ·refine .inr ⟨k + 1, y, ?_, by simpa using h2, by simp [hp, h3]⟩
      have : ¬ (idxB p l = -1) := by omega
      simp [this, h1]
theorem slotIs_ok (n : ByteArray) (s : Slot) (m : Mem) : COk Tryz.prog 72 [.agg (cSlot s), .rptr [.str n]] m (.c (.bool (slotIs n s))) := by
 refine (ok_pure tab_ok Tryz.func72 (by kernel_rfl) rfl rfl (by rfl) (by rfl) (by rfl) (fun R hkeep => ?_) m)
 repeat (first | refine W.seq ?_ | refine W.block ?_ | refine W.skip ?_ | refine W.exit ?_ | refine W.g ?_ (by simp only [exb, Nat.reduceAdd, Nat.reduceLeDiff, Nat.reduceEqDiff, Nat.reduceMul, Int.reduceToNat, reduceIte, Int.reduceLE, Int.reduceNeg, cSlot]; rfl))
 exact W.ret ⟨.inr rfl, by rfl, (by simp only [Tryz.f72, resA, resOne, toT, fin, exb, Nat.reduceAdd, Nat.reduceLeDiff, Nat.reduceEqDiff, Nat.reduceMul, Int.reduceToNat, reduceIte, Int.reduceLE, Int.reduceNeg, cSlot]; rfl)⟩
theorem pick_both (l : List Slot) (n : ByteArray) (hl : l.length ≤ 1000000000) (m : Mem) : TOk Tryz.prog 35 [.c (.sl (l.map cSlot)), .c (.str n)] m mism ((pickB l n).map fun t => .c (.str t)) := by
 refine (ok_both tab_ok (ch := mism) ((pickB l n).map fun t => A.c (.str t)) Tryz.func35 (by kernel_rfl) rfl rfl (by rfl) ?rid (by rfl) (fun R hkeep => ?_) m)
 case rid => rintro x hx; first | (cases hx; rfl) | (split at hx <;> first | (cases hx; rfl) | cases hx) | (obtain ⟨y, -, rfl⟩ := Option.map_eq_some_iff.1 hx; rfl)
 refine W.go ?_
 refine W.regionK tab_ok 0 (by decide) ?_
 refine xs0 2 ?_
 refine runk_callR rfl rfl rfl rfl rfl (by simp) (cvrs_cons cvr_refl (cvrs_cons (cvr_fn (caps_one rfl rfl)) cvrs_nil)) (by rfl) (by rfl) (idxSlot_ok l 72 [[.str n]] (slotIs n) (by omega) (fun x _ m => slotIs_ok n x m)) ?_
 refine xe0 ?_
 rcases idxB_find (slotIs n) l with ⟨h1, h2⟩ | ⟨k, x, h1, h2, h3⟩
 ·rw [h1]
  have hr : pickB l n = none := by unfold pickB; rw [h2]; rfl
  rw [hr]
  (repeat (first | refine W.seq ?_ | refine W.block ?_))
  refine W.panR (base := 0) (ch := mism) tab_ok 2 (by decide) rfl ?_
  refine xe0 ?_
  exact ⟨_, xs_call rfl rfl rfl rfl (by simp) cw1 (must_no _), by rfl, rfl⟩
 ·rw [h1]
  have hr : pickB l n = some x.type := by unfold pickB; rw [h3]; rfl
  rw [hr]
  have hk : decide ((0 : Int) ≤ (k : Int)) = true := by simp
  have hk0 : (0 : Int) ≤ (k : Int) := by omega
  obtain ⟨xt, xn⟩ := x
  (repeat (first | refine W.seq ?_ | refine W.block ?_))
  refine W.regionK tab_ok 0 (by decide) ?_
  refine runk_split 2 (by simp only [exb, Nat.reduceAdd, Nat.reduceLeDiff, Nat.reduceEqDiff, Nat.reduceMul, Int.reduceToNat, reduceIte, Int.reduceLE, Int.reduceNeg, hk]; rfl) ?_
  refine runk_call rfl rfl rfl rfl rfl (by simp) cw1 (must_yes _) ?_
  refine xe0 ?_
  repeat (first | refine W.seq ?_ | refine W.block ?_ | refine W.skip ?_ | refine W.exit ?_ | refine W.g ?_ (by simp only [exb, Nat.reduceAdd, Nat.reduceLeDiff, Nat.reduceEqDiff, Nat.reduceMul, Int.reduceToNat, reduceIte, Int.reduceLE, Int.reduceNeg, hk0, Int.toNat_natCast, at_map h2, cSlot]; rfl))
  refine W.ret ⟨by rfl, .inr rfl, ?_⟩
  simp only [Tryz.f35, resA, resOne, toT, fin, exb, Nat.reduceAdd, Nat.reduceLeDiff, Nat.reduceEqDiff, Nat.reduceMul, Int.reduceToNat, reduceIte, Int.reduceLE, Int.reduceNeg, Option.map_some]
end V
end Go.Proofs.YthhpcjoaogmhbaaGreatDoor
end
section
namespace Go.Proofs.YthhpcjoaogmhbaaGreatDoor
namespace V
open Go.RowKit
def ckC (cs : List Class) (main : List Stmt) (inn ret : ByteArray) (env : List Slot) : List C := [.sl (cs.map cClass), .sl (cStmts main), .str inn, .str ret, .sl (env.map cSlot)]
theorem typ2_E (p : Program) (inn ret : ByteArray) (env : List Slot) (hlen : p.classes.length ≤ 1000000000) (hchk : ∀ m, COk Tryz.prog 12 [.agg (cProg p)] m (.c (.int .i64 0))) (x : ByteArray) (y : Slot) (M : Mem)
 (h2 : M 2 = some (.box 51 [.rptr (ckC p.classes p.main inn ret env)])) (hfar : ∀ d, M (1000 + d) = none) :
 CallE Tryz.prog 40 [.c (.str x), .agg (cSlot y), .ptr 2 0] M [] (.c (.bool (fitR 0 p.classes x y.type))) M := by
 have hfit := fun m => fits_ok p 0 [.str inn, .str ret, .sl (env.map cSlot)] x y.type hlen hchk m
 obtain ⟨yt, yn⟩ := y
 refine (ok_eff tab_ok [] Tryz.func40 (by kernel_rfl) rfl rfl (by rfl) (by rfl) ?ids ?res ?sub ?wfm (fun hWF Rr hkeep => ?_))
 case ids => intro a ha j hj; simp at ha; rcases ha with rfl | rfl | rfl <;> simp [A.ids] at hj; subst hj; simp [h2]
 case res => intro j hj; simp [A.ids] at hj
 case sub => exact fun j hj => hj
 case wfm => exact fun hw => hw
 have h4 : M 1004 = none := hfar 4
 repeat (first | refine W.seq ?_ | refine W.block ?_ | refine W.skip ?_ | refine W.exit ?_ | refine W.region tab_ok 1000 (by decide) (exec_run (by simp only [exb, Nat.reduceAdd, Nat.reduceLeDiff, Nat.reduceEqDiff, Nat.reduceMul, Int.reduceToNat, reduceIte, Int.reduceLE, Int.reduceNeg, cSlot, h2, h4, ckC]; rfl)) ?_)
 refine W.regionK tab_ok 1000 (by decide) ?_
 refine runk_split 4 (by simp only [exb, Nat.reduceAdd, Nat.reduceLeDiff, Nat.reduceEqDiff, Nat.reduceMul, Int.reduceToNat, reduceIte, Int.reduceLE, Int.reduceNeg, h2, h4, cSlot, ckC]; rfl) ?_
 refine runk_call rfl rfl rfl rfl rfl (by simp) cw3 (hfit _) ?_
 refine xe0 ?_
 refine W.ret ⟨.inr rfl, by rfl, ?_, ?mle⟩
 simp only [Tryz.f40, resE, resOne, fin, toT, exb, Nat.reduceAdd, Nat.reduceLeDiff, Nat.reduceEqDiff, Nat.reduceMul, Int.reduceToNat, reduceIte, Int.reduceLE, Int.reduceNeg]
 case mle => exact mle_skip (mle_refl _) h4
theorem equalF_E (p : Program) (inn ret : ByteArray) (env : List Slot) (hlen : p.classes.length ≤ 1000000000) (hchk : ∀ m, COk Tryz.prog 12 [.agg (cProg p)] m (.c (.int .i64 0))) (a : List ByteArray) (b : List Slot) (ha : a.length ≤ 1000000000) (M : Mem)
 (h2 : M 2 = some (.box 51 [.rptr (ckC p.classes p.main inn ret env)])) (hfar : ∀ d, M (500 + d) = none) :
 CallE Tryz.prog 39 [.c (.sl (a.map cStr)), .c (.sl (b.map cSlot)), .fn 40 [2]] M [] (.c (.bool (eqFit p.classes a b))) M := by
 have h9 : M 509 = none := hfar 9
 have h2o : ∀ o : O, (upd M 509 (some o)) 2 = some (.box 51 [.rptr (ckC p.classes p.main inn ret env)]) := fun o => by rw [upd_ne _ _ (by decide)]; exact h2
 have hk := fun x y o => typ2_E p inn ret env hlen hchk x y (upd M 509 (some o)) (by rw [upd_ne _ _ (by decide)]; exact h2) (fun d => by rw [upd_ne _ _ (by omega), show 1000 + d = 500 + (500 + d) by omega]; exact hfar _)
 refine (ok_eff tab_ok [] Tryz.func39 (by kernel_rfl) rfl rfl (by rfl) (by rfl) ?ids ?res ?sub ?wfm (fun hWF Rr hkeep => ?_))
 case ids => intro a ha j hj; simp at ha; rcases ha with rfl | rfl | rfl <;> simp [A.ids] at hj; subst hj; simp [h2]
 case res => intro j hj; simp [A.ids] at hj
 case sub => exact fun j hj => hj
 case wfm => exact fun hw => hw
 have kept : ∀ j, Rr.keep j → (M j).isSome = true := fun j hj => by rw [hkeep] at hj; exact hj.1
 by_cases hl : a.length = b.length
 ·have hd : decide ((a.length : Int) = (b.length : Int)) = true := by simp [hl]
  repeat (first | refine W.seq ?_ | refine W.block ?_ | refine W.skip ?_ | refine W.exit ?_ | refine W.region tab_ok 500 (by decide) (exec_run zm31q10) ?_)
  refine W.cond rfl (fun h => absurd h (by simp)) (fun _ => ?_)
  repeat (first | refine W.seq ?_ | refine W.block ?_ | refine W.skip ?_ | refine W.exit ?_ | refine W.region tab_ok 500 (by decide) xr0 ?_)
  refine W.loop (ι := Nat) (fun k => ⟨upd (upd (upd (upd (upd (fun _ => .top) 1 (.c (.sl (b.map cSlot)))) 2 (.fn 40 [2])) 15 (.c (.sl (a.map cStr)))) 16 (.c (.int .i64 a.length))) 17 (.c (.int .i64 k)), M⟩) (fun k => k ≤ a.length ∧ eqFit p.classes (a.take k) (b.take k) = true) (fun k => a.length - k) 0 ?start ⟨Nat.zero_le _, by simp [zipAll]⟩ ?round
  case start =>
   refine le_mk ?sle ?mle ?swf ?mwf kept (by rfl)
   case swf => repeat (first | exact swf_top _ | refine swf_upd ?_ (by simp [A.ids, upd_app, h2, List.length_map]))
   case mwf => repeat (first | exact mwf_base hWF (fun i hi => by repeat (first | exact hi | refine live_upd i ?_)) | refine mwf_upd ?_ (by simp [A.ids, O.ids, upd_app, h2, List.length_map]))
   case mle => repeat (first | exact mle_refl _ | refine mle_upd ?_ (by first | rfl | (simp only [upd_app, killM_app, O.kill, A.kill, Nat.reduceEqDiff, reduceIte, Option.map_some, Option.map_none, List.map_cons, List.map_nil, h2, List.length_map]; done)))
   case sle => repeat (first | exact sle_top _ | exact sle_refl _ | refine sle_upd ?_ (by first | rfl | (simp only [upd_app, killS_app, A.kill, entry_zero, entry_succ, Nat.reduceEqDiff, reduceIte, h2, List.length_map]; done)))
  case round =>
   rintro k ⟨hkl, hall⟩
   repeat (first | refine W.seq ?_ | refine W.block ?_ | refine W.skip ?_ | refine W.exit ?_ | refine W.region tab_ok 500 (by decide) xr0 ?_)
   refine W.cond rfl ?_ ?_
   ·intro hlt
    simp only [decide_eq_true_eq, Int.ofNat_lt] at hlt
    obtain ⟨x, hx⟩ : ∃ x, a[k]? = some x := ⟨_, List.getElem?_eq_getElem hlt⟩
    obtain ⟨y, hy⟩ : ∃ y, b[k]? = some y := ⟨_, List.getElem?_eq_getElem (by omega)⟩
    have ht := zipAll_take (p := fun t s => fitR 0 p.classes t s.type) hl hx hy hall
    obtain ⟨yt, yn⟩ := y
    repeat (first | refine W.seq ?_ | refine W.block ?_ | refine W.skip ?_ | refine W.exit ?_ | refine W.region tab_ok 500 (by decide) (exec_run (by simp only [exb, Nat.reduceAdd, Nat.reduceLeDiff, Nat.reduceEqDiff, Nat.reduceMul, Int.reduceToNat, reduceIte, Int.reduceLE, Int.reduceNeg, at_map hx, at_map hy, cStr, cSlot, h9]; rfl)) ?_)
    simp only [upd_upd]
    refine W.regionK tab_ok 500 (by decide) ?_
    refine runk_split 3 (by simp only [exb, Nat.reduceAdd, Nat.reduceLeDiff, Nat.reduceEqDiff, Nat.reduceMul, Int.reduceToNat, reduceIte, Int.reduceLE, Int.reduceNeg, at_map hx, at_map hy, cStr, cSlot]; rfl) ?_
    refine runk_callE (D := []) (ids := [2]) rfl rfl rfl rfl rfl (fun j hj => by simp at hj) (by intro j hj; rw [List.mem_singleton] at hj; subst hj; exact ⟨_, _, h2o (.box 35 [.c (.str yt), .c (.str yn)])⟩) (by exact cw3) (hk x ⟨yt, yn⟩ _) ?_
    simp only [killL, putS, upd_upd]
    refine xe0 ?_
    refine W.cond rfl ?_ ?_
    ·intro hne
     have hf : fitR 0 p.classes x yt = false := by simpa using hne
     repeat (first | refine W.seq ?_ | refine W.block ?_ | refine W.skip ?_ | refine W.exit ?_ | refine W.region tab_ok 500 (by decide) xr0 ?_)
     refine W.ret ⟨.inr rfl, by rfl, ?_, ?mle⟩
     simp only [Tryz.f39, resE, resOne, fin, toT, exb, Nat.reduceAdd, Nat.reduceLeDiff, Nat.reduceEqDiff, Nat.reduceMul, Int.reduceToNat, reduceIte, Int.reduceLE, Int.reduceNeg]
     ·simp only [eqFit, zipAll_no (k := k + 1) hl (ht.trans hf)]
     case mle => exact mle_skip (mle_refl _) h9
    ·intro heq
     have hf : fitR 0 p.classes x yt = true := by simpa using heq
     repeat (first | refine W.seq ?_ | refine W.block ?_ | refine W.skip ?_ | refine W.exit ?_ | refine W.region tab_ok 500 (by decide) xr0 ?_)
     refine ⟨k + 1, ⟨hlt, ht.trans hf⟩, by omega, ?_⟩
     refine le_mk ?sle ?mle ?swf ?mwf (fun j hj => by repeat (first | exact kept j hj | refine live_upd j ?_)) (by rfl)
     case swf => repeat (first | exact swf_top _ | refine swf_upd ?_ (by simp [A.ids, upd_app, h2]))
     case mwf => exact mwf_base hWF (fun i hi => by repeat (first | exact hi | refine live_upd i ?_))
     case mle => exact mle_skip (mle_refl _) h9
     case sle => repeat (first | exact sle_top _ | exact sle_refl _ | refine sle_upd ?_ (by first | rfl | (simp only [upd_app, killS_app, A.kill, entry_zero, entry_succ, Nat.reduceEqDiff, reduceIte, wrap_succ (show k + 1 < 9223372036854775808 by omega)]; done)))
   ·intro hge
    simp only [decide_eq_false_iff_not, Int.ofNat_lt] at hge
    obtain rfl : k = a.length := by omega
    rw [List.take_length, hl, List.take_length] at hall
    repeat (first | refine W.seq ?_ | refine W.block ?_ | refine W.skip ?_ | refine W.exit ?_ | refine W.region tab_ok 500 (by decide) xr0 ?_)
    refine W.ret ⟨.inr rfl, by rfl, ?_, ?mle⟩
    simp only [Tryz.f39, resE, resOne, fin, toT, exb, Nat.reduceAdd, Nat.reduceLeDiff, Nat.reduceEqDiff, Nat.reduceMul, Int.reduceToNat, reduceIte, Int.reduceLE, Int.reduceNeg, hall]
    case mle => exact mle_refl _
 ·have hd : decide ((a.length : Int) = (b.length : Int)) = false := by simp; omega
  repeat (first | refine W.seq ?_ | refine W.block ?_ | refine W.skip ?_ | refine W.exit ?_ | refine W.region tab_ok 500 (by decide) (exec_run zm31q10) ?_)
  refine W.cond rfl (fun _ => ?_) (fun h => absurd h (by simp))
  repeat (first | refine W.seq ?_ | refine W.block ?_ | refine W.skip ?_ | refine W.exit ?_ | refine W.region tab_ok 500 (by decide) xr0 ?_)
  refine W.ret ⟨.inr rfl, by rfl, ?_, ?mle⟩
  simp only [Tryz.f39, resE, resOne, fin, toT, exb, Nat.reduceAdd, Nat.reduceLeDiff, Nat.reduceEqDiff, Nat.reduceMul, Int.reduceToNat, reduceIte, Int.reduceLE, Int.reduceNeg, zipAll_len hl]
  case mle => exact mle_refl _
end V
end Go.Proofs.YthhpcjoaogmhbaaGreatDoor
end
section
namespace Go.Proofs.YthhpcjoaogmhbaaGreatDoor
namespace V
open Go.RowKit
structure HAppendNil (T : Tab) (ops : Array Oper) (o : Oper) (st : St) (c : Call) (x y : Operand) (t d id e n b : Nat) (zs : List Value) (ys : List (List C)) : Prop where
 want : wantA ops o st.s = some true
 op : o.op = .call c
 callee : c.callee = .builtin .append
 args : c.args = #[x, y]
 tys : c.argTypes = #[t, t]
 dst : o.dst = some d
 at_ : ev st.s x = .nil
 free : st.m id = none
 val : asC st.m (ev st.s y) = some (.sl ys)
 elem : T.elem t = some (e, n)
 bytes : T.bytes e = some b
 zero : T.zero e = some zs
 zlen : zs.length = n
 lens : ∀ z ∈ ys, z.length = n
 bound : ys.length * b ≤ 140737488355328
 small : ys.length ≤ maxLen
section
variable {P : Go.Program} {T : Tab} (hT : T.Ok P) {kp : Nat → Prop} {ops : Array Oper}
include hT
end
def tabL : Tab := { tab with lit := true }
namespace L
theorem tab_ok : tabL.Ok Tryz.prog := ⟨V.tab_ok.ty, V.tab_ok.zero, V.tab_ok.elem, V.tab_ok.off, V.tab_ok.bool, V.tab_ok.fields, V.tab_ok.bytes, V.tab_ok.nilk, V.tab_ok.int, V.tab_ok.map, V.tab_ok.str, V.tab_ok.one, V.tab_ok.seq⟩
theorem tabs : tabL.ty = tab.ty ∧ tabL.zero = tab.zero ∧ tabL.elem = tab.elem ∧ tabL.off = tab.off ∧ tabL.bool = tab.bool ∧ tabL.fields = tab.fields ∧ tabL.bytes = tab.bytes ∧ tabL.nilk = tab.nilk ∧ tabL.int = tab.int ∧ tabL.map = tab.map ∧ tabL.str = tab.str ∧ tabL.one = tab.one ∧ tabL.seq = tab.seq ∧ tabL.eff = tab.eff ∧ tabL.lit = true := ⟨rfl, rfl, rfl, rfl, rfl, rfl, rfl, rfl, rfl, rfl, rfl, rfl, rfl, rfl, rfl⟩
end L
end V
end Go.Proofs.YthhpcjoaogmhbaaGreatDoor
end
section
namespace Go.Proofs.YthhpcjoaogmhbaaGreatDoor
namespace V
open Go.RowKit
def valA : A → Option A1
 | .agg xs => some (.agg xs)
 | a => a.down
structure HPut (T : Tab) (ops : Array Oper) (o : Oper) (st : St) (t : Nat) (x k v : Operand) (j kt e : Nat) (key y : A1) (ents : List (A1 × A1)) (r : Option (Nat × A1)) : Prop where
 want : wantA ops o st.s = some true
 op : o.op = .mapUpdate t x k v ∨ o.op = .insert t x k v
 dst : o.dst = none
 at_ : ev st.s x = .map j
 obj : st.m j = some (.map ents)
 map : T.map t = some (kt, e)
 keyed : toKey (ev st.s k) = some key
 kty : keyTy T kt key = true
 val : valA (ev st.s v) = some y
 find : findE key ents = some r
section
variable {P : Go.Program} {T : Tab} {w0 w : World} {I0 I : Nat → Nat → Prop} {B : Nat → Value} {m : Mem}
theorem REs.set : ∀ {l : List (A1 × A1)} {es : List MapEntry} (i : Nat) (p : A1 × A1) (e : MapEntry), REs B w I l es → R1 B w I p.1 e.key → R1 B w I p.2 e.val → REs B w I (l.set i p) (es.set i e)
 | [], [], _, _, _, _, _, _ => trivial
 | _ :: _, _ :: _, 0, _, _, h, h1, h2 => ⟨⟨h1, h2⟩, h.2⟩
 | _ :: _, _ :: _, i + 1, p, e, h, h1, h2 => ⟨h.1, REs.set i p e h.2 h1 h2⟩
theorem REs.push : ∀ {l : List (A1 × A1)} {es : List MapEntry} (p : A1 × A1) (e : MapEntry), REs B w I l es → R1 B w I p.1 e.key → R1 B w I p.2 e.val → REs B w I (l ++ [p]) (es ++ [e])
 | [], [], _, _, _, h1, h2 => ⟨⟨h1, h2⟩, trivial⟩
 | _ :: _, _ :: _, p, e, h, h1, h2 => ⟨h.1, REs.push p e h.2 h1 h2⟩
end
variable {P : Go.Program} {T : Tab} (hT : T.Ok P) {kp : Nat → Prop} {ops : Array Oper}
include hT
end V
end Go.Proofs.YthhpcjoaogmhbaaGreatDoor
end
section
namespace Go.Proofs.YthhpcjoaogmhbaaGreatDoor
namespace V
open Go.RowKit
theorem W.freezeBox {P : Go.Program} {R : Ref} {n : Nat} {ds : List Deferred} {st : St} {c : Code} {K : Exit → St → Prop} (j k id : Nat) {tyb ty : TypeId} {e : Nat} {cells : List A} {xs : List (List C)} (hj : st.m j = some (.box tyb cells)) (hk : cells[k]? = some (.own id)) (hid : st.m id = some (.mrow ty e xs)) (hji : j ≠ id) (hkp : ¬ R.keep id)
 (h : W P R n ds ⟨killS id st.s, upd (upd (killM id st.m) id (some (.arr ty e []))) j (some (.box tyb ((cells.map (A.kill id)).set k (.c (.sl xs)))))⟩ c K) : W P R n ds st c K := by
 intro a w hr
 refine h a w ?_
 obtain ⟨⟨B, I, hm, hx0, hkp0, hs⟩, h2, h3, hnn, h4, h5⟩ := hr
 obtain ⟨I', hm', hE, hrc⟩ := hm.freeze hid
 have hBne : ∀ i, i ≠ id → upd B id (.slice none 0 0) i = B i := fun i hi => upd_ne _ _ hi
 have hj' : upd (killM id st.m) id (some (.arr ty e [])) j = some (.box tyb (cells.map (A.kill id))) := by
  rw [upd_ne _ _ hji, killM_app, hj]; rfl
 obtain ⟨b, vs, q1, q2, q3, q4⟩ := hm'.objs j _ hj'
 obtain ⟨b0, vs0, p1, p2, p3, p4⟩ := hm.objs j _ hj
 have hbb : b0 = b := by
  rw [hBne j hji, p1] at q1; cases q1; rfl
 subst hbb
 have hvv : vs0 = vs := by
  rw [p2] at q2
  have := Option.some.inj q2
  simp at this; exact this
 subst hvv
 have liv0 : ∀ i, (st.m i).isSome = true → (upd (killM id st.m) id (some (.arr ty e [])) i).isSome = true := fun i hi => by
  unfold upd; split
  ·rfl
  ·rw [killM_app]; simpa using hi
 obtain ⟨hm2, hE2⟩ := hm'.turn (w' := w) (o' := .box tyb ((cells.map (A.kill id)).set k (.c (.sl xs)))) hj' ⟨0, q1⟩ (fun q hq => by obtain ⟨off, hq⟩ := hq; rw [q1] at hq; cases hq; rfl) q4 rfl rfl rfl rfl (fun _ _ => rfl) (fun i hi => by
  obtain ⟨a', ha', hi'⟩ := List.mem_flatMap.1 hi
  rcases List.mem_or_eq_of_mem_set ha' with ha' | rfl
  ·exact hm'.live j _ hj' i (List.mem_flatMap.2 ⟨a', ha', hi'⟩)
  ·simp [A.ids] at hi') (fun _ => by
  refine ⟨b0, vs0, q1, q2, ?_, q4⟩
  have hl := q3.length
  refine RVs.of (by rw [List.length_set]; exact hl) fun q a' v' ha' hv' => ?_
  rw [List.getElem?_set] at ha'
  split at ha'
  ·rename_i hq
   subst hq
   split at ha'
   ·cases ha'
    obtain ⟨v2, r1, r2, r3⟩ := p3.at k _ hk
    rw [hv'] at r1; cases r1
    have hv : v' = B id := r2.1
    exact ⟨by show RC _ _ _ _; rw [hv]; exact hrc, r3⟩
   ·cases ha'
  ·obtain ⟨v2, r1, r2, r3⟩ := q3.at q _ ha'
   rw [hv'] at r1; cases r1
   exact ⟨r2, r3⟩)
 have liv : ∀ i, (st.m i).isSome = true → (upd (upd (killM id st.m) id (some (.arr ty e []))) j (some (.box tyb ((cells.map (A.kill id)).set k (.c (.sl xs))))) i).isSome = true := fun i hi => live_upd i (liv0 i hi)
 refine ⟨⟨_, I', hm2, hx0.trans hE, fun i hi => (hBne i (fun e => hkp (e ▸ hi))).trans (hkp0 i hi), fun u => ?_⟩, fun u i hi => ?_, h3, hnn, ?_, fun i hi => liv i (h5 i hi)⟩
 ·show RV _ w I' (killS id st.s u) _
  rw [killS_app]
  rcases (A.kill_ids (id := id) (a := st.s u)).2 with q | ⟨q, hn⟩
  ·rw [q]; trivial
  ·rw [q]
   exact (hs u).mono hE fun i hi => hBne i (fun e => hn (e ▸ hi))
 ·replace hi : i ∈ (killS id st.s u).ids := hi
  rw [killS_app] at hi
  exact liv i (h2 u i ((A.kill_ids (id := id) (a := st.s u)).1 i hi).1)
 ·show _ = dfs (killS id st.s DID) ++ ds
  rw [killS_app, dfs_kill]; exact h4
end V
end Go.Proofs.YthhpcjoaogmhbaaGreatDoor
end
