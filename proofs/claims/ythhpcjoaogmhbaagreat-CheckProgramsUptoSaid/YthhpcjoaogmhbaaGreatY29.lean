/- Joined by my own program, in build order: Ccls, Cchk, Vy, Vz, Plain, Plain2, Chks, Order, Fit7, GrowS, Cfld, Cexp, Cfld2, Cmth, CP, Mu, Def, De, Pk. -/
import Derived.Test.YthhpcjoaogmhbaaGreatY28
import Derived.Test.YthhpcjoaogmhbaaGreatY25
import Derived.Test.YthhpcjoaogmhbaaGreatY16
import Derived.Test.YthhpcjoaogmhbaaGreatY17
import Derived.Lib.Walk
import Derived.Lib.SliceRun
import Derived.Lib.AppendZerosOnto
import Derived.Test.YthhpcjoaogmhbaaGreatY6
set_option linter.unusedVariables false
set_option linter.unusedSimpArgs false
namespace Go.Proofs.YthhpcjoaogmhbaaGreat
theorem zy29q1 {p : Prop} (h : p := by (first | rfl | (simp only [upd_app, killM_app, O.kill, A.kill, Nat.reduceEqDiff, reduceIte, Option.map_some, Option.map_none, List.map_cons, List.map_nil, cClass, fullM, memC, wrap_succ (show q + 1 < 9223372036854775808 by have := (hS c hc).2.1; omega)]; done))) : p := h
theorem zy29q2 {p : Prop} (h : p := by (have h1 := (hS kc (List.mem_of_getElem? hkc)).1; have h2 := fieldsUp_len hS ((upX cs (cs.length + 1) 0 c.name).take k); have h3 := List.length_take_le k (upX cs (cs.length + 1) 0 c.name); simp only [List.length_map, namesL]; omega)) : p := h
theorem zy29q3 {p : Prop} (h : p := by (simp only [exb, Nat.reduceAdd, Nat.reduceLeDiff, Nat.reduceEqDiff, Nat.reduceMul, Int.reduceToNat, reduceIte, Int.reduceLE, Int.reduceNeg, fullM, memM, slotM, cClass, cMethod, List.set_cons_zero, List.set_cons_succ]; rfl)) : p := h
theorem zy29q4 {p : Prop} (h : p := by (first | rfl | (simp only [upd_app, killS_app, A.kill, entry_zero, entry_succ, Nat.reduceEqDiff, reduceIte, cClass, fullM, memC, wrap_succ (show q + 1 < 9223372036854775808 by have := (hS c hc).2.1; omega)]; done))) : p := h
theorem zy29q5 {p : Prop} (h : p := by (simp only [exb, Nat.reduceAdd, Nat.reduceLeDiff, Nat.reduceEqDiff, Nat.reduceMul, Int.reduceToNat, reduceIte, Int.reduceLE, Int.reduceNeg, tabs, V.tabs, hlt, at_map hx, cStmt, cExprs_map, cStmts_map]; rfl)) : p := h
theorem zy29q6 {p : Prop} (h : p := by (simp only [exb, Nat.reduceAdd, Nat.reduceLeDiff, Nat.reduceEqDiff, Nat.reduceMul, Int.reduceToNat, reduceIte, Int.reduceLE, Int.reduceNeg, fullM, memC, slotC, cClass, hd, hge, at_map ho, cMethod]; rfl)) : p := h
theorem zy29q7 {p : Prop} (h : p := by (simp only [exb, Nat.reduceAdd, Nat.reduceLeDiff, Nat.reduceEqDiff, Nat.reduceMul, Int.reduceToNat, reduceIte, Int.reduceLE, Int.reduceNeg, tabs, V.tabs, hlt, at_map hx, cExpr, cExprs_map]; rfl)) : p := h
theorem zy29q8 {p : Prop} (h : p := by (simp only [exb, Nat.reduceAdd, Nat.reduceLeDiff, Nat.reduceEqDiff, Nat.reduceMul, Int.reduceToNat, reduceIte, Int.reduceLE, Int.reduceNeg, fullM, memM, slotM, cClass, cMethod, cStmts_map]; rfl)) : p := h
theorem zy29q9 {p : Prop} (h : p := by (simp only [exb, Nat.reduceAdd, Nat.reduceLeDiff, Nat.reduceEqDiff, Nat.reduceMul, Int.reduceToNat, reduceIte, Int.reduceLE, Int.reduceNeg, fullM, memC, slotC, cClass, at_map hy, cMethod]; rfl)) : p := h
theorem zy29q10 {p : Prop} (h : p := by (simp only [Tryz.f83, resA, resOne, toT, fin, exb, Nat.reduceAdd, Nat.reduceLeDiff, Nat.reduceEqDiff, Nat.reduceMul, Int.reduceToNat, reduceIte, Int.reduceLE, Int.reduceNeg, h1, h3, h4]; rfl)) : p := h
theorem zy29q11 {p : Prop} (h : p := by (first | rfl | (simp only [upd_app, killM_app, O.kill, A.kill, Nat.reduceEqDiff, reduceIte, Option.map_some, Option.map_none, List.map_cons, List.map_nil, cClass, hF, fullM, memC]; done))) : p := h
theorem zy29q12 {p : Prop} (h : p := by (simp only [Tryz.f44, resA, resOne, toT, fin, exb, Nat.reduceAdd, Nat.reduceLeDiff, Nat.reduceEqDiff, Nat.reduceMul, Int.reduceToNat, reduceIte, Int.reduceLE, Int.reduceNeg, h1, h2]; rfl)) : p := h
theorem zy29q13 {p : Prop} (h : p := by (simp only [Tryz.f83, resA, resOne, toT, fin, exb, Nat.reduceAdd, Nat.reduceLeDiff, Nat.reduceEqDiff, Nat.reduceMul, Int.reduceToNat, reduceIte, Int.reduceLE, Int.reduceNeg, h1, h3]; rfl)) : p := h
theorem zy29q14 {p : Prop} (h : p := by (simp only [exb, Nat.reduceAdd, Nat.reduceLeDiff, Nat.reduceEqDiff, Nat.reduceMul, Int.reduceToNat, reduceIte, Int.reduceLE, Int.reduceNeg, tabs, V.tabs, fullM, memF, slotF, cClass]; rfl)) : p := h
theorem zy29q15 {p : Prop} (h : p := by (simp only [exb, Nat.reduceAdd, Nat.reduceLeDiff, Nat.reduceEqDiff, Nat.reduceMul, Int.reduceToNat, reduceIte, Int.reduceLE, Int.reduceNeg, fullM, memC, slotC, cClass, hkn', hse']; rfl)) : p := h
theorem zy29q16 {p : Prop} (h : p := by (first | rfl | (simp only [upd_app, killM_app, O.kill, A.kill, Nat.reduceEqDiff, reduceIte, Option.map_some, Option.map_none, List.map_cons, List.map_nil, cClass, fullM, memC]; done))) : p := h
theorem zy29q17 {p : Prop} (h : p := by (first | rfl | (simp only [exb, Nat.reduceAdd, Nat.reduceLeDiff, Nat.reduceEqDiff, Nat.reduceMul, Int.reduceToNat, reduceIte, Int.reduceLE, Int.reduceNeg, fullM, memC, slotC]; rfl))) : p := h
theorem zy29q18 {p : Prop} (h : p := by (simp only [exb, Nat.reduceAdd, Nat.reduceLeDiff, Nat.reduceEqDiff, Nat.reduceMul, Int.reduceToNat, reduceIte, Int.reduceLE, Int.reduceNeg, tabs, V.tabs, fullM, memF, slotF]; rfl)) : p := h
theorem zy29q19 {p : Prop} (h : p := by (simp only [exb, Nat.reduceAdd, Nat.reduceLeDiff, Nat.reduceEqDiff, Nat.reduceMul, Int.reduceToNat, reduceIte, Int.reduceLE, Int.reduceNeg, doneS, doneM, DID, memC, cClass]; rfl)) : p := h
theorem zy29q20 {p : Prop} (h : p := by (simp only [exb, Nat.reduceAdd, Nat.reduceLeDiff, Nat.reduceEqDiff, Nat.reduceMul, Int.reduceToNat, reduceIte, Int.reduceLE, Int.reduceNeg, fullM, memC, slotC, cClass, hd]; rfl)) : p := h
theorem zy29q21 {p : Prop} (h : p := by (simp only [exb, Nat.reduceAdd, Nat.reduceLeDiff, Nat.reduceEqDiff, Nat.reduceMul, Int.reduceToNat, reduceIte, Int.reduceLE, Int.reduceNeg, fullM, memC, slotC, cClass]; rfl)) : p := h
theorem zy29q22 {p : Prop} (h : p := by (simp only [exb, Nat.reduceAdd, Nat.reduceLeDiff, Nat.reduceEqDiff, Nat.reduceMul, Int.reduceToNat, reduceIte, Int.reduceLE, Int.reduceNeg, fullM, memH, slotH, cClass]; rfl)) : p := h
theorem zy29q23 {p : Prop} (h : p := by (simp only [exb, Nat.reduceAdd, Nat.reduceLeDiff, Nat.reduceEqDiff, Nat.reduceMul, Int.reduceToNat, reduceIte, Int.reduceLE, Int.reduceNeg, fullM, memM, slotM, cClass]; rfl)) : p := h
theorem zy29q24 {p : Prop} (h : p := by (simp only [exb, Nat.reduceAdd, Nat.reduceLeDiff, Nat.reduceEqDiff, Nat.reduceMul, Int.reduceToNat, reduceIte, Int.reduceLE, Int.reduceNeg, List.length_map, hd]; rfl)) : p := h
theorem zy29q25 {p : Prop} (h : p := by (simp only [exb, Nat.reduceAdd, Nat.reduceLeDiff, Nat.reduceEqDiff, Nat.reduceMul, Int.reduceToNat, reduceIte, Int.reduceLE, Int.reduceNeg, fullM, memC, slotC]; rfl)) : p := h
theorem zy29q26 {p : Prop} (h : p := by (simp only [exb, Nat.reduceAdd, Nat.reduceLeDiff, Nat.reduceEqDiff, Nat.reduceMul, Int.reduceToNat, reduceIte, Int.reduceLE, Int.reduceNeg, fullM, memH, slotH]; rfl)) : p := h
theorem zy29q27 {p : Prop} (h : p := by (simp only [exb, Nat.reduceAdd, Nat.reduceLeDiff, Nat.reduceEqDiff, Nat.reduceMul, Int.reduceToNat, reduceIte, Int.reduceLE, Int.reduceNeg, at_map hx, cStr]; rfl)) : p := h
theorem zy29q28 {p : Prop} (h : p := by (simp only [exb, Nat.reduceAdd, Nat.reduceLeDiff, Nat.reduceEqDiff, Nat.reduceMul, Int.reduceToNat, reduceIte, Int.reduceLE, Int.reduceNeg, hcp, h1, h3, h4]; rfl)) : p := h
theorem zy29q29 {p : Prop} (h : p := by (simp only [exb, Nat.reduceAdd, Nat.reduceLeDiff, Nat.reduceEqDiff, Nat.reduceMul, Int.reduceToNat, reduceIte, Int.reduceLE, Int.reduceNeg, tabs, V.tabs]; rfl)) : p := h
theorem zy29q30 {p : Prop} (h : p := by (simp only [exb, Nat.reduceAdd, Nat.reduceLeDiff, Nat.reduceEqDiff, Nat.reduceMul, Int.reduceToNat, reduceIte, Int.reduceLE, Int.reduceNeg, hcp, h1, h3]; rfl)) : p := h
theorem zy29q31 {p : Prop} (h : p := by (simp only [exb, Nat.reduceAdd, Nat.reduceLeDiff, Nat.reduceEqDiff, Nat.reduceMul, Int.reduceToNat, reduceIte, Int.reduceLE, Int.reduceNeg, h1, h3, h4]; rfl)) : p := h
theorem zy29q32 {p : Prop} (h : p := by (first | rfl | (simp only [upd_app, entry_zero, entry_succ, Nat.reduceEqDiff, reduceIte, hset, wrap_succ (show k + 1 < 9223372036854775808 by omega)]; done))) : p := h
theorem zy29q33 {p : Prop} (h : p := by (simp only [exb, Nat.reduceAdd, Nat.reduceLeDiff, Nat.reduceEqDiff, Nat.reduceMul, Int.reduceToNat, reduceIte, Int.reduceLE, Int.reduceNeg, cClass]; rfl)) : p := h
theorem zy29q34 {p : Prop} (h : p := by (simp only [exb, Nat.reduceAdd, Nat.reduceLeDiff, Nat.reduceEqDiff, Nat.reduceMul, Int.reduceToNat, reduceIte, Int.reduceLE, Int.reduceNeg, h1, h2]; rfl)) : p := h
theorem zy29q35 {p : Prop} (h : p := by (simp only [exb, Nat.reduceAdd, Nat.reduceLeDiff, Nat.reduceEqDiff, Nat.reduceMul, Int.reduceToNat, reduceIte, Int.reduceLE, Int.reduceNeg, h1, h3]; rfl)) : p := h
theorem zy29q36 {p : Prop} (h : p := by (simp only [exb, Nat.reduceAdd, Nat.reduceLeDiff, Nat.reduceEqDiff, Nat.reduceMul, Int.reduceToNat, reduceIte, Int.reduceLE, Int.reduceNeg, cProg]; rfl)) : p := h
theorem zy29q37 {p : Prop} (h : p := by (simp only [exb, Nat.reduceAdd, Nat.reduceLeDiff, Nat.reduceEqDiff, Nat.reduceMul, Int.reduceToNat, reduceIte, Int.reduceLE, Int.reduceNeg, hcp]; rfl)) : p := h
theorem zy29q38 {p : Prop} (h : p := by (simp only [exb, Nat.reduceAdd, Nat.reduceLeDiff, Nat.reduceEqDiff, Nat.reduceMul, Int.reduceToNat, reduceIte, Int.reduceLE, Int.reduceNeg, h1]; rfl)) : p := h
theorem zy29q39 {p : Prop} (h : p := by (first | rfl | (simp only [upd_app, killM_app, Nat.reduceEqDiff, reduceIte, hset, wrap_succ (show k + 1 < 9223372036854775808 by omega)]; done))) : p := h
theorem zy29q40 {p : Prop} (h : p := by (first | rfl | (simp only [upd_app, killS_app, A.kill, entry_zero, entry_succ, Nat.reduceEqDiff, reduceIte, cClass, hF, fullM, memC]; done))) : p := h
theorem zy29q41 {p : Prop} (h : p := by (first | rfl | (simp only [upd_app, killS_app, A.kill, entry_zero, entry_succ, Nat.reduceEqDiff, reduceIte, cClass, fullM, memC]; done))) : p := h
theorem zy29q42 {p : Prop} (h : p := by (simp [A.ids, O.ids, upd_app, cClass, fullM, memC, wrap_succ (show q + 1 < 9223372036854775808 by have := (hS c hc).2.1; omega)])) : p := h
theorem zy29q43 {p : Prop} (h : p := by (simp [A.ids, upd_app, cClass, fullM, memC, wrap_succ (show q + 1 < 9223372036854775808 by have := (hS c hc).2.1; omega)])) : p := h
theorem zy29q44 {p : Prop} (h : p := by (first | rfl | (simp only [upd_app, entry_zero, entry_succ, Nat.reduceEqDiff, reduceIte]; done))) : p := h
theorem zy29q45 {p : Prop} (h : p := by (simp [A.ids, O.ids, upd_app, cClass, fullM, memC])) : p := h
theorem zy29q46 {p : Prop} (h : p := by (simp [A.ids, upd_app, cClass, fullM, memC])) : p := h
theorem zy29q47 {p : Prop} (h : p := by (simp [A.ids, O.ids, upd_app])) : p := h
end Go.Proofs.YthhpcjoaogmhbaaGreat
section
namespace Go.Proofs.YthhpcjoaogmhbaaGreat
namespace V
open Go.RowKit
theorem fieldsUp_len {cs : List Class} (hS : SmallC cs) : ∀ l : List (Nat × Nat), (fieldsUp cs l).length ≤ l.length * 1048576
 | [] => by simp [fieldsUp]
 | x :: l => by
   have ih := fieldsUp_len hS l
   unfold fieldsUp at *
   rw [List.flatMap_cons, List.length_append, List.length_cons]
   have : (fieldsAt cs x).length ≤ 1048576 := by
    unfold fieldsAt
    cases h : cs[x.2]? with
    | none => simp
    | some k => have := (hS k (List.mem_of_getElem? h)).1; simpa [namesL] using this
   omega
theorem sn_top {n : Nat} : ∀ t, n ≤ t → (fun _ : Nat => A.top) t = A.top := fun _ _ => rfl
theorem sn_upd {n k : Nat} {s : Nat → A} {x : A} (h : ∀ t, n ≤ t → s t = A.top) (hk : k < n) : ∀ t, n ≤ t → upd s k x t = A.top := fun t ht => by
 rw [upd_ne _ _ (by omega)]; exact h t ht
theorem mle_some {m m' : Mem} (h : MLe m m') : ∀ j o, m' j = some o → m j = some o := fun j o ho => by
 rcases h j with e | e
 ·rw [e] at ho; cases ho
 ·rw [← e]; exact ho
def memC (cs : List Class) (mn : C) (c : Class) (b : Bool) (l : List ByteArray) : Mem :=
 upd (upd (upd (upd (upd Mem.nil 2 (some (.box 25 [.c (.sl (cs.map cClass)), .c mn]))) 3 (some (.box 40 ((cClass c).map A.c)))) 4 (some (.box 4 [.c (.bool b)]))) 5 (some (.box 52 [.own 50]))) 50 (some (.arr 9 1 (l.map cStr)))
def slotC : Nat → A := upd (upd (upd (upd (upd (fun _ => .top) 2 (.ptr 2 0)) 3 (.ptr 3 0)) 4 (.ptr 4 0)) 5 (.ptr 5 0)) 6 .nil
theorem slotC_ids : ∀ t, ∀ j ∈ (slotC t).ids, j ≤ 5 := by
 intro t j hj
 unfold slotC upd at hj
 repeat' (split at hj)
 all_goals (simp [A.ids] at hj)
 all_goals omega
theorem fits_of {y : Method} {l : List Method} : (idxB (methB y.name) l < 0 → fitsB y l = true) ∧ ∀ o, l[(idxB (methB y.name) l).toNat]? = some o → 0 ≤ idxB (methB y.name) l → fitsB y l = alikeB y o := by
 obtain ⟨h1, h2⟩ := idx_find (methB y.name) l
 refine ⟨fun h => ?_, fun o ho h => ?_⟩
 ·unfold fitsB; rw [h1 h]
 ·unfold fitsB; rw [← h2 h, ho]
set_option maxHeartbeats 4000000 in
theorem class_ok (cs : List Class) (mn : C) (c : Class) (hS : SmallC cs) (hlen : cs.length ≤ 16) (hc : c ∈ cs) (m : Mem) : COk Tryz.prog 18 [.agg [.sl (cs.map cClass), mn], .agg (cClass c)] m (.c (.bool (okClassB cs c))) := by
 refine (ok_pureM tab_ok Tryz.func18 (by kernel_rfl) rfl rfl (by rfl) (by rfl) (by rfl) (fun R hkeep => ?_) m)
 repeat (first | refine W.seq ?_ | refine W.block ?_ | refine W.skip ?_ | refine W.exit ?_ | refine W.g ?_ zy29q33)
 refine W.newRowBox true 5 0 50 9 1 rfl rfl rfl ?_
 repeat (first | refine W.seq ?_ | refine W.block ?_ | refine W.skip ?_ | refine W.exit ?_ | refine W.g ?_ zy29q33)
 refine W.regionK tab_ok 0 (by decide) ?_
 refine runk_split 3 zy29q33 ?_
 refine runk_call0 rfl rfl rfl rfl rfl rfl (by simp) cw2 (up_ok (cs.map cClass) mn c.name _ 1000 1001 rfl rfl (by decide)) ?_
 refine xe0 ?_
 refine W.go ?_
 refine W.rangeUp cs c.name mn 1000 1001 1002 1003 slotC (fun k => memC cs mn c false (fieldsUp cs ((upX cs (cs.length + 1) 0 c.name).take k))) (fun k => ((upX cs (cs.length + 1) 0 c.name).take k).all (roundB cs c) = true) (by omega) rfl rfl rfl (by decide) rfl rfl (by decide) rfl rfl ?sle ?sn ?m0 ?good ?round ?done
 case sle =>
  unfold slotC
  (repeat (first | exact sle_top _ | exact sle_refl _ | refine sle_upd ?_ zy29q44))
 case sn =>
  unfold slotC
  (repeat (first | exact sn_top | refine sn_upd ?_ (by decide)))
 case m0 =>
  refine mle_some ?_
  unfold memC
  (repeat (first | exact mle_nil _ | exact mle_refl _ | refine mle_upd ?_ (by first | rfl | (simp only [upd_app, killM_app, Nat.reduceEqDiff, reduceIte, List.take_zero, fieldsUp, List.flatMap_nil, List.map_nil, cClass, List.map_cons]; done))))
 case good =>
  intro k hk
  refine ⟨?_, rfl, rfl, rfl, rfl, ?_, kept_not hkeep⟩
  ·unfold memC
   show MWf _ _
   (repeat (first | exact mwf_nil _ | refine mwf_upd ?_ zy29q47))
  ·show SWf _ _
   unfold memC slotC
   (repeat (first | exact swf_top _ | refine swf_upd ?_ (by simp [A.ids, upd_app])))
 case round =>
  intro R' l hk' k j kc x1 x2 xL hInv hitem hkc
  repeat (first | refine WI.seq ?_ | refine WI.block ?_ | refine WI.skip ?_ | refine WI.exit ?_ | refine WI.region tab_ok 0 (by decide) (by kernel_rfl) (exec_run zy29q21) ?_)
  refine ⟨rfl, fun xL' => ?_⟩
  have hkl : k < 17 + 1 := by
   have := (List.getElem?_eq_some_iff.1 hitem).1
   have := upX_len cs (cs.length + 1) 0 c.name
   omega
  have hkU : k < (upX cs (cs.length + 1) 0 c.name).length := (List.getElem?_eq_some_iff.1 hitem).1
  -- a round that says no
  have bad : roundB cs c (k, j) = false → okClassB cs c = false := fun h => by
   unfold okClassB
   have : (upX cs (cs.length + 1) 0 c.name).all (roundB cs c) = false := by
    rw [List.all_eq_false]
    exact ⟨(k, j), List.mem_of_getElem? hitem, by rw [h]; decide⟩
   rw [this]; simp
  have hG : ∀ l, GoodM R.keep slotC 1000 1001 1002 1003 (memC cs mn c false l) := fun l => by
   refine ⟨?_, rfl, rfl, rfl, rfl, ?_, kept_not hkeep⟩
   ·unfold memC
    show MWf _ _
    (repeat (first | exact mwf_nil _ | refine mwf_upd ?_ zy29q47))
   ·show SWf _ _
    unfold memC slotC
    (repeat (first | exact swf_top _ | refine swf_upd ?_ (by simp [A.ids, upd_app])))
  by_cases hkn : k = cs.length
  ·subst hkn
   repeat (first | refine WI.seq ?_ | refine WI.block ?_ | refine WI.skip ?_ | refine WI.exit ?_ | refine WI.region tab_ok 0 (by decide) (by kernel_rfl) (exec_run zy29q21) ?_)
   refine WI.cond rfl (fun _ => ?_) (fun h => by cases h)
   repeat (first | refine WI.seq ?_ | refine WI.block ?_ | refine WI.skip ?_ | refine WI.exit ?_ | refine WI.region tab_ok 0 (by decide) (by kernel_rfl) (exec_run zy29q21) ?_)
   refine WI.ret ⟨fun j => j, memC cs mn c false (fieldsUp cs ((upX cs (cs.length + 1) 0 c.name).take cs.length)), Le.toT ?_, hG _, fun b => ⟨.inr rfl, .inr ⟨b, 1002, rfl, rfl, rfl, ?_⟩⟩⟩
   ·simp only [fullM, memC]
    refine le_mk ?sle ?mle ?swf ?mwf (fun j hj => fullM_keep (hG _) hj) (by rfl)
    case swf => repeat (first | exact swf_top _ | refine swf_upd ?_ (by simp [A.ids, upd_app, cClass]))
    case mwf => repeat (first | exact mwf_nil _ | refine mwf_upd ?_ (by simp [A.ids, O.ids, upd_app, cClass]))
    case mle => repeat (first | exact mle_nil _ | exact mle_refl _ | refine mle_upd ?_ (by first | rfl | (simp only [upd_app, killM_app, O.kill, A.kill, Nat.reduceEqDiff, reduceIte, Option.map_some, Option.map_none, List.map_cons, List.map_nil, cClass]; done)))
    case sle => repeat (first | exact sle_top _ | exact sle_refl _ | refine sle_upd ?_ (by first | rfl | (simp only [upd_app, killS_app, A.kill, entry_zero, entry_succ, Nat.reduceEqDiff, reduceIte, cClass]; done)))
   ·simp only [Tryz.f18, resA, resOne, toT, fin, doneS, doneM, DID, exb, Nat.reduceAdd, Nat.reduceLeDiff, Nat.reduceEqDiff, Nat.reduceMul, Int.reduceToNat, reduceIte, Int.reduceLE, Int.reduceNeg, memC, slotC]
    rw [bad (by rw [roundB_at hkc]; simp [topB])]
  have hkn' : decide ((k : Int) = (cs.length : Int)) = false := by simp; omega
  have hF : List.map cStr (fieldsUp cs ((upX cs (cs.length + 1) 0 c.name).take k)) ++ List.map cStr (namesL kc.fields) = List.map cStr (fieldsUp cs ((upX cs (cs.length + 1) 0 c.name).take (k + 1))) := by
   rw [List.take_add_one, hitem]
   simp only [Option.toList_some]
   rw [fieldsUp_snoc hkc, List.map_append]
  have hn50 : ¬ R'.keep 50 := fun h => by
   rw [hk', hkeep] at h
   rcases h with h | ⟨t, h⟩ | h
   ·exact h
   ·have := slotC_ids t 50 h; omega
   ·omega
  -- a method that does not fit
  have bad2 : ∀ y ∈ c.methods, fitsB y kc.methods = false → okClassB cs c = false := fun y hy h => bad (by
   rw [roundB_at hkc]
   unfold topB
   have : (c.methods.all fun y => fitsB y kc.methods) = false := by
    rw [List.all_eq_false]
    exact ⟨y, hy, by rw [h]; decide⟩
   rw [this]; simp)
  have hkeepL : ∀ j, R'.keep j → (upd (fullM (memC cs mn c false (fieldsUp cs ((upX cs (cs.length + 1) 0 c.name).take (k + 1)))) 1000 1001 1002 1003 x1 x2 xL') 8 (some (.box 40 ((cClass kc).map A.c))) j).isSome = true := fun j hj => by
   rw [hk'] at hj
   unfold upd
   split
   ·rfl
   ·exact fullM_keep (hG _) hj
  have goodR : (kc.super.toList.isEmpty || cs.any (namedB kc.super)) = true → (c.methods.all fun y => fitsB y kc.methods) = true → ((upX cs (cs.length + 1) 0 c.name).take (k + 1)).all (roundB cs c) = true := fun h1 h2 => by
   rw [List.take_add_one, hitem, List.all_append, hInv]
   simp only [Option.toList_some, List.all_cons, List.all_nil, Bool.and_true, Bool.true_and]
   rw [roundB_at hkc]
   unfold topB
   rw [h1, h2]
   simp; exact hkn
  by_cases hse : kc.super.toList = []
  ·have hse' : (kc.super.toList == []) = true := by simp [hse]
   have good := goodR (by rw [hse]; rfl)
   repeat (first | refine WI.seq ?_ | refine WI.block ?_ | refine WI.skip ?_ | refine WI.exit ?_ | refine WI.region tab_ok 0 (by decide) (by kernel_rfl) (exec_run zy29q15) ?_)
   refine WI.cond rfl (fun h => by cases h) (fun _ => ?_)
   repeat (first | refine WI.seq ?_ | refine WI.block ?_ | refine WI.skip ?_ | refine WI.exit ?_ | refine WI.region tab_ok 0 (by decide) (by kernel_rfl) (exec_run zy29q21) ?_)
   refine WI.regionDK tab_ok 0 follows_mixed (by kernel_rfl) (by decide) (by kernel_rfl) ?_
   refine runk_split 3 zy29q21 ?_
   refine runk_call rfl rfl rfl rfl rfl (by simp) cw1 (namesS_ok kc.fields (by have := (hS kc (List.mem_of_getElem? hkc)).1; omega) _) ?_
   refine runk_split 0 zy29q25 ?_
   refine runk_append tab_ok 50 rfl rfl rfl rfl rfl rfl rfl rfl zy29q17 rfl rfl rfl rfl hn50 (by simp [cStr]) zy29q2 (by decide) ?_
   refine runk_exec zy29q25 ?_
   repeat (first | refine WI.seq ?_ | refine WI.block ?_ | refine WI.skip ?_ | refine WI.exit ?_ | refine WI.region tab_ok 0 (by decide) (by kernel_rfl) (exec_run zy29q21) ?_)
   refine WI.loop (ι := Nat) (fun q => ⟨upd (upd (upd (upd (upd (fun _ => .top) 4 (.ptr 4 0)) 8 (.ptr 8 0)) 43 (.c (.sl (c.methods.map cMethod)))) 44 (.c (.int .i64 c.methods.length))) 45 (.c (.int .i64 q)),
    upd (fullM (memC cs mn c false (fieldsUp cs ((upX cs (cs.length + 1) 0 c.name).take (k + 1)))) 1000 1001 1002 1003 x1 x2 xL') 8 (some (.box 40 ((cClass kc).map A.c)))⟩) (fun q => q ≤ c.methods.length ∧ (c.methods.take q).all (fun y => fitsB y kc.methods) = true) (fun q => c.methods.length - q) 0 ?start ⟨Nat.zero_le _, rfl⟩ ?round
   case start =>
    simp only [fullM, memC]
    refine le_mk ?sle ?mle ?swf ?mwf hkeepL (by rfl)
    case swf => repeat (first | exact swf_top _ | refine swf_upd ?_ (by simp [A.ids, upd_app, cClass, hF, fullM, memC]))
    case mwf => repeat (first | exact mwf_nil _ | refine mwf_upd ?_ (by simp [A.ids, O.ids, upd_app, cClass, hF, fullM, memC]))
    case mle => repeat (first | exact mle_nil _ | exact mle_refl _ | refine mle_upd ?_ zy29q11)
    case sle => repeat (first | exact sle_top _ | exact sle_refl _ | refine sle_upd ?_ zy29q40)
   case round =>
    rintro q ⟨hq, hfit⟩
    repeat (first | refine WI.seq ?_ | refine WI.block ?_ | refine WI.skip ?_ | refine WI.exit ?_ | refine WI.region tab_ok 0 (by decide) (by kernel_rfl) (exec_run zy29q21) ?_)
    refine WI.cond rfl ?_ ?_
    ·intro hlt
     simp only [decide_eq_true_eq, Int.ofNat_lt] at hlt
     obtain ⟨y, hy⟩ : ∃ y, c.methods[q]? = some y := ⟨_, List.getElem?_eq_getElem hlt⟩
     repeat (first | refine WI.seq ?_ | refine WI.block ?_ | refine WI.skip ?_ | refine WI.exit ?_ | refine WI.region tab_ok 0 (by decide) (by kernel_rfl) (exec_run zy29q9) ?_)
     refine WI.regionK tab_ok 0 (by decide) (by kernel_rfl) ?_
     refine runk_split 3 zy29q21 ?_
     refine runk_callR rfl rfl rfl rfl rfl (by simp) (cvrs_cons cvr_refl (cvrs_cons (cvr_fn (caps_one rfl rfl)) cvrs_nil)) (by rfl) (by rfl) (idxMethod_ok kc.methods 41 [cMethod y] (methB y.name) (by have := (hS kc (List.mem_of_getElem? hkc)).2.1; omega) (fun o _ m => class2_ok o y m)) ?_
     refine runk_exec zy29q21 ?_
     obtain ⟨hf1, hf2⟩ := fits_of (y := y) (l := kc.methods)
     by_cases hneg : idxB (methB y.name) kc.methods < 0
     ·have hd : decide ((0 : Int) ≤ idxB (methB y.name) kc.methods) = false := by simp; omega
      refine WI.seq ?_
      refine WI.regionDK tab_ok 0 follows_mixed (by kernel_rfl) (by decide) (by kernel_rfl) ?_
      refine runk_exec zy29q20 ?_
      refine WI.cond rfl (fun h => by cases h) (fun _ => ?_)
      repeat (first | refine WI.seq ?_ | refine WI.block ?_ | refine WI.skip ?_ | refine WI.exit ?_ | refine WI.region tab_ok 0 (by decide) (by kernel_rfl) (exec_run zy29q21) ?_)
      refine ⟨q + 1, ⟨hlt, ?_⟩, by omega, ?_⟩
      ·rw [List.take_add_one, hy, List.all_append, hfit]; simp [hf1 hneg]
      simp only [fullM, memC]
      refine le_mk ?sle ?mle ?swf ?mwf hkeepL (by rfl)
      case swf => repeat (first | exact swf_top _ | refine swf_upd ?_ zy29q43)
      case mwf => repeat (first | exact mwf_nil _ | refine mwf_upd ?_ zy29q42)
      case mle => repeat (first | exact mle_nil _ | exact mle_refl _ | refine mle_upd ?_ zy29q1)
      case sle => repeat (first | exact sle_top _ | exact sle_refl _ | refine sle_upd ?_ zy29q4)
     ·have hge : (0 : Int) ≤ idxB (methB y.name) kc.methods := by omega
      have hd : decide ((0 : Int) ≤ idxB (methB y.name) kc.methods) = true := by simp; omega
      obtain ⟨o, ho⟩ : ∃ o, kc.methods[(idxB (methB y.name) kc.methods).toNat]? = some o := by
       obtain ⟨o, ho, -⟩ := idxB_spec (methB y.name) kc.methods hge
       exact ⟨o, ho⟩
      refine WI.seq ?_
      refine WI.regionDK tab_ok 0 follows_mixed (by kernel_rfl) (by decide) (by kernel_rfl) ?_
      refine runk_split 9 zy29q6 ?_
      refine runk_call rfl rfl rfl rfl rfl (by simp) cw2 (alike_ok y o _) ?_
      refine runk_exec zy29q21 ?_
      refine WI.cond rfl ?_ ?_
      ·intro hal
       repeat (first | refine WI.seq ?_ | refine WI.block ?_ | refine WI.skip ?_ | refine WI.exit ?_ | refine WI.region tab_ok 0 (by decide) (by kernel_rfl) (exec_run zy29q21) ?_)
       refine WI.ret ⟨fun j => j, memC cs mn c false (fieldsUp cs ((upX cs (cs.length + 1) 0 c.name).take (k + 1))), Le.toT ?_, hG _, fun b => ⟨.inr rfl, .inr ⟨b, 1002, rfl, rfl, rfl, ?_⟩⟩⟩
       ·simp only [fullM, memC]
        refine le_mk ?sle ?mle ?swf ?mwf (fun j hj => fullM_keep (hG _) hj) (by rfl)
        case swf => repeat (first | exact swf_top _ | refine swf_upd ?_ zy29q46)
        case mwf => repeat (first | exact mwf_nil _ | refine mwf_upd ?_ zy29q45)
        case mle => repeat (first | exact mle_nil _ | exact mle_refl _ | refine mle_upd ?_ zy29q16)
        case sle => repeat (first | exact sle_top _ | exact sle_refl _ | refine sle_upd ?_ zy29q41)
       ·simp only [Tryz.f18, resA, resOne, toT, fin, doneS, doneM, DID, exb, Nat.reduceAdd, Nat.reduceLeDiff, Nat.reduceEqDiff, Nat.reduceMul, Int.reduceToNat, reduceIte, Int.reduceLE, Int.reduceNeg, memC, slotC]
        rw [bad2 y (List.mem_of_getElem? hy) (by rw [hf2 o ho hge]; simpa using hal)]
      ·intro hal
       repeat (first | refine WI.seq ?_ | refine WI.block ?_ | refine WI.skip ?_ | refine WI.exit ?_ | refine WI.region tab_ok 0 (by decide) (by kernel_rfl) (exec_run zy29q21) ?_)
       refine ⟨q + 1, ⟨hlt, ?_⟩, by omega, ?_⟩
       ·rw [List.take_add_one, hy, List.all_append, hfit]; simp [hf2 o ho hge]; simpa using hal
       simp only [fullM, memC]
       refine le_mk ?sle ?mle ?swf ?mwf hkeepL (by rfl)
       case swf => repeat (first | exact swf_top _ | refine swf_upd ?_ zy29q43)
       case mwf => repeat (first | exact mwf_nil _ | refine mwf_upd ?_ zy29q42)
       case mle => repeat (first | exact mle_nil _ | exact mle_refl _ | refine mle_upd ?_ zy29q1)
       case sle => repeat (first | exact sle_top _ | exact sle_refl _ | refine sle_upd ?_ zy29q4)
    ·intro hge
     simp only [decide_eq_false_iff_not, Int.ofNat_lt] at hge
     obtain rfl : q = c.methods.length := by omega
     repeat (first | refine WI.seq ?_ | refine WI.block ?_ | refine WI.skip ?_ | refine WI.exit ?_ | refine WI.region tab_ok 0 (by decide) (by kernel_rfl) (exec_run zy29q21) ?_)
     rw [List.take_length] at hfit
     refine ⟨good hfit, fun j => j, Le.toT ?_⟩
     simp only [fullM, memC]
     refine le_mk ?sle ?mle ?swf ?mwf (fun j hj => fullM_keep (hG _) hj) (by rfl)
     case swf => repeat (first | exact swf_top _ | refine swf_upd ?_ zy29q46)
     case mwf => repeat (first | exact mwf_nil _ | refine mwf_upd ?_ zy29q45)
     case mle => repeat (first | exact mle_nil _ | exact mle_refl _ | refine mle_upd ?_ zy29q16)
     case sle => repeat (first | exact sle_top _ | exact sle_refl _ | refine sle_upd ?_ zy29q41)
  ·have hse' : (kc.super.toList == []) = false := by simp [hse]
   repeat (first | refine WI.seq ?_ | refine WI.block ?_ | refine WI.skip ?_ | refine WI.exit ?_ | refine WI.region tab_ok 0 (by decide) (by kernel_rfl) (exec_run zy29q15) ?_)
   refine WI.regionK tab_ok 0 (by decide) (by kernel_rfl) ?_
   refine runk_split 13 zy29q15 ?_
   refine runk_callR rfl rfl rfl rfl rfl (by simp) (cvrs_cons cvr_refl (cvrs_cons (cvr_fn (caps_one rfl rfl)) cvrs_nil)) (by rfl) (by rfl) (anyClass_ok cs 38 [cClass kc] (namedB kc.super) (by omega) (fun x _ m => class1_ok x kc m)) ?_
   refine runk_exec zy29q21 ?_
   refine WI.cond rfl ?_ ?_
   ·intro hal
    repeat (first | refine WI.seq ?_ | refine WI.block ?_ | refine WI.skip ?_ | refine WI.exit ?_ | refine WI.region tab_ok 0 (by decide) (by kernel_rfl) (exec_run zy29q21) ?_)
    refine WI.ret ⟨fun j => j, memC cs mn c false (fieldsUp cs ((upX cs (cs.length + 1) 0 c.name).take k)), Le.toT ?_, hG _, fun b => ⟨.inr rfl, .inr ⟨b, 1002, rfl, rfl, rfl, ?_⟩⟩⟩
    ·simp only [fullM, memC]
     refine le_mk ?sle ?mle ?swf ?mwf (fun j hj => fullM_keep (hG _) hj) (by rfl)
     case swf => repeat (first | exact swf_top _ | refine swf_upd ?_ zy29q46)
     case mwf => repeat (first | exact mwf_nil _ | refine mwf_upd ?_ zy29q45)
     case mle => repeat (first | exact mle_nil _ | exact mle_refl _ | refine mle_upd ?_ zy29q16)
     case sle => repeat (first | exact sle_top _ | exact sle_refl _ | refine sle_upd ?_ zy29q41)
    ·simp only [Tryz.f18, resA, resOne, toT, fin, doneS, doneM, DID, exb, Nat.reduceAdd, Nat.reduceLeDiff, Nat.reduceEqDiff, Nat.reduceMul, Int.reduceToNat, reduceIte, Int.reduceLE, Int.reduceNeg, memC, slotC]
     rw [bad (by
      rw [roundB_at hkc]
      unfold topB
      have h1 : kc.super.toList.isEmpty = false := by cases h : kc.super.toList with | nil => exact absurd h hse | cons _ _ => rfl
      have h2 : cs.any (namedB kc.super) = false := by simpa using hal
      rw [h1, h2]; simp)]
   ·intro hal
    have good := goodR (by
     have h2 : cs.any (namedB kc.super) = true := by simpa using hal
     rw [h2]; simp)
    repeat (first | refine WI.seq ?_ | refine WI.block ?_ | refine WI.skip ?_ | refine WI.exit ?_ | refine WI.region tab_ok 0 (by decide) (by kernel_rfl) (exec_run zy29q21) ?_)
    refine WI.regionDK tab_ok 0 follows_mixed (by kernel_rfl) (by decide) (by kernel_rfl) ?_
    refine runk_split 3 zy29q21 ?_
    refine runk_call rfl rfl rfl rfl rfl (by simp) cw1 (namesS_ok kc.fields (by have := (hS kc (List.mem_of_getElem? hkc)).1; omega) _) ?_
    refine runk_split 0 zy29q25 ?_
    refine runk_append tab_ok 50 rfl rfl rfl rfl rfl rfl rfl rfl zy29q17 rfl rfl rfl rfl hn50 (by simp [cStr]) zy29q2 (by decide) ?_
    refine runk_exec zy29q25 ?_
    repeat (first | refine WI.seq ?_ | refine WI.block ?_ | refine WI.skip ?_ | refine WI.exit ?_ | refine WI.region tab_ok 0 (by decide) (by kernel_rfl) (exec_run zy29q21) ?_)
    refine WI.loop (ι := Nat) (fun q => ⟨upd (upd (upd (upd (upd (fun _ => .top) 4 (.ptr 4 0)) 8 (.ptr 8 0)) 43 (.c (.sl (c.methods.map cMethod)))) 44 (.c (.int .i64 c.methods.length))) 45 (.c (.int .i64 q)),
     upd (fullM (memC cs mn c false (fieldsUp cs ((upX cs (cs.length + 1) 0 c.name).take (k + 1)))) 1000 1001 1002 1003 x1 x2 xL') 8 (some (.box 40 ((cClass kc).map A.c)))⟩) (fun q => q ≤ c.methods.length ∧ (c.methods.take q).all (fun y => fitsB y kc.methods) = true) (fun q => c.methods.length - q) 0 ?start ⟨Nat.zero_le _, rfl⟩ ?round
    case start =>
     simp only [fullM, memC]
     refine le_mk ?sle ?mle ?swf ?mwf hkeepL (by rfl)
     case swf => repeat (first | exact swf_top _ | refine swf_upd ?_ (by simp [A.ids, upd_app, cClass, hF, fullM, memC]))
     case mwf => repeat (first | exact mwf_nil _ | refine mwf_upd ?_ (by simp [A.ids, O.ids, upd_app, cClass, hF, fullM, memC]))
     case mle => repeat (first | exact mle_nil _ | exact mle_refl _ | refine mle_upd ?_ zy29q11)
     case sle => repeat (first | exact sle_top _ | exact sle_refl _ | refine sle_upd ?_ zy29q40)
    case round =>
     rintro q ⟨hq, hfit⟩
     repeat (first | refine WI.seq ?_ | refine WI.block ?_ | refine WI.skip ?_ | refine WI.exit ?_ | refine WI.region tab_ok 0 (by decide) (by kernel_rfl) (exec_run zy29q21) ?_)
     refine WI.cond rfl ?_ ?_
     ·intro hlt
      simp only [decide_eq_true_eq, Int.ofNat_lt] at hlt
      obtain ⟨y, hy⟩ : ∃ y, c.methods[q]? = some y := ⟨_, List.getElem?_eq_getElem hlt⟩
      repeat (first | refine WI.seq ?_ | refine WI.block ?_ | refine WI.skip ?_ | refine WI.exit ?_ | refine WI.region tab_ok 0 (by decide) (by kernel_rfl) (exec_run zy29q9) ?_)
      refine WI.regionK tab_ok 0 (by decide) (by kernel_rfl) ?_
      refine runk_split 3 zy29q21 ?_
      refine runk_callR rfl rfl rfl rfl rfl (by simp) (cvrs_cons cvr_refl (cvrs_cons (cvr_fn (caps_one rfl rfl)) cvrs_nil)) (by rfl) (by rfl) (idxMethod_ok kc.methods 41 [cMethod y] (methB y.name) (by have := (hS kc (List.mem_of_getElem? hkc)).2.1; omega) (fun o _ m => class2_ok o y m)) ?_
      refine runk_exec zy29q21 ?_
      obtain ⟨hf1, hf2⟩ := fits_of (y := y) (l := kc.methods)
      by_cases hneg : idxB (methB y.name) kc.methods < 0
      ·have hd : decide ((0 : Int) ≤ idxB (methB y.name) kc.methods) = false := by simp; omega
       refine WI.seq ?_
       refine WI.regionDK tab_ok 0 follows_mixed (by kernel_rfl) (by decide) (by kernel_rfl) ?_
       refine runk_exec zy29q20 ?_
       refine WI.cond rfl (fun h => by cases h) (fun _ => ?_)
       repeat (first | refine WI.seq ?_ | refine WI.block ?_ | refine WI.skip ?_ | refine WI.exit ?_ | refine WI.region tab_ok 0 (by decide) (by kernel_rfl) (exec_run zy29q21) ?_)
       refine ⟨q + 1, ⟨hlt, ?_⟩, by omega, ?_⟩
       ·rw [List.take_add_one, hy, List.all_append, hfit]; simp [hf1 hneg]
       simp only [fullM, memC]
       refine le_mk ?sle ?mle ?swf ?mwf hkeepL (by rfl)
       case swf => repeat (first | exact swf_top _ | refine swf_upd ?_ zy29q43)
       case mwf => repeat (first | exact mwf_nil _ | refine mwf_upd ?_ zy29q42)
       case mle => repeat (first | exact mle_nil _ | exact mle_refl _ | refine mle_upd ?_ zy29q1)
       case sle => repeat (first | exact sle_top _ | exact sle_refl _ | refine sle_upd ?_ zy29q4)
      ·have hge : (0 : Int) ≤ idxB (methB y.name) kc.methods := by omega
       have hd : decide ((0 : Int) ≤ idxB (methB y.name) kc.methods) = true := by simp; omega
       obtain ⟨o, ho⟩ : ∃ o, kc.methods[(idxB (methB y.name) kc.methods).toNat]? = some o := by
        obtain ⟨o, ho, -⟩ := idxB_spec (methB y.name) kc.methods hge
        exact ⟨o, ho⟩
       refine WI.seq ?_
       refine WI.regionDK tab_ok 0 follows_mixed (by kernel_rfl) (by decide) (by kernel_rfl) ?_
       refine runk_split 9 zy29q6 ?_
       refine runk_call rfl rfl rfl rfl rfl (by simp) cw2 (alike_ok y o _) ?_
       refine runk_exec zy29q21 ?_
       refine WI.cond rfl ?_ ?_
       ·intro hal
        repeat (first | refine WI.seq ?_ | refine WI.block ?_ | refine WI.skip ?_ | refine WI.exit ?_ | refine WI.region tab_ok 0 (by decide) (by kernel_rfl) (exec_run zy29q21) ?_)
        refine WI.ret ⟨fun j => j, memC cs mn c false (fieldsUp cs ((upX cs (cs.length + 1) 0 c.name).take (k + 1))), Le.toT ?_, hG _, fun b => ⟨.inr rfl, .inr ⟨b, 1002, rfl, rfl, rfl, ?_⟩⟩⟩
        ·simp only [fullM, memC]
         refine le_mk ?sle ?mle ?swf ?mwf (fun j hj => fullM_keep (hG _) hj) (by rfl)
         case swf => repeat (first | exact swf_top _ | refine swf_upd ?_ zy29q46)
         case mwf => repeat (first | exact mwf_nil _ | refine mwf_upd ?_ zy29q45)
         case mle => repeat (first | exact mle_nil _ | exact mle_refl _ | refine mle_upd ?_ zy29q16)
         case sle => repeat (first | exact sle_top _ | exact sle_refl _ | refine sle_upd ?_ zy29q41)
        ·simp only [Tryz.f18, resA, resOne, toT, fin, doneS, doneM, DID, exb, Nat.reduceAdd, Nat.reduceLeDiff, Nat.reduceEqDiff, Nat.reduceMul, Int.reduceToNat, reduceIte, Int.reduceLE, Int.reduceNeg, memC, slotC]
         rw [bad2 y (List.mem_of_getElem? hy) (by rw [hf2 o ho hge]; simpa using hal)]
       ·intro hal
        repeat (first | refine WI.seq ?_ | refine WI.block ?_ | refine WI.skip ?_ | refine WI.exit ?_ | refine WI.region tab_ok 0 (by decide) (by kernel_rfl) (exec_run zy29q21) ?_)
        refine ⟨q + 1, ⟨hlt, ?_⟩, by omega, ?_⟩
        ·rw [List.take_add_one, hy, List.all_append, hfit]; simp [hf2 o ho hge]; simpa using hal
        simp only [fullM, memC]
        refine le_mk ?sle ?mle ?swf ?mwf hkeepL (by rfl)
        case swf => repeat (first | exact swf_top _ | refine swf_upd ?_ zy29q43)
        case mwf => repeat (first | exact mwf_nil _ | refine mwf_upd ?_ zy29q42)
        case mle => repeat (first | exact mle_nil _ | exact mle_refl _ | refine mle_upd ?_ zy29q1)
        case sle => repeat (first | exact sle_top _ | exact sle_refl _ | refine sle_upd ?_ zy29q4)
     ·intro hge
      simp only [decide_eq_false_iff_not, Int.ofNat_lt] at hge
      obtain rfl : q = c.methods.length := by omega
      repeat (first | refine WI.seq ?_ | refine WI.block ?_ | refine WI.skip ?_ | refine WI.exit ?_ | refine WI.region tab_ok 0 (by decide) (by kernel_rfl) (exec_run zy29q21) ?_)
      rw [List.take_length] at hfit
      refine ⟨good hfit, fun j => j, Le.toT ?_⟩
      simp only [fullM, memC]
      refine le_mk ?sle ?mle ?swf ?mwf (fun j hj => fullM_keep (hG _) hj) (by rfl)
      case swf => repeat (first | exact swf_top _ | refine swf_upd ?_ zy29q46)
      case mwf => repeat (first | exact mwf_nil _ | refine mwf_upd ?_ zy29q45)
      case mle => repeat (first | exact mle_nil _ | exact mle_refl _ | refine mle_upd ?_ zy29q16)
      case sle => repeat (first | exact sle_top _ | exact sle_refl _ | refine sle_upd ?_ zy29q41)
 case done =>
  intro hAll b
  rw [List.take_length] at hAll ⊢
  have hcl := (hS c hc)
  have hmN : ∀ l : List Method, (l.map (·.name)).length = l.length := fun l => by simp
  repeat (first | refine W.seq ?_ | refine W.block ?_ | refine W.skip ?_ | refine W.exit ?_ | refine W.g ?_ (by simp only [exb, Nat.reduceAdd, Nat.reduceLeDiff, Nat.reduceEqDiff, Nat.reduceMul, Int.reduceToNat, reduceIte, Int.reduceLE, Int.reduceNeg, doneS, doneM, DID, memC, slotC, cClass]; rfl))
  refine W.newArr 6 60 9 1 rfl rfl ?_
  refine W.loop (ι := Nat) (fun q => ⟨upd (upd (upd (upd (upd (upd (doneS (fun _ => .top) b 1002) 4 (.ptr 4 0)) 5 (.ptr 5 0)) 6 (.own 60)) 67 (.c (.sl (c.methods.map cMethod)))) 68 (.c (.int .i64 c.methods.length))) 69 (.c (.int .i64 q)),
   upd (doneM (memC cs mn c false (fieldsUp cs (upX cs (cs.length + 1) 0 c.name))) 1002) 60 (some (.arr 9 1 (((c.methods.take q).map (·.name)).map cStr)))⟩) (fun q => q ≤ c.methods.length ∧ (c.methods.take q).all (fun m => onceB (namesL m.params)) = true) (fun q => c.methods.length - q) 0 ?start ⟨Nat.zero_le _, rfl⟩ ?round
  case start =>
   simp only [doneS, doneM, memC, DID]
   refine le_mk ?sle ?mle ?swf ?mwf (kept_not hkeep) (by rfl)
   case swf => repeat (first | exact swf_top _ | refine swf_upd ?_ (by simp [A.ids, upd_app, cClass, List.take_zero]))
   case mwf => repeat (first | exact mwf_nil _ | refine mwf_upd ?_ (by simp [A.ids, O.ids, upd_app, cClass, List.take_zero]))
   case mle => repeat (first | exact mle_nil _ | exact mle_refl _ | refine mle_upd ?_ (by first | rfl | (simp only [upd_app, killM_app, O.kill, A.kill, Nat.reduceEqDiff, reduceIte, Option.map_some, Option.map_none, List.map_cons, List.map_nil, cClass, List.take_zero]; done)))
   case sle => repeat (first | exact sle_top _ | exact sle_refl _ | refine sle_upd ?_ (by first | rfl | (simp only [upd_app, killS_app, A.kill, entry_zero, entry_succ, Nat.reduceEqDiff, reduceIte, cClass, List.take_zero]; done)))
  case round =>
   rintro q ⟨hq, hon⟩
   repeat (first | refine W.seq ?_ | refine W.block ?_ | refine W.skip ?_ | refine W.exit ?_ | refine W.g ?_ zy29q19)
   refine W.cond rfl ?_ ?_
   ·intro hlt
    simp only [decide_eq_true_eq, Int.ofNat_lt] at hlt
    obtain ⟨y, hy⟩ : ∃ y, c.methods[q]? = some y := ⟨_, List.getElem?_eq_getElem hlt⟩
    have hyp := hcl.2.2 y (List.mem_of_getElem? hy)
    repeat (first | refine W.seq ?_ | refine W.block ?_ | refine W.skip ?_ | refine W.exit ?_ | refine W.g ?_ (by simp only [exb, Nat.reduceAdd, Nat.reduceLeDiff, Nat.reduceEqDiff, Nat.reduceMul, Int.reduceToNat, reduceIte, Int.reduceLE, Int.reduceNeg, doneS, doneM, DID, memC, cClass, at_map hy, cMethod]; rfl))
    refine W.regionK tab_ok 0 (by decide) ?_
    refine runk_split 4 zy29q19 ?_
    refine runk_append tab_ok 60 rfl rfl rfl rfl rfl rfl rfl rfl (by first | rfl | (simp only [exb, Nat.reduceAdd, Nat.reduceLeDiff, Nat.reduceEqDiff, Nat.reduceMul, Int.reduceToNat, reduceIte, Int.reduceLE, Int.reduceNeg, doneS, doneM, DID, memC, cClass]; rfl)) rfl rfl rfl rfl (nokeep hkeep) (by simp) (by have h1 := List.length_take_le q c.methods; simp only [List.length_map, List.length_cons, List.length_nil]; omega) (by decide) ?_
    refine runk_exec zy29q19 ?_
    refine W.seq ?_
    refine W.regionK tab_ok 0 (by decide) ?_
    refine runk_split 2 zy29q19 ?_
    refine runk_call rfl rfl rfl rfl rfl (by simp) cw1 (namesS_ok y.params (by omega) _) ?_
    refine runk_split 0 zy29q19 ?_
    refine runk_call rfl rfl rfl rfl rfl (by simp) cw1 (once_ok (namesL y.params) (by simp [namesL]; omega) _) ?_
    refine runk_exec zy29q19 ?_
    refine W.cond rfl ?_ ?_
    ·intro hb
     repeat (first | refine W.seq ?_ | refine W.block ?_ | refine W.skip ?_ | refine W.exit ?_ | refine W.g ?_ zy29q19)
     refine W.ret ⟨.inr rfl, .inr ⟨b, 1002, rfl, rfl, rfl, ?_⟩⟩
     simp only [Tryz.f18, resA, resOne, toT, fin, doneS, doneM, DID, exb, Nat.reduceAdd, Nat.reduceLeDiff, Nat.reduceEqDiff, Nat.reduceMul, Int.reduceToNat, reduceIte, Int.reduceLE, Int.reduceNeg, memC]
     have : okClassB cs c = false := by
      unfold okClassB
      have : (c.methods.all fun m => onceB (namesL m.params)) = false := by
       rw [List.all_eq_false]
       exact ⟨y, List.mem_of_getElem? hy, by simpa using hb⟩
      rw [this]; simp
     rw [this]
    ·intro hb
     repeat (first | refine W.seq ?_ | refine W.block ?_ | refine W.skip ?_ | refine W.exit ?_ | refine W.g ?_ zy29q19)
     refine ⟨q + 1, ⟨hlt, ?_⟩, by omega, ?_⟩
     ·rw [List.take_add_one, hy, List.all_append, hon]; simpa using hb
     simp only [doneS, doneM, memC, DID]
     refine le_mk ?sle ?mle ?swf ?mwf (kept_not hkeep) (by rfl)
     case swf => repeat (first | exact swf_top _ | refine swf_upd ?_ (by simp [A.ids, upd_app, cClass, wrap_succ (show q + 1 < 9223372036854775808 by omega), List.take_add_one, hy, Option.toList_some, List.map_append, cStr]))
     case mwf => repeat (first | exact mwf_nil _ | refine mwf_upd ?_ (by simp [A.ids, O.ids, upd_app, cClass, wrap_succ (show q + 1 < 9223372036854775808 by omega), List.take_add_one, hy, Option.toList_some, List.map_append, cStr]))
     case mle => repeat (first | exact mle_nil _ | exact mle_refl _ | refine mle_upd ?_ (by first | rfl | (simp only [upd_app, killM_app, O.kill, A.kill, Nat.reduceEqDiff, reduceIte, Option.map_some, Option.map_none, List.map_cons, List.map_nil, cClass, wrap_succ (show q + 1 < 9223372036854775808 by omega), List.take_add_one, hy, Option.toList_some, List.map_append, cStr]; done)))
     case sle => repeat (first | exact sle_top _ | exact sle_refl _ | refine sle_upd ?_ (by first | rfl | (simp only [upd_app, killS_app, A.kill, entry_zero, entry_succ, Nat.reduceEqDiff, reduceIte, cClass, wrap_succ (show q + 1 < 9223372036854775808 by omega), List.take_add_one, hy, Option.toList_some, List.map_append, cStr]; done)))
   ·intro hge
    simp only [decide_eq_false_iff_not, Int.ofNat_lt] at hge
    obtain rfl : q = c.methods.length := by omega
    rw [List.take_length] at hon
    have hfl := fieldsUp_len hS (upX cs (cs.length + 1) 0 c.name)
    have hul := upX_len cs (cs.length + 1) 0 c.name
    have hval : okClassB cs c = (onceB (fieldsUp cs (upX cs (cs.length + 1) 0 c.name)) && onceB (c.methods.map (·.name))) := by
     unfold okClassB
     rw [hAll, hon]; simp
    repeat (first | refine W.seq ?_ | refine W.block ?_ | refine W.skip ?_ | refine W.exit ?_ | refine W.g ?_ zy29q19)
    refine W.regionK tab_ok 0 (by decide) ?_
    refine runk_split 1 zy29q19 ?_
    refine runk_call rfl rfl rfl rfl rfl (by simp) (cvs_cons (cv_own rfl) cvs_nil) (once_ok (fieldsUp cs (upX cs (cs.length + 1) 0 c.name)) (by omega) _) ?_
    cases h1 : onceB (fieldsUp cs (upX cs (cs.length + 1) 0 c.name)) with
    | false =>
      refine runk_exec zy29q19 ?_
      refine W.ret ⟨.inr rfl, .inr ⟨b, 1002, rfl, rfl, rfl, ?_⟩⟩
      simp only [Tryz.f18, resA, resOne, toT, fin, doneS, doneM, DID, exb, Nat.reduceAdd, Nat.reduceLeDiff, Nat.reduceEqDiff, Nat.reduceMul, Int.reduceToNat, reduceIte, Int.reduceLE, Int.reduceNeg, memC]
      rw [hval, h1]; rfl
    | true =>
      refine runk_split 2 (by simp only [exb, Nat.reduceAdd, Nat.reduceLeDiff, Nat.reduceEqDiff, Nat.reduceMul, Int.reduceToNat, reduceIte, Int.reduceLE, Int.reduceNeg, doneS, doneM, DID, memC, cClass, List.take_length]; rfl) ?_
      refine runk_call rfl rfl rfl rfl rfl (by simp) (cvs_cons (cv_own rfl) cvs_nil) (once_ok (c.methods.map (·.name)) (by simp; omega) _) ?_
      refine runk_exec zy29q19 ?_
      refine W.ret ⟨.inr rfl, .inr ⟨b, 1002, rfl, rfl, rfl, ?_⟩⟩
      simp only [Tryz.f18, resA, resOne, toT, fin, doneS, doneM, DID, exb, Nat.reduceAdd, Nat.reduceLeDiff, Nat.reduceEqDiff, Nat.reduceMul, Int.reduceToNat, reduceIte, Int.reduceLE, Int.reduceNeg, memC]
      rw [hval, h1]; rfl
end V
end Go.Proofs.YthhpcjoaogmhbaaGreat
end
section
namespace Go.Proofs.YthhpcjoaogmhbaaGreat
namespace V
open Go.RowKit
theorem check1_ok (cs : List Class) (mn : C) (c : Class) (hS : SmallC cs) (hlen : cs.length ≤ 16) (hc : c ∈ cs) (m : Mem) : COk Tryz.prog 17 [.agg (cClass c), .rptr [.sl (cs.map cClass), mn]] m (.c (.bool (!okClassB cs c))) := by
 refine (ok_pure tab_ok Tryz.func17 (by kernel_rfl) rfl rfl (by rfl) (by rfl) (by rfl) (fun R hkeep => ?_) m)
 repeat (first | refine W.seq ?_ | refine W.block ?_ | refine W.skip ?_ | refine W.exit ?_ | refine W.g ?_ zy29q33)
 refine W.regionK tab_ok 0 (by decide) ?_
 refine runk_split 2 zy29q33 ?_
 refine runk_call rfl rfl rfl rfl rfl (by simp) cw2 (class_ok cs mn c hS hlen hc _) ?_
 refine xe0 ?_
 exact W.ret ⟨.inr rfl, by rfl, (by simp only [Tryz.f17, resA, resOne, toT, fin, exb, Nat.reduceAdd, Nat.reduceLeDiff, Nat.reduceEqDiff, Nat.reduceMul, Int.reduceToNat, reduceIte, Int.reduceLE, Int.reduceNeg])⟩
def chkErr (e : Int) (cs : List Class) : Int :=
 if e = 0 then (if 16 < cs.length then 6 else if onceB (cs.map (·.name)) = false then 60 else if cs.any (fun c => !okClassB cs c) = true then 60 else 0) else e
set_option maxHeartbeats 1000000 in
theorem check_ok (p : Program) (e : Int) (hS : SmallC p.classes) (hlen : p.classes.length ≤ 1000000000) (hck : ∀ m, COk Tryz.prog 14 [.agg (cProg p)] m (.c (.int .i64 e))) (m : Mem) :
 COk Tryz.prog 6 [.agg (cProg p)] m (.c (.int .i64 (chkErr e p.classes))) := by
 obtain ⟨cs, mn⟩ := p
 dsimp only at hS hlen hck ⊢
 refine (ok_pure tab_ok Tryz.func6 (by kernel_rfl) rfl rfl (by rfl) (by rfl) (by rfl) (fun R hkeep => ?_) m)
 repeat (first | refine W.seq ?_ | refine W.block ?_ | refine W.skip ?_ | refine W.exit ?_ | refine W.g ?_ zy29q36)
 refine W.regionK tab_ok 0 (by decide) ?_
 refine runk_split 1 zy29q36 ?_
 refine runk_call rfl rfl rfl rfl rfl (by simp) cw1 (hck _) ?_
 refine xe0 ?_
 refine W.go ?_
 refine W.cond rfl ?_ ?_
 ·intro h
  have he : e ≠ 0 := by simpa using h
  refine W.go ?_
  refine W.ret ⟨.inr rfl, by rfl, ?_⟩
  simp only [Tryz.f6, resA, resOne, toT, fin, exb, Nat.reduceAdd, Nat.reduceLeDiff, Nat.reduceEqDiff, Nat.reduceMul, Int.reduceToNat, reduceIte, Int.reduceLE, Int.reduceNeg]
  simp [chkErr, he]
 intro h
 have he : e = 0 := by simpa using h
 subst he
 refine W.go ?_
 refine W.cond rfl ?_ ?_
 ·intro h
  have hl : 16 < cs.length := by simp at h; omega
  refine W.go ?_
  refine W.ret ⟨.inr rfl, by rfl, ?_⟩
  simp only [Tryz.f6, resA, resOne, toT, fin, exb, Nat.reduceAdd, Nat.reduceLeDiff, Nat.reduceEqDiff, Nat.reduceMul, Int.reduceToNat, reduceIte, Int.reduceLE, Int.reduceNeg]
  simp [chkErr, hl]
 intro h
 have hl : ¬ 16 < cs.length := by simp at h; omega
 refine W.go ?_
 refine W.newArr 4 4 9 1 rfl rfl ?_
 refine W.go ?_
 refine W.loop (ι := Nat) (fun k => ⟨upd (upd (upd (upd (upd (fun _ => .top) 1 (.ptr 1 0)) 4 (.own 4)) 17 (.c (.sl (cs.map cClass)))) 18 (.c (.int .i64 cs.length))) 19 (.c (.int .i64 k)),
  upd (upd Mem.nil 1 (some (.box 25 ((cProg ⟨cs, mn⟩).map A.c)))) 4 (some (.arr 9 1 (((cs.take k).map (·.name)).map cStr)))⟩) (fun k => k ≤ cs.length) (fun k => cs.length - k) 0 ?start (Nat.zero_le _) ?round
 case start =>
  refine le_L ?sle ?mle (kept_not hkeep)
  case mle => repeat (first | exact mle_nil _ | exact mle_refl _ | refine mle_upd ?_ (by first | rfl | (simp only [upd_app, killM_app, Nat.reduceEqDiff, reduceIte, cProg, List.map_cons, List.map_nil, List.take_zero]; done)))
  case sle => repeat (first | exact sle_top _ | exact sle_refl _ | refine sle_upd ?_ (by first | rfl | (simp only [upd_app, entry_zero, entry_succ, Nat.reduceEqDiff, reduceIte, cProg, List.map_cons, List.map_nil, List.take_zero]; done)))
 case round =>
  intro k hk
  repeat (first | refine W.seq ?_ | refine W.block ?_ | refine W.skip ?_ | refine W.exit ?_ | refine W.g ?_ zy29q36)
  refine W.cond rfl ?_ ?_
  ·intro hlt
   simp only [decide_eq_true_eq, Int.ofNat_lt] at hlt
   obtain ⟨x, hx⟩ : ∃ x, cs[k]? = some x := ⟨_, List.getElem?_eq_getElem hlt⟩
   repeat (first | refine W.seq ?_ | refine W.block ?_ | refine W.skip ?_ | refine W.exit ?_ | refine W.g ?_ (by simp only [exb, Nat.reduceAdd, Nat.reduceLeDiff, Nat.reduceEqDiff, Nat.reduceMul, Int.reduceToNat, reduceIte, Int.reduceLE, Int.reduceNeg, cProg, at_map hx, cClass]; rfl))
   refine W.regionK tab_ok 0 (by decide) ?_
   refine runk_split 4 zy29q36 ?_
   refine runk_append tab_ok 4 rfl rfl rfl rfl rfl rfl rfl rfl (by first | rfl | (simp only [exb, Nat.reduceAdd, Nat.reduceLeDiff, Nat.reduceEqDiff, Nat.reduceMul, Int.reduceToNat, reduceIte, Int.reduceLE, Int.reduceNeg, cProg]; rfl)) rfl rfl rfl rfl (nokeep hkeep) (by simp) (by have := List.length_take_le k cs; simp only [List.length_map, List.length_cons, List.length_nil]; omega) (by decide) ?_
   refine runk_exec zy29q36 ?_
   repeat (first | refine W.seq ?_ | refine W.block ?_ | refine W.skip ?_ | refine W.exit ?_ | refine W.g ?_ zy29q36)
   refine ⟨k + 1, hlt, by omega, ?_⟩
   refine le_L ?sle ?mle (kept_not hkeep)
   case mle => repeat (first | exact mle_nil _ | exact mle_refl _ | refine mle_upd ?_ (by first | rfl | (simp only [upd_app, killM_app, Nat.reduceEqDiff, reduceIte, cProg, O.kill, A.kill, Option.map_some, wrap_succ (show k + 1 < 9223372036854775808 by omega), List.take_add_one, hx, Option.toList_some, List.map_append, List.map_cons, List.map_nil, cStr]; done)))
   case sle => repeat (first | exact sle_top _ | exact sle_refl _ | refine sle_upd ?_ (by first | rfl | (simp only [upd_app, entry_zero, entry_succ, Nat.reduceEqDiff, reduceIte, cProg, O.kill, A.kill, Option.map_some, wrap_succ (show k + 1 < 9223372036854775808 by omega), List.take_add_one, hx, Option.toList_some, List.map_append, List.map_cons, List.map_nil, cStr]; done)))
  ·intro hge
   simp only [decide_eq_false_iff_not, Int.ofNat_lt] at hge
   obtain rfl : k = cs.length := by omega
   repeat (first | refine W.seq ?_ | refine W.block ?_ | refine W.skip ?_ | refine W.exit ?_ | refine W.g ?_ zy29q36)
   refine W.regionK tab_ok 0 (by decide) ?_
   refine runk_split 1 (by simp only [exb, Nat.reduceAdd, Nat.reduceLeDiff, Nat.reduceEqDiff, Nat.reduceMul, Int.reduceToNat, reduceIte, Int.reduceLE, Int.reduceNeg, cProg, List.take_length]; rfl) ?_
   refine runk_call rfl rfl rfl rfl rfl (by simp) (cvs_cons (cv_own rfl) cvs_nil) (once_ok (cs.map (·.name)) (by simp; omega) _) ?_
   cases h1 : onceB (cs.map (·.name)) with
   | false =>
     refine runk_exec zy29q36 ?_
     repeat (first | refine W.seq ?_ | refine W.block ?_ | refine W.skip ?_ | refine W.exit ?_ | refine W.g ?_ zy29q36)
     refine W.cond rfl (fun _ => ?_) (fun h => by cases h)
     repeat (first | refine W.seq ?_ | refine W.block ?_ | refine W.skip ?_ | refine W.exit ?_ | refine W.g ?_ zy29q36)
     refine W.ret ⟨.inr rfl, by rfl, ?_⟩
     simp only [Tryz.f6, resA, resOne, toT, fin, exb, Nat.reduceAdd, Nat.reduceLeDiff, Nat.reduceEqDiff, Nat.reduceMul, Int.reduceToNat, reduceIte, Int.reduceLE, Int.reduceNeg]
     simp [chkErr, hl, h1]
   | true =>
     refine runk_split 5 zy29q36 ?_
     refine runk_callR rfl rfl rfl rfl rfl (by simp) (cvrs_cons cvr_refl (cvrs_cons (cvr_fn (caps_one rfl rfl)) cvrs_nil)) (by rfl) (by rfl) (anyClass_ok cs 17 [[.sl (cs.map cClass), .sl (cStmts mn)]] (fun c => !okClassB cs c) (by omega) (fun x hx m => check1_ok cs (.sl (cStmts mn)) x hS (by omega) hx m)) ?_
     refine runk_exec zy29q36 ?_
     refine W.cond rfl ?_ ?_
     ·intro hb
      have hb : cs.any (fun c => !okClassB cs c) = true := hb
      repeat (first | refine W.seq ?_ | refine W.block ?_ | refine W.skip ?_ | refine W.exit ?_ | refine W.g ?_ zy29q36)
      refine W.ret ⟨.inr rfl, by rfl, ?_⟩
      simp only [Tryz.f6, resA, resOne, toT, fin, exb, Nat.reduceAdd, Nat.reduceLeDiff, Nat.reduceEqDiff, Nat.reduceMul, Int.reduceToNat, reduceIte, Int.reduceLE, Int.reduceNeg]
      simp only [chkErr, if_true, if_neg hl, h1, hb]; rfl
     ·intro hb
      have hb : cs.any (fun c => !okClassB cs c) = false := hb
      repeat (first | refine W.seq ?_ | refine W.block ?_ | refine W.skip ?_ | refine W.exit ?_ | refine W.g ?_ zy29q36)
      refine W.ret ⟨.inr rfl, by rfl, ?_⟩
      simp only [Tryz.f6, resA, resOne, toT, fin, exb, Nat.reduceAdd, Nat.reduceLeDiff, Nat.reduceEqDiff, Nat.reduceMul, Int.reduceToNat, reduceIte, Int.reduceLE, Int.reduceNeg]
      simp only [chkErr, if_true, if_neg hl, h1, hb]; rfl
def nameAt (cs : List Class) (x : Nat × Nat) : List ByteArray := match cs[x.2]? with | some k => [k.name] | none => []
def upNames (cs : List Class) (l : List (Nat × Nat)) : List ByteArray := l.flatMap (nameAt cs)
theorem upNames_len (cs : List Class) : ∀ l : List (Nat × Nat), (upNames cs l).length ≤ l.length
 | [] => by simp [upNames]
 | x :: l => by
   have ih := upNames_len cs l
   unfold upNames at *
   rw [List.flatMap_cons, List.length_append, List.length_cons]
   have : (nameAt cs x).length ≤ 1 := by unfold nameAt; split <;> simp
   omega
def chainR (E : Int) (cs : List Class) (n : ByteArray) : List ByteArray := if E = 0 then upNames cs (upX cs (cs.length + 1) 0 n) else []
def memH (cs : List Class) (mn : C) (l : List ByteArray) : Mem :=
 upd (upd (upd Mem.nil 2 (some (.box 25 [.c (.sl (cs.map cClass)), .c mn]))) 4 (some (.box 52 [.own 50]))) 50 (some (.arr 9 1 (l.map cStr)))
def slotH : Nat → A := upd (upd (fun _ => .top) 2 (.ptr 2 0)) 4 (.ptr 4 0)
theorem slotH_ids : ∀ t, ∀ j ∈ (slotH t).ids, j ≤ 5 := by
 intro t j hj
 unfold slotH upd at hj
 repeat' (split at hj)
 all_goals (simp [A.ids] at hj)
 all_goals omega
set_option maxHeartbeats 1000000 in
theorem chainP_ok (p : Program) (E : Int) (name : ByteArray) (hlen : p.classes.length ≤ 1000000000) (hchk : ∀ m, COk Tryz.prog 6 [.agg (cProg p)] m (.c (.int .i64 E))) (m : Mem) :
 COk Tryz.prog 98 [.agg (cProg p), .c (.str name)] m (.c (.sl ((chainR E p.classes name).map cStr))) := by
 obtain ⟨cs, mn'⟩ := p
 dsimp only at hlen hchk ⊢
 generalize hmn : C.sl (cStmts mn') = mn
 have hpr : cProg ⟨cs, mn'⟩ = [.sl (cs.map cClass), mn] := by rw [← hmn]; rfl
 rw [hpr] at hchk ⊢
 refine (ok_pureM tab_ok Tryz.func98 (by kernel_rfl) rfl rfl (by rfl) (by rfl) (by rfl) (fun R hkeep => ?_) m)
 refine W.go ?_
 refine W.regionK tab_ok 0 (by decide) ?_
 refine xs0 1 ?_
 refine runk_call rfl rfl rfl rfl rfl (by simp) cw1 (hchk _) ?_
 refine xe0 ?_
 refine W.cond rfl ?_ ?_
 ·intro h
  have he : E ≠ 0 := by simpa using h
  refine W.go ?_
  refine W.ret ⟨.inr rfl, .inl ⟨rfl, ?_⟩⟩
  simp only [Tryz.f98, resA, resOne, toT, fin, exb, Nat.reduceAdd, Nat.reduceLeDiff, Nat.reduceEqDiff, Nat.reduceMul, Int.reduceToNat, reduceIte, Int.reduceLE, Int.reduceNeg]
  simp [chainR, he]
 intro h
 have he : E = 0 := by simpa using h
 subst he
 refine W.go ?_
 refine W.newRowBox true 4 0 50 9 1 rfl rfl rfl ?_
 refine W.go ?_
 refine W.regionK tab_ok 0 (by decide) ?_
 refine xs0 2 ?_
 refine runk_call0 rfl rfl rfl rfl rfl rfl (by simp) cw2 (up_ok (cs.map cClass) mn name _ 1000 1001 rfl rfl (by decide)) ?_
 refine xe0 ?_
 refine W.go ?_
 have hG : ∀ l, GoodM R.keep slotH 1000 1001 1002 1003 (memH cs mn l) := fun l => by
  refine ⟨?_, rfl, rfl, rfl, rfl, ?_, kept_not hkeep⟩
  ·unfold memH
   show MWf _ _
   (repeat (first | exact mwf_nil _ | refine mwf_upd ?_ zy29q47))
  ·show SWf _ _
   unfold memH slotH
   (repeat (first | exact swf_top _ | refine swf_upd ?_ (by simp [A.ids, upd_app])))
 have hul := upX_len cs (cs.length + 1) 0 name
 refine W.rangeUp cs name mn 1000 1001 1002 1003 slotH (fun k => memH cs mn (upNames cs ((upX cs (cs.length + 1) 0 name).take k))) (fun _ => True) (by omega) rfl rfl rfl (by decide) rfl rfl (by decide) trivial rfl ?sle ?sn ?m0 (fun k _ => hG _) ?round ?done
 case sle =>
  unfold slotH
  (repeat (first | exact sle_top _ | exact sle_refl _ | refine sle_upd ?_ zy29q44))
 case sn =>
  unfold slotH
  (repeat (first | exact sn_top | refine sn_upd ?_ (by decide)))
 case m0 =>
  refine mle_some ?_
  unfold memH
  (repeat (first | exact mle_nil _ | exact mle_refl _ | refine mle_upd ?_ (by first | rfl | (simp only [upd_app, killM_app, Nat.reduceEqDiff, reduceIte, List.take_zero, upNames, List.flatMap_nil, List.map_nil]; done))))
 case round =>
  intro R' l hk' k j kc x1 x2 xL _ hitem hkc
  have hn50 : ¬ R'.keep 50 := fun h => by
   rw [hk', hkeep] at h
   rcases h with h | ⟨t, h⟩ | h
   ·exact h
   ·have := slotH_ids t 50 h; omega
   ·omega
  have hF : List.map cStr (upNames cs ((upX cs (cs.length + 1) 0 name).take k)) ++ [cStr kc.name] = List.map cStr (upNames cs ((upX cs (cs.length + 1) 0 name).take (k + 1))) := by
   rw [List.take_add_one, hitem]
   simp [upNames, nameAt, hkc]
  repeat (first | refine WI.seq ?_ | refine WI.block ?_ | refine WI.skip ?_ | refine WI.exit ?_ | refine WI.region tab_ok 0 (by decide) (by kernel_rfl) (exec_run zy29q22) ?_)
  refine ⟨rfl, fun xL' => ?_⟩
  repeat (first | refine WI.seq ?_ | refine WI.block ?_ | refine WI.skip ?_ | refine WI.exit ?_ | refine WI.region tab_ok 0 (by decide) (by kernel_rfl) (exec_run zy29q22) ?_)
  refine WI.regionK tab_ok 0 (by decide) (by kernel_rfl) ?_
  refine runk_split 4 zy29q26 ?_
  refine runk_append tab_ok 50 rfl rfl rfl rfl rfl rfl rfl rfl (by first | rfl | (simp only [exb, Nat.reduceAdd, Nat.reduceLeDiff, Nat.reduceEqDiff, Nat.reduceMul, Int.reduceToNat, reduceIte, Int.reduceLE, Int.reduceNeg, fullM, memH, slotH]; rfl)) rfl rfl rfl rfl hn50 (by simp) (by have h1 := upNames_len cs ((upX cs (cs.length + 1) 0 name).take k); have h3 := List.length_take_le k (upX cs (cs.length + 1) 0 name); have h4 := (List.getElem?_eq_some_iff.1 hitem).1; simp only [List.length_map, List.length_cons, List.length_nil, List.length_take] at *; omega) (by decide) ?_
  refine runk_exec zy29q26 ?_
  repeat (first | refine WI.seq ?_ | refine WI.block ?_ | refine WI.skip ?_ | refine WI.exit ?_ | refine WI.region tab_ok 0 (by decide) (by kernel_rfl) (exec_run zy29q26) ?_)
  refine ⟨trivial, fun j => j, Le.toT ?_⟩
  simp only [fullM, memH, ← hF]
  refine le_mk ?sle ?mle ?swf ?mwf (fun j hj => fullM_keep (hF ▸ hG _) hj) (by rfl)
  case swf => repeat (first | exact swf_top _ | refine swf_upd ?_ (by simp [A.ids, upd_app, fullM, memH, cStr]))
  case mwf => repeat (first | exact mwf_nil _ | refine mwf_upd ?_ (by simp [A.ids, O.ids, upd_app, fullM, memH, cStr]))
  case mle => repeat (first | exact mle_nil _ | exact mle_refl _ | refine mle_upd ?_ (by first | rfl | (simp only [upd_app, killM_app, O.kill, A.kill, Nat.reduceEqDiff, reduceIte, Option.map_some, Option.map_none, List.map_cons, List.map_nil, fullM, memH, cStr]; done)))
  case sle => repeat (first | exact sle_top _ | exact sle_refl _ | refine sle_upd ?_ (by first | rfl | (simp only [upd_app, killS_app, A.kill, entry_zero, entry_succ, Nat.reduceEqDiff, reduceIte, fullM, memH, cStr]; done)))
 case done =>
  intro _ b
  rw [List.take_length]
  repeat (first | refine W.seq ?_ | refine W.block ?_ | refine W.skip ?_ | refine W.exit ?_ | refine W.g ?_ (by simp only [exb, Nat.reduceAdd, Nat.reduceLeDiff, Nat.reduceEqDiff, Nat.reduceMul, Int.reduceToNat, reduceIte, Int.reduceLE, Int.reduceNeg, doneS, doneM, DID, memH, slotH]; rfl))
  refine W.ret ⟨.inr rfl, .inr ⟨b, 1002, rfl, rfl, rfl, ?_⟩⟩
  simp only [Tryz.f98, resA, resOne, toT, fin, doneS, doneM, DID, exb, Nat.reduceAdd, Nat.reduceLeDiff, Nat.reduceEqDiff, Nat.reduceMul, Int.reduceToNat, reduceIte, Int.reduceLE, Int.reduceNeg, memH]
  simp [chainR]
theorem index_ok (l : List ByteArray) (s : ByteArray) (hlen : l.length ≤ 1000000000000) (m : Mem) : COk Tryz.prog 116 [.c (.sl (l.map cStr)), .c (.str s)] m (.c (.int .i64 (idxB (fun x => s.toList == x.toList) l))) := by
 refine (ok_pure tab_ok Tryz.func116 (by kernel_rfl) rfl rfl (by rfl) (by rfl) (by rfl) (fun R hkeep => ?_) m)
 refine W.go ?_
 refine W.loop (ι := Nat) (fun k => ⟨upd (upd (upd (upd (upd (fun _ => .top) 0 (.c (.sl (l.map cStr)))) 1 (.c (.str s))) 4 (.c (.int .i64 0))) 7 (.c (.int .i64 l.length))) 8 (.c (.int .i64 k)), Mem.nil⟩) (fun k => k ≤ l.length ∧ (l.take k).any (fun x => s.toList == x.toList) = false) (fun k => l.length - k) 0 ?start ⟨Nat.zero_le _, rfl⟩ ?round
 case start =>
  exact le_D (kept_not hkeep)
 case round =>
  rintro k ⟨hkl, hno⟩
  refine W.go ?_
  refine W.cond rfl ?_ ?_
  ·intro hlt
   simp only [decide_eq_true_eq, Int.ofNat_lt] at hlt
   obtain ⟨x, hx⟩ : ∃ x, l[k]? = some x := ⟨_, List.getElem?_eq_getElem hlt⟩
   repeat (first | refine W.seq ?_ | refine W.block ?_ | refine W.skip ?_ | refine W.exit ?_ | refine W.g ?_ zy29q27)
   refine W.cond rfl ?_ ?_
   ·intro hp
    refine W.go ?_
    refine W.ret ⟨.inr rfl, by rfl, ?_⟩
    simp only [Tryz.f116, resA, resOne, toT, fin, exb, Nat.reduceAdd, Nat.reduceLeDiff, Nat.reduceEqDiff, Nat.reduceMul, Int.reduceToNat, reduceIte, Int.reduceLE, Int.reduceNeg]
    rw [idxB_at hno hx hp]
   ·intro hp
    refine W.go ?_
    refine ⟨k + 1, ⟨hlt, ?_⟩, by omega, ?_⟩
    ·rw [List.take_add_one, hx, List.any_append, hno]; simpa using hp
    exact le_Sk (kept_not hkeep)
  ·intro hge
   simp only [decide_eq_false_iff_not, Int.ofNat_lt] at hge
   obtain rfl : k = l.length := by omega
   rw [List.take_length] at hno
   refine W.go ?_
   refine W.ret ⟨.inr rfl, by rfl, ?_⟩
   simp only [Tryz.f116, resA, resOne, toT, fin, exb, Nat.reduceAdd, Nat.reduceLeDiff, Nat.reduceEqDiff, Nat.reduceMul, Int.reduceToNat, reduceIte, Int.reduceLE, Int.reduceNeg]
   rw [idxB_none hno]
theorem contains_ok (l : List ByteArray) (s : ByteArray) (hlen : l.length ≤ 1000000000000) (m : Mem) : COk Tryz.prog 97 [.c (.sl (l.map cStr)), .c (.str s)] m (.c (.bool (l.any (fun x => s.toList == x.toList)))) := by
 refine (ok_pure tab_ok Tryz.func97 (by kernel_rfl) rfl rfl (by rfl) (by rfl) (by rfl) (fun R hkeep => ?_) m)
 refine W.go ?_
 refine W.regionK tab_ok 0 (by decide) ?_
 refine xs0 2 ?_
 refine runk_call rfl rfl rfl rfl rfl (by simp) cw2 (index_ok l s hlen _) ?_
 refine xe0 ?_
 refine W.go ?_
 refine W.ret ⟨.inr rfl, by rfl, ?_⟩
 simp only [Tryz.f97, resA, resOne, toT, fin, exb, Nat.reduceAdd, Nat.reduceLeDiff, Nat.reduceEqDiff, Nat.reduceMul, Int.reduceToNat, reduceIte, Int.reduceLE, Int.reduceNeg]
 rw [idxB_any (fun x : ByteArray => s.toList == x.toList) l]
def belowR (E : Int) (cs : List Class) (a b : ByteArray) : Bool := (chainR E cs a).any (fun x => b.toList == x.toList)
theorem chainR_len (E : Int) (cs : List Class) (n : ByteArray) : (chainR E cs n).length ≤ cs.length + 1 := by
 unfold chainR
 split
 ·exact Nat.le_trans (upNames_len _ _) (upX_len _ _ _ _)
 ·simp
theorem below_ok (p : Program) (E : Int) (a b : ByteArray) (hlen : p.classes.length ≤ 1000000000) (hchk : ∀ m, COk Tryz.prog 6 [.agg (cProg p)] m (.c (.int .i64 E))) (m : Mem) :
 COk Tryz.prog 76 [.agg (cProg p), .c (.str a), .c (.str b)] m (.c (.bool (belowR E p.classes a b))) := by
 have hcl := chainR_len E p.classes a
 refine (ok_pure tab_ok Tryz.func76 (by kernel_rfl) rfl rfl (by rfl) (by rfl) (by rfl) (fun R hkeep => ?_) m)
 repeat (first | refine W.seq ?_ | refine W.block ?_ | refine W.skip ?_ | refine W.exit ?_ | refine W.g ?_ zy29q36)
 refine W.regionK tab_ok 0 (by decide) ?_
 refine runk_split 2 zy29q36 ?_
 refine runk_call rfl rfl rfl rfl rfl (by simp) cw2 (chainP_ok p E a hlen hchk _) ?_
 refine runk_split 1 zy29q36 ?_
 refine runk_call rfl rfl rfl rfl rfl (by simp) cw2 (contains_ok (chainR E p.classes a) b (by omega) _) ?_
 refine xe0 ?_
 exact W.ret ⟨.inr rfl, by rfl, (by simp only [Tryz.f76, resA, resOne, toT, fin, exb, Nat.reduceAdd, Nat.reduceLeDiff, Nat.reduceEqDiff, Nat.reduceMul, Int.reduceToNat, reduceIte, Int.reduceLE, Int.reduceNeg]; rfl)⟩
end V
end Go.Proofs.YthhpcjoaogmhbaaGreat
end
section
namespace Go.Proofs.YthhpcjoaogmhbaaGreat
namespace V
open Go.RowKit
def refChainF (E : Int) (cs : List Class) (n : ByteArray) : List ByteArray := if E = 0 then chainF cs (cs.length + 1) n else []
theorem refChain_ok (p : Program) (E : Int) (name : ByteArray) (hlen : p.classes.length ≤ 1000000000) (hchk : ∀ m, COk Tryz.prog 11 [.agg (cProg p)] m (.c (.int .i64 E))) (m : Mem) :
 COk Tryz.prog 117 [.agg (cProg p), .c (.str name)] m (.c (.sl ((refChainF E p.classes name).map cStr))) := by
 obtain ⟨cs, mn⟩ := p
 dsimp only at hlen hchk ⊢
 refine (ok_pure tab_ok Tryz.func117 (by kernel_rfl) rfl rfl (by rfl) (by rfl) (by rfl) (fun R hkeep => ?_) m)
 repeat (first | refine W.seq ?_ | refine W.block ?_ | refine W.skip ?_ | refine W.exit ?_ | refine W.g ?_ zy29q36)
 refine W.regionK tab_ok 0 (by decide) ?_
 refine runk_split 1 zy29q36 ?_
 refine runk_call rfl rfl rfl rfl rfl (by simp) cw1 (hchk _) ?_
 refine xe0 ?_
 refine W.cond rfl ?_ ?_
 ·intro h
  have he : E ≠ 0 := by simpa using h
  refine W.go ?_
  refine W.ret ⟨.inr rfl, by rfl, ?_⟩
  simp only [Tryz.f117, resA, resOne, toT, fin, exb, Nat.reduceAdd, Nat.reduceLeDiff, Nat.reduceEqDiff, Nat.reduceMul, Int.reduceToNat, reduceIte, Int.reduceLE, Int.reduceNeg]
  simp [refChainF, he]
 intro h
 have he : E = 0 := by simpa using h
 refine W.go ?_
 refine W.regionK tab_ok 0 (by decide) ?_
 refine runk_split 2 zy29q36 ?_
 refine runk_call rfl rfl rfl rfl rfl (by simp) cw2 (chain_ok cs (.sl (cStmts mn)) name hlen _) ?_
 refine xe0 ?_
 refine W.go ?_
 refine W.ret ⟨.inr rfl, by rfl, ?_⟩
 simp only [Tryz.f117, resA, resOne, toT, fin, exb, Nat.reduceAdd, Nat.reduceLeDiff, Nat.reduceEqDiff, Nat.reduceMul, Int.reduceToNat, reduceIte, Int.reduceLE, Int.reduceNeg]
 simp [refChainF, he]
theorem refBelow_ok (p : Program) (E : Int) (a b : ByteArray) (hlen : p.classes.length ≤ 1000000000) (hchk : ∀ m, COk Tryz.prog 11 [.agg (cProg p)] m (.c (.int .i64 E))) (m : Mem) :
 COk Tryz.prog 108 [.agg (cProg p), .c (.str a), .c (.str b)] m (.c (.bool ((refChainF E p.classes a).any (fun x => x.toList == b.toList)))) := by
 have hc := fun m => refChain_ok p E a hlen hchk m
 have hL : (refChainF E p.classes a).length ≤ 1000000001 := by
  unfold refChainF
  split
  ·have := chainF_len p.classes (p.classes.length + 1) a; omega
  ·simp
 generalize refChainF E p.classes a = L at *
 refine (ok_pure tab_ok Tryz.func108 (by kernel_rfl) rfl rfl (by rfl) (by rfl) (by rfl) (fun R hkeep => ?_) m)
 refine W.go ?_
 refine W.regionK tab_ok 0 (by decide) ?_
 refine xs0 2 ?_
 refine runk_call rfl rfl rfl rfl rfl (by simp) cw2 (hc _) ?_
 refine xe0 ?_
 refine W.go ?_
 refine W.loop (ι := Nat) (fun k => ⟨upd (upd (upd (upd (fun _ => .top) 2 (.c (.str b))) 11 (.c (.sl (L.map cStr)))) 12 (.c (.int .i64 L.length))) 13 (.c (.int .i64 k)), Mem.nil⟩)
  (fun k => k ≤ L.length ∧ ∀ i < k, (L[i]?).any (fun x => x.toList == b.toList) = false) (fun k => L.length - k) 0 ?start ⟨Nat.zero_le _, fun i hi => by omega⟩ ?round
 case start =>
  exact le_D (kept_not hkeep)
 case round =>
  rintro k ⟨hk, hall⟩
  refine W.go ?_
  refine W.cond rfl ?_ ?_
  ·intro hlt
   simp only [decide_eq_true_eq, Int.ofNat_lt] at hlt
   obtain ⟨x, hx⟩ : ∃ x, L[k]? = some x := ⟨_, List.getElem?_eq_getElem hlt⟩
   repeat (first | refine W.seq ?_ | refine W.block ?_ | refine W.skip ?_ | refine W.exit ?_ | refine W.g ?_ zy29q27)
   refine W.cond rfl ?_ ?_
   ·intro h
    refine W.go ?_
    refine W.ret ⟨.inr rfl, by rfl, ?_⟩
    simp only [Tryz.f108, resA, resOne, toT, fin, exb, Nat.reduceAdd, Nat.reduceLeDiff, Nat.reduceEqDiff, Nat.reduceMul, Int.reduceToNat, reduceIte, Int.reduceLE, Int.reduceNeg]
    have h' : (x.toList == b.toList) = true := by simpa using h
    rw [List.any_eq_true.2 ⟨x, List.mem_of_getElem? hx, h'⟩]
   ·intro h
    refine W.go ?_
    refine ⟨k + 1, ⟨hlt, fun i hi => ?_⟩, by omega, ?_⟩
    ·rcases Nat.lt_succ_iff_lt_or_eq.1 hi with q | q
     ·exact hall i q
     ·subst q; rw [hx]; simpa using h
    exact le_Sk (kept_not hkeep)
  ·intro hge
   simp only [decide_eq_false_iff_not, Int.ofNat_lt] at hge
   obtain rfl : k = L.length := by omega
   refine W.go ?_
   refine W.ret ⟨.inr rfl, by rfl, ?_⟩
   simp only [Tryz.f108, resA, resOne, toT, fin, exb, Nat.reduceAdd, Nat.reduceLeDiff, Nat.reduceEqDiff, Nat.reduceMul, Int.reduceToNat, reduceIte, Int.reduceLE, Int.reduceNeg]
   have : L.any (fun x => x.toList == b.toList) = false := List.any_eq_false.2 fun x hx => by
    obtain ⟨i, hi⟩ := List.getElem?_of_mem hx
    have := hall i (List.getElem?_eq_some_iff.1 hi).1
    rw [hi] at this
    simpa using this
   rw [this]
end V
end Go.Proofs.YthhpcjoaogmhbaaGreat
end
section
namespace Go.Proofs.YthhpcjoaogmhbaaGreat
namespace V
open Go.RowKit
theorem treeErr_wf (b : Bool) : (Lit.int .i64 (treeErr b)).wf = true := by cases b <;> decide
theorem refTree_ok (p : Program) (m : Mem) : COk Tryz.prog 23 [.agg (cProg p)] m (.c (.int .i64 (treeErr (checkB p)))) := by
 refine ⟨enters_of Tryz.func23 (by kernel_rfl) rfl, rfl, fun m' _ => ?_⟩
 intro w0 I0 B I w vals hm hv
 match vals, hv with
 | [v], ⟨h1, _⟩ =>
   obtain ⟨d, hp⟩ := rprog_of hm.there h1
   refine (refCheck_any d w v p hp).mono ?_
   rintro e w' ⟨rfl, hb⟩
   exact ⟨_, I, rfl, hb, fun _ _ k => k, fun _ _ k => .inl k, .int (treeErr_wf _)⟩
theorem tree_ok (p : Program) (m : Mem) : COk Tryz.prog 14 [.agg (cProg p)] m (.c (.int .i64 (treeErr (checkB p)))) := by
 refine ⟨enters_of Tryz.func14 (by kernel_rfl) rfl, rfl, fun m' _ => ?_⟩
 intro w0 I0 B I w vals hm hv
 match vals, hv with
 | [v], ⟨h1, _⟩ =>
   obtain ⟨d, hp⟩ := rprog_of hm.there h1
   refine (check_any d w v p hm.globNow hp).mono ?_
   rintro e w' ⟨rfl, hb⟩
   exact ⟨_, I, rfl, hb, fun _ _ k => k, fun _ _ k => .inl k, .int (treeErr_wf _)⟩
end V
end Go.Proofs.YthhpcjoaogmhbaaGreat
end
section
namespace Go.Proofs.YthhpcjoaogmhbaaGreat
namespace V
theorem toList_loop (bs : ByteArray) : ∀ (n i : Nat) (r : List UInt8), bs.size - i = n → ByteArray.toList.loop bs i r = r.reverse ++ bs.data.toList.drop i := by
 intro n
 induction n with
 | zero =>
   intro i r h
   unfold ByteArray.toList.loop
   have : ¬ i < bs.size := by omega
   rw [if_neg this, List.drop_eq_nil_of_le (by rw [Array.length_toList]; show bs.size ≤ i; omega)]
   simp
 | succ n ih =>
   intro i r h
   have hi : i < bs.size := by omega
   unfold ByteArray.toList.loop
   rw [if_pos hi, ih (i + 1) _ (by omega)]
   have hl : i < bs.data.toList.length := by rw [Array.length_toList]; exact hi
   rw [List.drop_eq_getElem_cons hl]
   have : bs.get! i = bs.data.toList[i] := by
    have hi' : i < bs.data.size := hi
    show bs.data[i]! = _
    rw [getElem!_pos bs.data i hi']; simp
   rw [this]; simp
theorem toList_data (s : ByteArray) : s.toList = s.data.toList := by
 unfold ByteArray.toList
 rw [toList_loop s _ 0 [] rfl]; simp
theorem toList_inj {a b : ByteArray} : a.toList = b.toList ↔ a = b := by
 rw [toList_data, toList_data]
 refine ⟨fun h => ?_, fun h => by rw [h]⟩
 cases a; cases b
 simpa using h
theorem beq_bytes {a b : ByteArray} : (a.toList == b.toList) = true ↔ a = b := by rw [beq_iff_eq, toList_inj]
theorem onceB_iff {l : List ByteArray} : onceB l = true ↔ l.Nodup := by
 unfold onceB
 rw [decide_eq_true_eq]
 have e : (fun s : ByteArray => s.data.toList) = ByteArray.toList := funext fun s => (toList_data s).symm
 rw [e]
 exact ⟨fun h => (List.pairwise_map.1 h).imp fun hab e => hab (by rw [e]), fun h => List.Pairwise.map _ (fun a b hab hc => hab (toList_inj.1 hc)) h⟩
def chainC (cs : List Class) : Nat → ByteArray → List Class
 | 0, _ => []
 | k + 1, name => match cs.find? (nameIs name) with
   | none => []
   | some c => c :: chainC cs k c.super
theorem named_name : namedB = nameIs := rfl
theorem find_name {cs : List Class} {name : ByteArray} {c : Class} (h : cs.find? (nameIs name) = some c) : c.name = name ∧ c ∈ cs := by
 refine ⟨?_, List.mem_of_find?_eq_some h⟩
 have := List.find?_some h
 exact beq_bytes.1 this
theorem findJ_find (cs : List Class) (name : ByteArray) : (∀ j, findJ cs name = some j → cs[j]? = cs.find? (nameIs name) ∧ (cs.find? (nameIs name)).isSome = true) ∧ (findJ cs name = none → cs.find? (nameIs name) = none) := by
 obtain ⟨h1, h2⟩ := idx_find (namedB name) cs
 rw [named_name] at h1 h2
 unfold findJ
 rw [named_name]
 refine ⟨fun j hj => ?_, fun h => ?_⟩
 ·split at hj
  ·rename_i hi
   cases hj
   obtain ⟨x, hx, -⟩ := idxB_spec (nameIs name) cs hi
   exact ⟨h2 hi, by rw [← h2 hi, hx]; rfl⟩
  ·cases hj
 ·split at h
  ·cases h
  ·rename_i hi; exact h1 (by omega)
theorem upX_chain (cs : List Class) : ∀ (k m : Nat) (name : ByteArray), ∃ f : Nat → Nat, upX cs k m name = (List.range (chainC cs k name).length).map (fun i => (m + i, f i)) ∧ ∀ i, i < (chainC cs k name).length → cs[f i]? = (chainC cs k name)[i]?
 | 0, m, name => ⟨fun _ => 0, rfl, fun i h => by simp [chainC] at h⟩
 | k + 1, m, name => by
   obtain ⟨h1, h2⟩ := findJ_find cs name
   unfold upX
   cases hj : findJ cs name with
   | none =>
     have := h2 hj
     exact ⟨fun _ => 0, by simp [chainC, this], fun i h => by simp [chainC, this] at h⟩
   | some j =>
     obtain ⟨h3, h4⟩ := h1 j hj
     obtain ⟨c, hc⟩ := Option.isSome_iff_exists.1 h4
     rw [hc] at h3
     have hs : superOf cs j = c.super := by simp [superOf, h3]
     obtain ⟨f, h5, h6⟩ := upX_chain cs k (m + 1) c.super
     refine ⟨fun i => if i = 0 then j else f (i - 1), ?_, fun i hi => ?_⟩
     ·dsimp only
      rw [hs, h5]
      simp only [chainC, hc, List.length_cons, List.range_succ_eq_map, List.map_cons, List.map_map]
      congr 1
      refine List.map_congr_left fun i _ => ?_
      simp [Nat.add_assoc, Nat.add_comm 1 i]
     ·simp only [chainC, hc, List.length_cons] at hi ⊢
      cases i with
      | zero => simpa using h3
      | succ i => simpa using h6 i (by omega)
theorem chainF_chain (cs : List Class) : ∀ (k : Nat) (name : ByteArray), chainF cs k name = (chainC cs k name).map (·.name)
 | 0, _ => rfl
 | k + 1, name => by
   unfold chainF chainC
   cases h : cs.find? (nameIs name) with
   | none => rfl
   | some c => simp [chainF_chain cs k c.super, (find_name h).1]
theorem chainC_mem (cs : List Class) : ∀ (k : Nat) (name : ByteArray), ∀ d ∈ chainC cs k name, d ∈ cs ∧ cs.find? (nameIs d.name) = some d
 | 0, _, d, hd => by simp [chainC] at hd
 | k + 1, name, d, hd => by
   unfold chainC at hd
   cases h : cs.find? (nameIs name) with
   | none => rw [h] at hd; simp at hd
   | some c =>
     rw [h] at hd
     rcases List.mem_cons.1 hd with rfl | hd
     ·obtain ⟨h1, h2⟩ := find_name h
      exact ⟨h2, by rw [h1]; exact h⟩
     ·exact chainC_mem cs k c.super d hd
theorem chainC_more (cs : List Class) : ∀ (k a : Nat) (name : ByteArray), (chainC cs k name).length < k → chainC cs (k + a) name = chainC cs k name
 | 0, a, name, h => by omega
 | k + 1, a, name, h => by
   rw [Nat.add_right_comm]
   unfold chainC at h ⊢
   cases hf : cs.find? (nameIs name) with
   | none => rfl
   | some c =>
     rw [hf] at h
     simp only [List.length_cons] at h
     simp only
     rw [chainC_more cs k a c.super (by omega)]
theorem chainC_drop (cs : List Class) : ∀ (k i : Nat) (name : ByteArray) (d : Class), (chainC cs k name)[i]? = some d → (chainC cs k name).drop i = chainC cs (k - i) d.name
 | 0, i, name, d, h => by simp [chainC] at h
 | k + 1, 0, name, d, h => by
   rw [List.drop_zero, Nat.sub_zero]
   unfold chainC at h ⊢
   cases hf : cs.find? (nameIs name) with
   | none => rw [hf] at h; simp at h
   | some c =>
     rw [hf] at h
     simp at h; subst h
     rw [(find_name hf).1, hf]
 | k + 1, i + 1, name, d, h => by
   cases hf : cs.find? (nameIs name) with
   | none => simp [chainC, hf] at h
   | some c =>
     have e : chainC cs (k + 1) name = c :: chainC cs k c.super := by
      conv => lhs; unfold chainC
      rw [hf]
     rw [e] at h ⊢
     rw [List.getElem?_cons_succ] at h
     rw [List.drop_succ_cons, Nat.add_sub_add_right]
     exact chainC_drop cs k i c.super d h
theorem classD_of {cs : List Class} {d : Class} (h : cs.find? (nameIs d.name) = some d) : classD cs d.name = d := by unfold classD; rw [h]; rfl
theorem likeB_alike (x y : Method) : likeB x y = alikeB x y := rfl
theorem alike_refl (x : Method) : alikeB x x = true := by simp [alikeB]
theorem alike_iff {x y : Method} : alikeB x y = true ↔ x.type.toList = y.type.toList ∧ typesOf x.params = typesOf y.params := by simp [alikeB]
theorem alike_trans {x y z : Method} (h : alikeB x y = true) (k : alikeB y z = true) : alikeB x z = true := by
 rw [alike_iff] at *; exact ⟨h.1.trans k.1, h.2.trans k.2⟩
theorem upX_all {cs : List Class} {c : Class} (k m : Nat) (name : ByteArray) : (upX cs k m name).all (roundB cs c) = true ↔ ∀ i d, (chainC cs k name)[i]? = some d → topB cs c (m + i) d = true := by
 obtain ⟨f, h1, h2⟩ := upX_chain cs k m name
 rw [h1, List.all_eq_true]
 constructor
 ·intro h i d hd
  have hi := (List.getElem?_eq_some_iff.1 hd).1
  have := h (m + i, f i) (List.mem_map.2 ⟨i, List.mem_range.2 hi, rfl⟩)
  rwa [roundB_at ((h2 i hi).trans hd)] at this
 ·intro h x hx
  obtain ⟨i, hi, rfl⟩ := List.mem_map.1 hx
  have hi := List.mem_range.1 hi
  have hd := List.getElem?_eq_getElem hi
  rw [roundB_at ((h2 i hi).trans hd)]
  exact h i _ hd
theorem fieldsUp_chain (cs : List Class) (k m : Nat) (name : ByteArray) : fieldsUp cs (upX cs k m name) = (chainC cs k name).flatMap fun d => namesL d.fields := by
 obtain ⟨f, h1, h2⟩ := upX_chain cs k m name
 rw [h1]
 unfold fieldsUp
 have : ∀ (l : List Class), (∀ i, i < l.length → cs[f i]? = l[i]?) → ((List.range l.length).map fun i => (m + i, f i)).flatMap (fieldsAt cs) = l.flatMap fun d => namesL d.fields := by
  intro l h
  have e : (List.range l.length).map (fun i => fieldsAt cs (m + i, f i)) = l.map fun d => namesL d.fields := by
   refine List.ext_getElem? fun i => ?_
   by_cases hi : i < l.length
   ·simp only [List.getElem?_map, List.getElem?_range hi, Option.map_some]
    rw [List.getElem?_eq_getElem hi]
    simp [fieldsAt, h i hi, List.getElem?_eq_getElem hi]
   ·rw [List.getElem?_eq_none (by simpa using Nat.not_lt.1 hi), List.getElem?_eq_none (by simpa using Nat.not_lt.1 hi)]
  rw [List.flatMap_def, List.map_map, List.flatMap_def]
  exact congrArg List.flatten e
 exact this _ h2
theorem upNames_chain (cs : List Class) (k m : Nat) (name : ByteArray) : upNames cs (upX cs k m name) = (chainC cs k name).map (·.name) := by
 obtain ⟨f, h1, h2⟩ := upX_chain cs k m name
 rw [h1]
 unfold upNames
 have : ∀ (l : List Class), (∀ i, i < l.length → cs[f i]? = l[i]?) → ((List.range l.length).map fun i => (m + i, f i)).flatMap (nameAt cs) = l.map (·.name) := by
  intro l h
  have e : (List.range l.length).map (fun i => nameAt cs (m + i, f i)) = l.map fun d => [d.name] := by
   refine List.ext_getElem? fun i => ?_
   by_cases hi : i < l.length
   ·simp only [List.getElem?_map, List.getElem?_range hi, Option.map_some]
    rw [List.getElem?_eq_getElem hi]
    simp [nameAt, h i hi, List.getElem?_eq_getElem hi]
   ·rw [List.getElem?_eq_none (by simpa using Nat.not_lt.1 hi), List.getElem?_eq_none (by simpa using Nat.not_lt.1 hi)]
  rw [List.flatMap_def, List.map_map]
  have e2 := congrArg List.flatten e
  refine e2.trans ?_
  clear e e2 h
  induction l with
  | nil => rfl
  | cons x l ih => simp [ih]
 exact this _ h2
theorem twice_iff (l : List Slot) : twiceB l = false ↔ (namesL l).Nodup := by
 unfold twiceB namesL
 rw [List.any_eq_false, List.Nodup, List.pairwise_map, List.pairwise_iff_getElem]
 constructor
 ·intro h i j hi hj hij e
  have h1 := h j (List.mem_range.2 hj)
  refine h1 (List.any_eq_true.2 ⟨i, List.mem_range.2 hij, ?_⟩)
  simp [eqAt, List.getElem?_eq_getElem hi, List.getElem?_eq_getElem hj, e]
 ·intro h j hj hc
  have hj := List.mem_range.1 hj
  obtain ⟨i, hi, he⟩ := List.any_eq_true.1 hc
  have hij := List.mem_range.1 hi
  have hil : i < l.length := by omega
  have hne := h i j hil hj hij
  simp only [eqAt, List.getElem?_eq_getElem hil, List.getElem?_eq_getElem hj] at he
  exact hne (beq_bytes.1 he).symm
theorem nodup_rows {α : Type} (l : List α) (g : α → ByteArray) : (∀ i x, l[i]? = some x → ((l.take i).any fun o => (g o).toList == (g x).toList) = false) ↔ (l.map g).Nodup := by
 rw [List.Nodup, List.pairwise_map, List.pairwise_iff_getElem]
 constructor
 ·intro h i j hi hj hij e
  have h1 := h j l[j] (List.getElem?_eq_getElem hj)
  rw [List.any_eq_false] at h1
  refine h1 l[i] ?_ (beq_bytes.2 e)
  refine List.mem_of_getElem? (i := i) ?_
  rw [List.getElem?_take, if_pos hij]
  exact List.getElem?_eq_getElem hi
 ·intro h j x hx
  rw [List.any_eq_false]
  intro o ho hc
  obtain ⟨i, hi⟩ := List.getElem?_of_mem ho
  rw [List.getElem?_take] at hi
  split at hi
  ·rename_i hij
   have hj := (List.getElem?_eq_some_iff.1 hx).1
   have hil := (List.getElem?_eq_some_iff.1 hi).1
   have e1 : l[i] = o := (List.getElem?_eq_some_iff.1 hi).2
   have e2 : l[j] = x := (List.getElem?_eq_some_iff.1 hx).2
   have := h i j hil hj hij
   rw [e1, e2] at this
   exact this (beq_bytes.1 hc)
  ·cases hi
def nextM (name : ByteArray) : List Class → Option Method
 | [] => none
 | d :: l => match d.methods.find? (methIs name) with | some x => some x | none => nextM name l
theorem methodF_next {cs : List Class} (name : ByteArray) : ∀ l : List Class, (∀ d ∈ l, cs.find? (nameIs d.name) = some d) → (methodF cs name (l.map (·.name))).map (·.1) = nextM name l
 | [], _ => rfl
 | d :: l, h => by
   simp only [List.map_cons, methodF, nextM]
   rw [classD_of (h d (by simp))]
   cases d.methods.find? (methIs name) with
   | some x => rfl
   | none => exact methodF_next name l fun d hd => h d (List.mem_cons_of_mem _ hd)
structure Same0 (cs : List Class) : Prop where
 names : (cs.map (·.name)).Nodup
 sup : ∀ c ∈ cs, c.super.toList = [] ∨ (cs.find? (nameIs c.super)).isSome = true
 len : ∀ c ∈ cs, (chainC cs (cs.length + 1) c.name).length ≤ cs.length
 fields : ∀ c ∈ cs, ((chainC cs (cs.length + 1) c.name).flatMap fun d => namesL d.fields).Nodup
 own : ∀ c ∈ cs, (c.methods.map (·.name)).Nodup
 params : ∀ c ∈ cs, ∀ m ∈ c.methods, (namesL m.params).Nodup
def RefM (cs : List Class) : Prop := ∀ c ∈ cs, ∀ m ∈ c.methods, ∀ o, nextM m.name ((chainC cs (cs.length + 1) c.name).drop 1) = some o → alikeB m o = true
def ProgM (cs : List Class) : Prop := ∀ c ∈ cs, ∀ m ∈ c.methods, ∀ (i : Nat) d, (chainC cs (cs.length + 1) c.name)[i]? = some d → fitsB m d.methods = true
theorem find_uniq {cs : List Class} (h : (cs.map (·.name)).Nodup) {c : Class} (hc : c ∈ cs) : cs.find? (nameIs c.name) = some c := by
 obtain ⟨d, hd⟩ := find_self hc
 rw [hd]
 obtain ⟨h1, h2⟩ := find_name hd
 obtain ⟨i, hi⟩ := List.getElem?_of_mem hc
 obtain ⟨j, hj⟩ := List.getElem?_of_mem h2
 have hi' := (List.getElem?_eq_some_iff.1 hi)
 have hj' := (List.getElem?_eq_some_iff.1 hj)
 rw [List.Nodup, List.pairwise_map, List.pairwise_iff_getElem] at h
 rcases Nat.lt_trichotomy i j with hij | hij | hij
 ·exact absurd (by rw [hi'.2, hj'.2]; exact h1.symm) (h i j hi'.1 hj'.1 hij)
 ·subst hij; rw [hi] at hj; exact hj.symm
 ·exact absurd (by rw [hi'.2, hj'.2]; exact h1) (h j i hj'.1 hi'.1 hij)
theorem next_at {name : ByteArray} : ∀ {l : List Class} {o : Method}, nextM name l = some o → ∃ (i : Nat) (d : Class), l[i]? = some d ∧ d.methods.find? (methIs name) = some o ∧ ∀ j e, j < i → l[j]? = some e → e.methods.find? (methIs name) = none
 | [], o, h => by cases h
 | d :: l, o, h => by
   simp only [nextM] at h
   cases hf : d.methods.find? (methIs name) with
   | some x => rw [hf] at h; cases h; exact ⟨0, d, rfl, hf, fun j e hj => by omega⟩
   | none =>
     rw [hf] at h
     obtain ⟨i, e, h1, h2, h3⟩ := next_at h
     refine ⟨i + 1, e, by simpa using h1, h2, fun j f hj he => ?_⟩
     cases j with
     | zero => simp at he; subst he; exact hf
     | succ j => exact h3 j f (by omega) (by simpa using he)
theorem next_some {name : ByteArray} : ∀ {l : List Class} {i : Nat} {d : Class} {o : Method}, l[i]? = some d → d.methods.find? (methIs name) = some o → ∃ o', nextM name l = some o'
 | [], i, d, o, h, _ => by simp at h
 | e :: l, 0, d, o, h, k => by simp at h; subst h; exact ⟨o, by simp [nextM, k]⟩
 | e :: l, i + 1, d, o, h, k => by
   simp only [nextM]
   cases e.methods.find? (methIs name) with
   | some x => exact ⟨x, rfl⟩
   | none => exact next_some (by simpa using h) k
theorem meth_of {l : List Method} {name : ByteArray} {o : Method} (h : l.find? (methIs name) = some o) : o ∈ l ∧ o.name = name := ⟨List.mem_of_find?_eq_some h, by have := List.find?_some h; exact beq_bytes.1 this⟩
theorem meth_uniq {l : List Method} (h : (l.map (·.name)).Nodup) {m : Method} (hm : m ∈ l) : l.find? (methIs m.name) = some m := by
 cases hf : l.find? (methIs m.name) with
 | none =>
   have := List.find?_eq_none.1 hf m hm
   simp [methIs] at this
 | some o =>
   obtain ⟨h1, h2⟩ := meth_of hf
   obtain ⟨i, hi⟩ := List.getElem?_of_mem hm
   obtain ⟨j, hj⟩ := List.getElem?_of_mem h1
   have hi' := (List.getElem?_eq_some_iff.1 hi)
   have hj' := (List.getElem?_eq_some_iff.1 hj)
   rw [List.Nodup, List.pairwise_map, List.pairwise_iff_getElem] at h
   rcases Nat.lt_trichotomy i j with hij | hij | hij
   ·exact absurd (by rw [hi'.2, hj'.2]; exact h2.symm) (h i j hi'.1 hj'.1 hij)
   ·subst hij; rw [hi] at hj; exact hj.symm
   ·exact absurd (by rw [hi'.2, hj'.2]; exact h2) (h j i hj'.1 hi'.1 hij)
theorem fits_iff {m : Method} {l : List Method} : fitsB m l = true ↔ ∀ o, l.find? (methIs m.name) = some o → alikeB m o = true := by
 unfold fitsB
 have e : methB m.name = methIs m.name := rfl
 rw [e]
 cases l.find? (methIs m.name) with
 | none => simp
 | some o => simp
theorem refM_progM {cs : List Class} (h0 : Same0 cs) : RefM cs ↔ ProgM cs := by
 constructor
 ·intro hR
  -- by how far above it stands
  have key : ∀ n, ∀ c ∈ cs, ∀ m ∈ c.methods, ∀ (i : Nat) d, i ≤ n → (chainC cs (cs.length + 1) c.name)[i]? = some d → fitsB m d.methods = true := by
   intro n
   induction n with
   | zero =>
     intro c hc m hm i d hi hd
     obtain rfl : i = 0 := by omega
     have hf := find_uniq h0.names hc
     have : d = c := by
      have h1 : chainC cs (cs.length + 1) c.name = c :: chainC cs cs.length c.super := by
       conv => lhs; unfold chainC
       rw [hf]
      rw [h1] at hd
      simpa using hd.symm
     subst this
     rw [fits_iff]
     intro o ho
     rw [meth_uniq (h0.own d hc) hm] at ho
     cases ho
     exact alike_refl m
   | succ n ih =>
     intro c hc m hm i d hi hd
     rcases Nat.lt_or_ge i (n + 1) with h1 | h1
     ·exact ih c hc m hm i d (by omega) hd
     ·obtain rfl : i = n + 1 := by omega
      rw [fits_iff]
      intro o ho
      have hd1 : ((chainC cs (cs.length + 1) c.name).drop 1)[n]? = some d := by rw [List.getElem?_drop, Nat.add_comm 1 n]; exact hd
      obtain ⟨o', ho'⟩ := next_some hd1 ho
      have hlike := hR c hc m hm o' ho'
      obtain ⟨q, e, he, hf, hbefore⟩ := next_at ho'
      rw [List.getElem?_drop] at he
      rcases Nat.lt_trichotomy q n with hq | hq | hq
      ·-- the next one stands below: from there on
       obtain ⟨hem, hef⟩ := chainC_mem cs _ _ e (List.mem_of_getElem? he)
       obtain ⟨ho1, ho2⟩ := meth_of hf
       have hdr := chainC_drop cs (cs.length + 1) (1 + q) c.name e he
       have hlen := h0.len c hc
       have hmore : chainC cs (cs.length + 1) e.name = (chainC cs (cs.length + 1) c.name).drop (1 + q) := by
        rw [hdr]
        have hl : (chainC cs (cs.length + 1 - (1 + q)) e.name).length < cs.length + 1 - (1 + q) := by
         rw [← hdr, List.length_drop]
         have := (List.getElem?_eq_some_iff.1 he).1
         omega
        have := chainC_more cs (cs.length + 1 - (1 + q)) (1 + q) e.name hl
        rw [show cs.length + 1 - (1 + q) + (1 + q) = cs.length + 1 by have := (List.getElem?_eq_some_iff.1 he).1; omega] at this
        exact this
       have hd2 : (chainC cs (cs.length + 1) e.name)[n + 1 - (1 + q)]? = some d := by
        rw [hmore, List.getElem?_drop]
        rw [show 1 + q + (n + 1 - (1 + q)) = n + 1 by omega]
        exact hd
       have := ih e hem o' ho1 (n + 1 - (1 + q)) d (by omega) hd2
       rw [fits_iff, ho2] at this
       exact alike_trans hlike (this o ho)
      ·subst hq
       rw [Nat.add_comm 1 q] at he
       rw [hd] at he
       cases he
       rw [hf] at ho
       cases ho
       exact hlike
      ·have := hbefore n d hq hd1
       rw [this] at ho
       cases ho
  exact fun c hc m hm i d hd => key i c hc m hm i d (Nat.le_refl _) hd
 ·intro hP c hc m hm o ho
  obtain ⟨i, d, h1, h2, -⟩ := next_at ho
  rw [List.getElem?_drop] at h1
  have := hP c hc m hm _ d h1
  rw [fits_iff] at this
  exact this o h2
end V
end Go.Proofs.YthhpcjoaogmhbaaGreat
end
section
namespace Go.Proofs.YthhpcjoaogmhbaaGreat
namespace V
theorem names_iff {cs : List Class} : namesB cs = true ↔ (cs.map (·.name)).Nodup ∧ ∀ c ∈ cs, c.super.toList = [] ∨ (cs.find? (nameIs c.super)).isSome = true := by
 rw [← nodup_rows]
 unfold namesB
 rw [List.all_eq_true]
 have row : ∀ i c, cs[i]? = some c → (nameRowB cs i = true ↔ ((cs.take i).any fun o => o.name.toList == c.name.toList) = false ∧ (c.super.toList = [] ∨ (cs.find? (nameIs c.super)).isSome = true)) := by
  intro i c hc
  have e : ((cs.take i).any fun d => c.name.toList == d.name.toList) = ((cs.take i).any fun o => o.name.toList == c.name.toList) := by
   congr 1; funext d; exact BEq.comm
  unfold nameRowB
  rw [hc]
  dsimp only
  rw [e]
  simp only [Bool.and_eq_true, Bool.not_eq_true', Bool.or_eq_true, beq_iff_eq]
 constructor
 ·intro h
  refine ⟨fun i c hc => ((row i c hc).1 (h i (List.mem_range.2 (List.getElem?_eq_some_iff.1 hc).1))).1, fun c hm => ?_⟩
  obtain ⟨i, hc⟩ := List.getElem?_of_mem hm
  exact ((row i c hc).1 (h i (List.mem_range.2 (List.getElem?_eq_some_iff.1 hc).1))).2
 ·rintro ⟨h1, h2⟩ i hi
  have hc := List.getElem?_eq_getElem (List.mem_range.1 hi)
  exact (row i _ hc).2 ⟨h1 i _ hc, h2 _ (List.mem_of_getElem? hc)⟩
theorem fieldsF_perm {cs : List Class} (l : List Class) (h : ∀ d ∈ l, cs.find? (nameIs d.name) = some d) : (namesL (fieldsF cs (l.map (·.name)))).Nodup ↔ (l.flatMap fun d => namesL d.fields).Nodup := by
 have e : namesL (fieldsF cs (l.map (·.name))) = l.reverse.flatMap fun d => namesL d.fields := by
  unfold fieldsF namesL
  rw [← List.map_reverse, List.map_flatMap, List.flatMap_map]
  have : ∀ l' : List Class, (∀ d ∈ l', d ∈ l) → (l'.flatMap fun d => ((classD cs d.name).fields.map (·.name))) = l'.flatMap fun d => d.fields.map (·.name) := by
   intro l'
   induction l' with
   | nil => intro _; rfl
   | cons d l' ih =>
     intro hm
     rw [List.flatMap_cons, List.flatMap_cons, ih fun x hx => hm x (List.mem_cons_of_mem _ hx), classD_of (h d (hm d (by simp)))]
  exact this _ fun d hd => List.mem_reverse.1 hd
 rw [e]
 exact (List.Perm.flatMap_right _ (List.reverse_perm l)).nodup_iff
theorem methods_iff {cs : List Class} (k : Nat) (name : ByteArray) (j : Nat) (l : List Method) : methodsB cs ((chainF cs k name).drop j) l = true ↔ (l.map (·.name)).Nodup ∧ ∀ m ∈ l, (namesL m.params).Nodup ∧ ∀ o, nextM m.name ((chainC cs k name).drop j) = some o → alikeB m o = true := by
 rw [← nodup_rows, chainF_chain, ← List.map_drop]
 have hmem : ∀ d ∈ (chainC cs k name).drop j, cs.find? (nameIs d.name) = some d := fun d hd => (chainC_mem cs k name d (List.mem_of_mem_drop hd)).2
 generalize (chainC cs k name).drop j = ab at hmem ⊢
 unfold methodsB
 rw [List.all_eq_true]
 have row : ∀ i x, l[i]? = some x → (methRowB cs (ab.map (·.name)) l i = true ↔ ((l.take i).any fun o => o.name.toList == x.name.toList) = false ∧ (namesL x.params).Nodup ∧ ∀ o, nextM x.name ab = some o → alikeB x o = true) := by
  intro i x hx
  have hn := methodF_next x.name ab hmem
  unfold methRowB
  rw [hx]
  dsimp only
  rw [← twice_iff]
  cases hm : methodF cs x.name (ab.map (·.name)) with
  | none =>
    rw [hm] at hn
    rw [← hn]
    simp
  | some q =>
    rw [hm] at hn
    rw [← hn]
    obtain ⟨o, n⟩ := q
    simp only [Option.map_some, Bool.and_eq_true, Bool.not_eq_true', Bool.or_eq_false_iff, Option.some.injEq, forall_eq', Bool.not_eq_false', likeB_alike]
    constructor
    ·rintro ⟨a, b, c⟩; exact ⟨a, c, b⟩
    ·rintro ⟨a, b, c⟩; exact ⟨a, c, b⟩
 constructor
 ·intro h
  refine ⟨fun i x hx => ((row i x hx).1 (h i (List.mem_range.2 (List.getElem?_eq_some_iff.1 hx).1))).1, fun x hm => ?_⟩
  obtain ⟨i, hx⟩ := List.getElem?_of_mem hm
  exact ((row i x hx).1 (h i (List.mem_range.2 (List.getElem?_eq_some_iff.1 hx).1))).2
 ·rintro ⟨h1, h2⟩ i hi
  have hx := List.getElem?_eq_getElem (List.mem_range.1 hi)
  exact (row i _ hx).2 ⟨h1 i _ hx, h2 _ (List.mem_of_getElem? hx)⟩
theorem ref_iff {cs : List Class} : (namesB cs = true ∧ (List.range cs.length).all (classRowB cs) = true) ↔ Same0 cs ∧ RefM cs := by
 rw [names_iff, List.all_eq_true]
 have row : ∀ i c, cs[i]? = some c → (classRowB cs i = true ↔ (chainC cs (cs.length + 1) c.name).length ≤ cs.length ∧ ((chainC cs (cs.length + 1) c.name).flatMap fun d => namesL d.fields).Nodup ∧ (c.methods.map (·.name)).Nodup ∧ ∀ m ∈ c.methods, (namesL m.params).Nodup ∧ ∀ o, nextM m.name ((chainC cs (cs.length + 1) c.name).drop 1) = some o → alikeB m o = true) := by
  intro i c hc
  unfold classRowB
  rw [hc]
  dsimp only
  rw [Bool.and_eq_true, methods_iff, Bool.not_eq_true', Bool.or_eq_false_iff, twice_iff, chainF_chain, List.length_map, decide_eq_false_iff_not, Nat.not_lt,
   fieldsF_perm _ (fun d hd => (chainC_mem cs _ _ d hd).2), and_assoc]
 constructor
 ·rintro ⟨⟨h1, h2⟩, h3⟩
  have R := fun c (hm : c ∈ cs) => (List.getElem?_of_mem hm).elim fun i hc => (row i c hc).1 (h3 i (List.mem_range.2 (List.getElem?_eq_some_iff.1 hc).1))
  exact ⟨⟨h1, h2, fun c hc => (R c hc).1, fun c hc => (R c hc).2.1, fun c hc => (R c hc).2.2.1, fun c hc m hm => ((R c hc).2.2.2 m hm).1⟩, fun c hc m hm => ((R c hc).2.2.2 m hm).2⟩
 ·rintro ⟨h, hR⟩
  refine ⟨⟨h.names, h.sup⟩, fun i hi => ?_⟩
  have hx := List.getElem?_eq_getElem (List.mem_range.1 hi)
  have hm := List.mem_of_getElem? hx
  exact (row i _ hx).2 ⟨h.len _ hm, h.fields _ hm, h.own _ hm, fun m hmm => ⟨h.params _ hm m hmm, hR _ hm m hmm⟩⟩
theorem chainC_self {cs : List Class} {c : Class} (h : cs.find? (nameIs c.name) = some c) (k : Nat) : chainC cs (k + 1) c.name = c :: chainC cs k c.super := by
 conv => lhs; unfold chainC
 rw [h]
theorem any_named {cs : List Class} {n : ByteArray} : cs.any (namedB n) = true ↔ (cs.find? (nameIs n)).isSome = true := by
 rw [named_name, List.find?_isSome, List.any_eq_true]
theorem top_iff {cs : List Class} {c d : Class} {m : Nat} : topB cs c m d = true ↔ m ≠ cs.length ∧ (d.super.toList = [] ∨ (cs.find? (nameIs d.super)).isSome = true) ∧ ∀ y ∈ c.methods, fitsB y d.methods = true := by
 unfold topB
 rw [Bool.and_eq_true, Bool.and_eq_true, Bool.or_eq_true, any_named, List.all_eq_true, List.isEmpty_iff, Bool.not_eq_true', decide_eq_false_iff_not, and_assoc]
theorem prog_iff {cs : List Class} : (onceB (cs.map (·.name)) = true ∧ ∀ c ∈ cs, okClassB cs c = true) ↔ Same0 cs ∧ ProgM cs := by
 have row : ∀ c, okClassB cs c = true ↔ (∀ i d, (chainC cs (cs.length + 1) c.name)[i]? = some d → topB cs c (0 + i) d = true) ∧ (∀ m ∈ c.methods, (namesL m.params).Nodup) ∧ ((chainC cs (cs.length + 1) c.name).flatMap fun d => namesL d.fields).Nodup ∧ (c.methods.map (·.name)).Nodup := by
  intro c
  unfold okClassB
  rw [Bool.and_eq_true, Bool.and_eq_true, Bool.and_eq_true, upX_all, List.all_eq_true, fieldsUp_chain, onceB_iff, onceB_iff, and_assoc, and_assoc]
  simp only [onceB_iff]
 rw [onceB_iff]
 constructor
 ·rintro ⟨h1, h2⟩
  have R := fun c hc => (row c).1 (h2 c hc)
  refine ⟨⟨h1, fun c hc => ?_, fun c hc => ?_, fun c hc => (R c hc).2.2.1, fun c hc => (R c hc).2.2.2, fun c hc => (R c hc).2.1⟩, fun c hc m hm i d hd => ?_⟩
  ·have hf := find_uniq h1 hc
   have : (chainC cs (cs.length + 1) c.name)[0]? = some c := by rw [chainC_self hf]; rfl
   exact (top_iff.1 ((R c hc).1 0 c this)).2.1
  ·rcases Nat.lt_or_ge cs.length (chainC cs (cs.length + 1) c.name).length with hl | hl
   ·have := (top_iff.1 ((R c hc).1 cs.length _ (List.getElem?_eq_getElem hl))).1
    rw [Nat.zero_add] at this
    exact absurd rfl this
   ·exact hl
  ·exact (top_iff.1 ((R c hc).1 i d hd)).2.2 m hm
 ·rintro ⟨h, hP⟩
  refine ⟨h.names, fun c hc => (row c).2 ⟨fun i d hd => ?_, h.params c hc, h.fields c hc, h.own c hc⟩⟩
  refine top_iff.2 ⟨?_, h.sup d (chainC_mem cs _ _ d (List.mem_of_getElem? hd)).1, fun y hy => hP c hc y hy i d hd⟩
  have := (List.getElem?_eq_some_iff.1 hd).1
  have := h.len c hc
  omega
theorem err_eq (e : Int) (cs : List Class) : chkErr e cs = refErr e cs := by
 have key : (onceB (cs.map (·.name)) = true ∧ ∀ c ∈ cs, okClassB cs c = true) ↔ (namesB cs = true ∧ (List.range cs.length).all (classRowB cs) = true) := by
  rw [ref_iff, prog_iff]
  exact ⟨fun h => ⟨h.1, (refM_progM h.1).2 h.2⟩, fun h => ⟨h.1, (refM_progM h.1).1 h.2⟩⟩
 have ha : (cs.any (fun c => !okClassB cs c) = true) ↔ ¬ ∀ c ∈ cs, okClassB cs c = true := by
  rw [← List.all_eq_true, List.any_eq_not_all_not]
  simp
 unfold chkErr refErr
 split
 ·split
  ·rfl
  ·by_cases h1 : onceB (cs.map (·.name)) = true
   ·rw [if_neg (by rw [h1]; decide)]
    by_cases h2 : ∀ c ∈ cs, okClassB cs c = true
    ·rw [if_neg (fun h => ha.1 h h2)]
     obtain ⟨k1, k2⟩ := key.1 ⟨h1, h2⟩
     rw [if_neg (by rw [k1]; decide), if_pos k2]
    ·rw [if_pos (ha.2 h2)]
     split
     ·rfl
     ·rename_i k1
      rw [if_neg (fun k2 => h2 (key.2 ⟨by simpa using k1, k2⟩).2)]
   ·rw [if_pos (by simpa using h1)]
    split
    ·rfl
    ·rename_i k1
     rw [if_neg (fun k2 => h1 (key.2 ⟨by simpa using k1, k2⟩).1)]
 ·rfl
theorem chain_eq (E : Int) (cs : List Class) (n : ByteArray) : chainR E cs n = refChainF E cs n := by
 unfold chainR refChainF
 rw [upNames_chain, chainF_chain]
theorem chkErr_zero {e : Int} {cs : List Class} (h : chkErr e cs = 0) : Same0 cs := by
 unfold chkErr at h
 split at h
 ·split at h
  ·exact absurd h (by decide)
  ·split at h
   ·exact absurd h (by decide)
   ·split at h
    ·exact absurd h (by decide)
    ·rename_i h1 h2
     refine (prog_iff.1 ⟨by simpa using h1, fun c hc => ?_⟩).1
     cases hk : okClassB cs c with
     | true => rfl
     | false => exact absurd (List.any_eq_true.2 ⟨c, hc, by rw [hk]; rfl⟩) h2
 ·rename_i h1; exact absurd h h1
end V
end Go.Proofs.YthhpcjoaogmhbaaGreat
end
section
namespace Go.Proofs.YthhpcjoaogmhbaaGreat
namespace V
open Go.RowKit
def errP (p : Program) : Int := treeErr (checkB p)
theorem chk_ok (p : Program) (hS : SmallC p.classes) (hlen : p.classes.length ≤ 1048576) (m : Mem) : COk Tryz.prog 6 [.agg (cProg p)] m (.c (.int .i64 (chkErr (errP p) p.classes))) :=
 check_ok p (errP p) hS (by omega) (fun m => tree_ok p m) m
theorem refChk_ok (p : Program) (hS : SmallC p.classes) (hlen : p.classes.length ≤ 1048576) (m : Mem) : COk Tryz.prog 11 [.agg (cProg p)] m (.c (.int .i64 (chkErr (errP p) p.classes))) := by
 rw [err_eq]
 exact refCheck_ok p (errP p) (treeErr_wf _) hS (by omega) (fun m => refTree_ok p m) m
end V
end Go.Proofs.YthhpcjoaogmhbaaGreat
end
section
namespace Go.Proofs.YthhpcjoaogmhbaaGreat
namespace V
theorem belowR_iff {cs : List Class} {a b : ByteArray} : belowR 0 cs a b = true ↔ ∃ (i : Nat) (d : Class), (chainC cs (cs.length + 1) a)[i]? = some d ∧ d.name = b := by
 unfold belowR
 rw [chain_eq]
 unfold refChainF
 rw [if_pos rfl, chainF_chain, List.any_map, List.any_eq_true]
 constructor
 ·rintro ⟨d, hd, h⟩
  obtain ⟨i, hi⟩ := List.getElem?_of_mem hd
  exact ⟨i, d, hi, (beq_bytes.1 h).symm⟩
 ·rintro ⟨i, d, hi, rfl⟩
  exact ⟨d, List.mem_of_getElem? hi, beq_bytes.2 rfl⟩
end V
end Go.Proofs.YthhpcjoaogmhbaaGreat
end
section
namespace Go.Proofs.YthhpcjoaogmhbaaGreat
namespace V
open Go.RowKit
abbrev tInt : ByteArray := ⟨#[105, 110, 116]⟩
abbrev tInts : ByteArray := ⟨#[105, 110, 116, 91, 93]⟩
abbrev tNull : ByteArray := ⟨#[110, 117, 108, 108]⟩
def isNm (t : ByteArray) (d : Class) : Bool := d.name.toList == t.toList
def knownR (cs : List Class) (t : ByteArray) : Bool := t.toList == tInt.toList || (t.toList == tInts.toList || cs.any (isNm t))
def fitR (E : Int) (cs : List Class) (a b : ByteArray) : Bool :=
 knownR cs b && (a.toList == b.toList || (if (a.toList == tNull.toList) = true then !(b.toList == tInt.toList) else cs.any (isNm a) && belowR E cs a b))
def fitD (E : Int) (cs : List Class) (a b : ByteArray) : Bool :=
 knownR cs b && (a.toList == b.toList || (a.toList == tNull.toList && !(b.toList == tInt.toList)) || (cs.any (isNm a) && cs.any (isNm b) && (refChainF E cs a).any (fun x => x.toList == b.toList)))
theorem isNm_ok (d : Class) (t : ByteArray) (m : Mem) : COk Tryz.prog 45 [.agg (cClass d), .rptr [.str t]] m (.c (.bool (isNm t d))) := by
 refine (ok_pure tab_ok Tryz.func45 (by kernel_rfl) rfl rfl (by rfl) (by rfl) (by rfl) (fun R hkeep => ?_) m)
 repeat (first | refine W.seq ?_ | refine W.block ?_ | refine W.skip ?_ | refine W.exit ?_ | refine W.g ?_ zy29q33)
 exact W.ret ⟨.inr rfl, by rfl, (by simp only [Tryz.f45, resA, resOne, toT, fin, exb, Nat.reduceAdd, Nat.reduceLeDiff, Nat.reduceEqDiff, Nat.reduceMul, Int.reduceToNat, reduceIte, Int.reduceLE, Int.reduceNeg, cClass]; rfl)⟩
theorem isClass_ok (cs : List Class) (r : List C) (t : ByteArray) (hlen : cs.length ≤ 1000000000) (m : Mem) : COk Tryz.prog 22 [.rptr (.sl (cs.map cClass) :: r), .c (.str t)] m (.c (.bool (cs.any (isNm t)))) := by
 refine (ok_pure tab_ok Tryz.func22 (by kernel_rfl) rfl rfl (by rfl) (by rfl) (by rfl) (fun R hkeep => ?_) m)
 refine W.go ?_
 refine W.regionK tab_ok 0 (by decide) ?_
 refine xs0 6 ?_
 refine runk_callR rfl rfl rfl rfl rfl (by simp) (cvrs_cons cvr_refl (cvrs_cons (cvr_fn (caps_one rfl rfl)) cvrs_nil)) (by rfl) (by rfl) (anyClass_ok cs 45 [[.str t]] (isNm t) (by omega) (fun x _ m => isNm_ok x t m)) ?_
 refine xe0 ?_
 exact W.ret ⟨.inr rfl, by rfl, (by simp only [Tryz.f22, resA, resOne, toT, fin, exb, Nat.reduceAdd, Nat.reduceLeDiff, Nat.reduceEqDiff, Nat.reduceMul, Int.reduceToNat, reduceIte, Int.reduceLE, Int.reduceNeg])⟩
theorem known_ok (cs : List Class) (r : List C) (t : ByteArray) (hlen : cs.length ≤ 1000000000) (m : Mem) : COk Tryz.prog 10 [.rptr (.sl (cs.map cClass) :: r), .c (.str t)] m (.c (.bool (knownR cs t))) := by
 have hk := isClass_ok cs r t hlen
 unfold knownR
 refine (ok_pure tab_ok Tryz.func10 (by kernel_rfl) rfl rfl (by rfl) (by rfl) (by rfl) (fun R hkeep => ?_) m)
 refine W.go ?_
 cases h1 : (t.toList == tInt.toList) with
 | true =>
   refine W.regionK tab_ok 0 (by decide) ?_
   refine runk_exec zy29q38 ?_
   exact W.ret ⟨.inr rfl, by rfl, (by simp only [Tryz.f10, resA, resOne, toT, fin, exb, Nat.reduceAdd, Nat.reduceLeDiff, Nat.reduceEqDiff, Nat.reduceMul, Int.reduceToNat, reduceIte, Int.reduceLE, Int.reduceNeg, h1]; rfl)⟩
 | false =>
   cases h2 : (t.toList == tInts.toList) with
   | true =>
     refine W.regionK tab_ok 0 (by decide) ?_
     refine runk_exec zy29q34 ?_
     exact W.ret ⟨.inr rfl, by rfl, (by simp only [Tryz.f10, resA, resOne, toT, fin, exb, Nat.reduceAdd, Nat.reduceLeDiff, Nat.reduceEqDiff, Nat.reduceMul, Int.reduceToNat, reduceIte, Int.reduceLE, Int.reduceNeg, h1, h2]; rfl)⟩
   | false =>
     refine W.regionK tab_ok 0 (by decide) ?_
     refine runk_split 9 zy29q34 ?_
     refine runk_call rfl rfl rfl rfl rfl (by simp) cw2 (hk _) ?_
     refine runk_exec zy29q34 ?_
     exact W.ret ⟨.inr rfl, by rfl, (by simp only [Tryz.f10, resA, resOne, toT, fin, exb, Nat.reduceAdd, Nat.reduceLeDiff, Nat.reduceEqDiff, Nat.reduceMul, Int.reduceToNat, reduceIte, Int.reduceLE, Int.reduceNeg]; rfl)⟩
theorem refClass_ok (cs : List Class) (mn : C) (t : ByteArray) (hlen : cs.length ≤ 1000000000) (m : Mem) : COk Tryz.prog 31 [.agg [.sl (cs.map cClass), mn], .c (.str t)] m (.c (.bool (cs.any (isNm t)))) := by
 refine (ok_pure tab_ok Tryz.func31 (by kernel_rfl) rfl rfl (by rfl) (by rfl) (by rfl) (fun R hkeep => ?_) m)
 refine W.go ?_
 refine W.loop (ι := Nat) (fun k => ⟨upd (upd (upd (upd (fun _ => .top) 1 (.c (.str t))) 8 (.c (.sl (cs.map cClass)))) 9 (.c (.int .i64 cs.length))) 10 (.c (.int .i64 k)), Mem.nil⟩) (fun k => k ≤ cs.length ∧ (cs.take k).any (isNm t) = false) (fun k => cs.length - k) 0 ?start ⟨Nat.zero_le _, rfl⟩ ?round
 case start =>
  exact le_D (kept_not hkeep)
 case round =>
  rintro k ⟨hk, hall⟩
  refine W.go ?_
  refine W.cond rfl ?_ ?_
  ·intro hlt
   simp only [decide_eq_true_eq, Int.ofNat_lt] at hlt
   obtain ⟨x, hx⟩ : ∃ x, cs[k]? = some x := ⟨_, List.getElem?_eq_getElem hlt⟩
   have hs : (cs.take (k + 1)).any (isNm t) = isNm t x := by
    rw [List.take_add_one, hx, List.any_append, hall]; simp
   repeat (first | refine W.seq ?_ | refine W.block ?_ | refine W.skip ?_ | refine W.exit ?_ | refine W.g ?_ (by simp only [exb, Nat.reduceAdd, Nat.reduceLeDiff, Nat.reduceEqDiff, Nat.reduceMul, Int.reduceToNat, reduceIte, Int.reduceLE, Int.reduceNeg, at_map hx, cClass]; rfl))
   refine W.cond rfl ?_ ?_
   ·intro heq
    refine W.go ?_
    refine W.ret ⟨.inr rfl, by rfl, ?_⟩
    simp only [Tryz.f31, resA, resOne, toT, fin, exb, Nat.reduceAdd, Nat.reduceLeDiff, Nat.reduceEqDiff, Nat.reduceMul, Int.reduceToNat, reduceIte, Int.reduceLE, Int.reduceNeg]
    rw [show cs.any (isNm t) = true from List.any_eq_true.2 ⟨x, List.mem_of_getElem? hx, heq⟩]
   ·intro hne
    refine W.go ?_
    refine ⟨k + 1, ⟨hlt, by rw [hs]; exact hne⟩, by omega, ?_⟩
    exact le_Sk (kept_not hkeep)
  ·intro hge
   simp only [decide_eq_false_iff_not, Int.ofNat_lt] at hge
   obtain rfl : k = cs.length := by omega
   rw [List.take_length] at hall
   refine W.go ?_
   refine W.ret ⟨.inr rfl, by rfl, ?_⟩
   simp only [Tryz.f31, resA, resOne, toT, fin, exb, Nat.reduceAdd, Nat.reduceLeDiff, Nat.reduceEqDiff, Nat.reduceMul, Int.reduceToNat, reduceIte, Int.reduceLE, Int.reduceNeg]
   rw [hall]
theorem refKnown_ok (cs : List Class) (mn : C) (t : ByteArray) (hlen : cs.length ≤ 1000000000) (m : Mem) : COk Tryz.prog 13 [.agg [.sl (cs.map cClass), mn], .c (.str t)] m (.c (.bool (knownR cs t))) := by
 have hk := refClass_ok cs mn t hlen
 unfold knownR
 refine (ok_pure tab_ok Tryz.func13 (by kernel_rfl) rfl rfl (by rfl) (by rfl) (by rfl) (fun R hkeep => ?_) m)
 refine W.go ?_
 cases h1 : (t.toList == tInt.toList) with
 | true =>
   refine W.regionK tab_ok 0 (by decide) ?_
   refine runk_exec zy29q38 ?_
   exact W.ret ⟨.inr rfl, by rfl, (by simp only [Tryz.f13, resA, resOne, toT, fin, exb, Nat.reduceAdd, Nat.reduceLeDiff, Nat.reduceEqDiff, Nat.reduceMul, Int.reduceToNat, reduceIte, Int.reduceLE, Int.reduceNeg, h1]; rfl)⟩
 | false =>
   cases h2 : (t.toList == tInts.toList) with
   | true =>
     refine W.regionK tab_ok 0 (by decide) ?_
     refine runk_exec zy29q34 ?_
     exact W.ret ⟨.inr rfl, by rfl, (by simp only [Tryz.f13, resA, resOne, toT, fin, exb, Nat.reduceAdd, Nat.reduceLeDiff, Nat.reduceEqDiff, Nat.reduceMul, Int.reduceToNat, reduceIte, Int.reduceLE, Int.reduceNeg, h1, h2]; rfl)⟩
   | false =>
     refine W.regionK tab_ok 0 (by decide) ?_
     refine runk_split 9 zy29q34 ?_
     refine runk_call rfl rfl rfl rfl rfl (by simp) cw2 (hk _) ?_
     refine runk_exec zy29q34 ?_
     exact W.ret ⟨.inr rfl, by rfl, (by simp only [Tryz.f13, resA, resOne, toT, fin, exb, Nat.reduceAdd, Nat.reduceLeDiff, Nat.reduceEqDiff, Nat.reduceMul, Int.reduceToNat, reduceIte, Int.reduceLE, Int.reduceNeg]; rfl)⟩
theorem fits_ok (p : Program) (E : Int) (r : List C) (a b : ByteArray) (hlen : p.classes.length ≤ 1000000000) (hchk : ∀ m, COk Tryz.prog 6 [.agg (cProg p)] m (.c (.int .i64 E))) (m : Mem) :
 COk Tryz.prog 44 [.rptr (.sl (p.classes.map cClass) :: .sl (cStmts p.main) :: r), .c (.str a), .c (.str b)] m (.c (.bool (fitR E p.classes a b))) := by
 have hkn := known_ok p.classes (.sl (cStmts p.main) :: r) b hlen
 have hcl := isClass_ok p.classes (.sl (cStmts p.main) :: r) a hlen
 have hbe := fun m => below_ok p E a b (by omega) hchk m
 unfold fitR
 generalize knownR p.classes b = K at hkn
 generalize p.classes.any (isNm a) = L at hcl
 generalize belowR E p.classes a b = B at hbe
 refine (ok_pure tab_ok Tryz.func44 (by kernel_rfl) rfl rfl (by rfl) (by rfl) (by rfl) (fun R hkeep => ?_) m)
 refine W.go ?_
 refine W.regionK tab_ok 0 (by decide) ?_
 refine xs0 2 ?_
 refine runk_call rfl rfl rfl rfl rfl (by simp) cw2 (hkn _) ?_
 refine xe0 ?_
 refine W.cond rfl ?_ ?_
 ·intro h
  obtain rfl : K = false := by simpa using h
  refine W.go ?_
  exact W.ret ⟨.inr rfl, by rfl, (by simp only [Tryz.f44, resA, resOne, toT, fin, exb, Nat.reduceAdd, Nat.reduceLeDiff, Nat.reduceEqDiff, Nat.reduceMul, Int.reduceToNat, reduceIte, Int.reduceLE, Int.reduceNeg]; rfl)⟩
 intro h
 obtain rfl : K = true := by simpa using h
 refine W.go ?_
 refine W.cond rfl ?_ ?_
 ·intro h
  have h : (a.toList == b.toList) = true := h
  refine W.go ?_
  exact W.ret ⟨.inr rfl, by rfl, (by simp only [Tryz.f44, resA, resOne, toT, fin, exb, Nat.reduceAdd, Nat.reduceLeDiff, Nat.reduceEqDiff, Nat.reduceMul, Int.reduceToNat, reduceIte, Int.reduceLE, Int.reduceNeg, h]; rfl)⟩
 intro h1
 have h1 : (a.toList == b.toList) = false := h1
 refine W.go ?_
 refine W.cond rfl ?_ ?_
 ·intro h
  have h : (a.toList == tNull.toList) = true := h
  refine W.go ?_
  exact W.ret ⟨.inr rfl, by rfl, (by simp only [Tryz.f44, resA, resOne, toT, fin, exb, Nat.reduceAdd, Nat.reduceLeDiff, Nat.reduceEqDiff, Nat.reduceMul, Int.reduceToNat, reduceIte, Int.reduceLE, Int.reduceNeg, h, h1]; rfl)⟩
 intro h2
 have h2 : (a.toList == tNull.toList) = false := h2
 refine W.go ?_
 cases L with
 | false =>
   refine W.regionK tab_ok 0 (by decide) ?_
   refine xs0 2 ?_
   refine runk_call rfl rfl rfl rfl rfl (by simp) cw2 (hcl _) ?_
   refine xe0 ?_
   exact W.ret ⟨.inr rfl, by rfl, zy29q12⟩
 | true =>
   refine W.regionK tab_ok 0 (by decide) ?_
   refine xs0 2 ?_
   refine runk_call rfl rfl rfl rfl rfl (by simp) cw2 (hcl _) ?_
   refine runk_split 7 zy29q36 ?_
   refine runk_call rfl rfl rfl rfl rfl (by simp) cw3 (hbe _) ?_
   refine xe0 ?_
   exact W.ret ⟨.inr rfl, by rfl, zy29q12⟩
theorem refFits_ok (p : Program) (E : Int) (a b : ByteArray) (hlen : p.classes.length ≤ 1000000000) (hchk : ∀ m, COk Tryz.prog 11 [.agg (cProg p)] m (.c (.int .i64 E))) (m : Mem) :
 COk Tryz.prog 83 [.agg (cProg p), .c (.str a), .c (.str b)] m (.c (.bool (fitD E p.classes a b))) := by
 have hkn := refKnown_ok p.classes (.sl (cStmts p.main)) b hlen
 have hca := refClass_ok p.classes (.sl (cStmts p.main)) a hlen
 have hcb := refClass_ok p.classes (.sl (cStmts p.main)) b hlen
 have hbe := fun m => refBelow_ok p E a b (by omega) hchk m
 unfold fitD
 generalize knownR p.classes b = K at hkn
 generalize p.classes.any (isNm a) = La at hca
 generalize p.classes.any (isNm b) = Lb at hcb
 generalize ((refChainF E p.classes a).any (fun x => x.toList == b.toList)) = B at hbe
 have hcp : cProg p = [.sl (p.classes.map cClass), .sl (cStmts p.main)] := rfl
 refine (ok_pure tab_ok Tryz.func83 (by kernel_rfl) rfl rfl (by rfl) (by rfl) (by rfl) (fun R hkeep => ?_) m)
 repeat (first | refine W.seq ?_ | refine W.block ?_ | refine W.skip ?_ | refine W.exit ?_ | refine W.g ?_ zy29q37)
 refine W.regionK tab_ok 0 (by decide) ?_
 cases K with
 | false =>
   refine runk_split 2 zy29q37 ?_
   refine runk_call rfl rfl rfl rfl rfl (by simp) cw2 (hkn _) ?_
   refine xe0 ?_
   exact W.ret ⟨.inr rfl, by rfl, (by simp only [Tryz.f83, resA, resOne, toT, fin, exb, Nat.reduceAdd, Nat.reduceLeDiff, Nat.reduceEqDiff, Nat.reduceMul, Int.reduceToNat, reduceIte, Int.reduceLE, Int.reduceNeg]; rfl)⟩
 | true =>
   refine runk_split 2 zy29q37 ?_
   refine runk_call rfl rfl rfl rfl rfl (by simp) cw2 (hkn _) ?_
   cases h1 : (a.toList == b.toList) with
   | true =>
     refine runk_exec zy29q38 ?_
     exact W.ret ⟨.inr rfl, by rfl, (by simp only [Tryz.f83, resA, resOne, toT, fin, exb, Nat.reduceAdd, Nat.reduceLeDiff, Nat.reduceEqDiff, Nat.reduceMul, Int.reduceToNat, reduceIte, Int.reduceLE, Int.reduceNeg, h1]; rfl)⟩
   | false =>
     cases h2 : (a.toList == tNull.toList && !(b.toList == tInt.toList)) with
     | true =>
       rw [Bool.and_eq_true] at h2
       have h3 : (b.toList == tInt.toList) = false := by simpa using h2.2
       have h2 := h2.1
       refine runk_exec (by simp only [exb, Nat.reduceAdd, Nat.reduceLeDiff, Nat.reduceEqDiff, Nat.reduceMul, Int.reduceToNat, reduceIte, Int.reduceLE, Int.reduceNeg, h1, h2, h3]; rfl) ?_
       exact W.ret ⟨.inr rfl, by rfl, (by simp only [Tryz.f83, resA, resOne, toT, fin, exb, Nat.reduceAdd, Nat.reduceLeDiff, Nat.reduceEqDiff, Nat.reduceMul, Int.reduceToNat, reduceIte, Int.reduceLE, Int.reduceNeg, h1, h2, h3]; rfl)⟩
     | false =>
       cases La with
       | false =>
         cases h3 : (a.toList == tNull.toList) with
         | true =>
           have h4 : (b.toList == tInt.toList) = true := by rw [h3] at h2; simpa using h2
           refine runk_split 15 zy29q28 ?_
           refine runk_call rfl rfl rfl rfl rfl (by simp) cw2 (hca _) ?_
           refine runk_exec zy29q31 ?_
           exact W.ret ⟨.inr rfl, by rfl, zy29q10⟩
         | false =>
           refine runk_split 15 zy29q30 ?_
           refine runk_call rfl rfl rfl rfl rfl (by simp) cw2 (hca _) ?_
           refine runk_exec zy29q35 ?_
           exact W.ret ⟨.inr rfl, by rfl, zy29q13⟩
       | true =>
         cases Lb with
         | false =>
           cases h3 : (a.toList == tNull.toList) with
           | true =>
             have h4 : (b.toList == tInt.toList) = true := by rw [h3] at h2; simpa using h2
             refine runk_split 15 zy29q28 ?_
             refine runk_call rfl rfl rfl rfl rfl (by simp) cw2 (hca _) ?_
             refine runk_split 3 zy29q37 ?_
             refine runk_call rfl rfl rfl rfl rfl (by simp) cw2 (hcb _) ?_
             refine runk_exec zy29q31 ?_
             exact W.ret ⟨.inr rfl, by rfl, zy29q10⟩
           | false =>
             refine runk_split 15 zy29q30 ?_
             refine runk_call rfl rfl rfl rfl rfl (by simp) cw2 (hca _) ?_
             refine runk_split 3 zy29q37 ?_
             refine runk_call rfl rfl rfl rfl rfl (by simp) cw2 (hcb _) ?_
             refine runk_exec zy29q35 ?_
             exact W.ret ⟨.inr rfl, by rfl, zy29q13⟩
         | true =>
           cases h3 : (a.toList == tNull.toList) with
           | true =>
             have h4 : (b.toList == tInt.toList) = true := by rw [h3] at h2; simpa using h2
             refine runk_split 15 zy29q28 ?_
             refine runk_call rfl rfl rfl rfl rfl (by simp) cw2 (hca _) ?_
             refine runk_split 3 zy29q37 ?_
             refine runk_call rfl rfl rfl rfl rfl (by simp) cw2 (hcb _) ?_
             refine runk_split 5 zy29q37 ?_
             refine runk_call rfl rfl rfl rfl rfl (by simp) cw3 (hbe _) ?_
             refine runk_exec zy29q31 ?_
             exact W.ret ⟨.inr rfl, by rfl, zy29q10⟩
           | false =>
             refine runk_split 15 zy29q30 ?_
             refine runk_call rfl rfl rfl rfl rfl (by simp) cw2 (hca _) ?_
             refine runk_split 3 zy29q37 ?_
             refine runk_call rfl rfl rfl rfl rfl (by simp) cw2 (hcb _) ?_
             refine runk_split 5 zy29q37 ?_
             refine runk_call rfl rfl rfl rfl rfl (by simp) cw3 (hbe _) ?_
             refine runk_exec zy29q35 ?_
             exact W.ret ⟨.inr rfl, by rfl, zy29q13⟩
end V
end Go.Proofs.YthhpcjoaogmhbaaGreat
end
section
namespace Go.Proofs.YthhpcjoaogmhbaaGreat
open Go.Shelf Go.RowKit Go.Lib
theorem slotInfo : ∃ i z, Tryz.prog.info? 45 = some i ∧ i.zero = some z ∧ i.size = 2 ∧ i.bytes = 32 ∧ z.cells.size = 2 := by
 obtain ⟨i, z, h1, h2, h3, -⟩ := V.tab_ok.zero 45 _ rfl
 obtain ⟨-, ⟨i', h4, h5⟩, -⟩ := V.tab_ok.ty 45 _ _ rfl
 obtain ⟨i2, h6, h7⟩ := V.tab_ok.bytes 45 _ rfl
 rw [h1] at h4 h6
 cases h4; cases h6
 exact ⟨i, z, h1, h2, h5, h7, by rw [h3]; rfl⟩
set_option maxHeartbeats 4000000 in
set_option maxRecDepth 100000 in
theorem grow_run (n : Nat) (h0 : 0 < n) (hn : n ≤ 1000000000000) (w : World) (i : TypeInfo) (z : Value) (hi : Tryz.prog.info? 45 = some i) (hz : i.zero = some z) (hs : i.size = 2) (hb : i.bytes = 32) :
 Calls Tryz.prog 113 #[.slice none 0 0, .int .i64 n] w fun e w' =>
  e = .returned (.slice (some ⟨w.heap.size, 0, none⟩) 0 (grownCap w n 0 45)) ∧
  w' = w.drew.alloc (.cells (#[] ++ Builtin.zeroCells z.cells n ++ Builtin.zeroCells z.cells (grownCap w n 0 45 - n)) 45) := by
 have h1 : ¬ ((n : Int) < 0) := by omega
 have h2 : wrap64 ((n : Int) - 0) = (n : Int) := by unfold wrap64; omega
 have h4 : (n : Int) > 0 := by omega
 have hold : (Builtin.firstCells i.size 0 (.slice none 0 0)).run Tryz.prog w.drew = .ok (([] : List Value).toArray) w.drew := run_firstCells_none w.drew i.size 0 0 0
 have hrz : ∀ ty, (Builtin.append_ #[37, 3] ty #[.slice none 0 0, .int .i64 (n : Int)]).run Tryz.prog w =
  .ok (.slice (some ⟨w.heap.size, 0, none⟩) n (grownCap w n 0 45)) (w.drew.alloc (.cells (#[] ++ Builtin.zeroCells z.cells n ++ Builtin.zeroCells z.cells (grownCap w n 0 45 - n)) 45)) := fun ty => by
  have h := Lib.run_append_grow_zeros w 37 3 ty 45 i z .i64 .i64 Tryz.underlying37 Tryz.underlying3 hi hz none 0 0 [] hold n (by omega) (by omega) (by omega) (by omega)
   (by rw [hb]; omega)
   (by rw [Nat.zero_add]; exact growslice_fits h0 (by rw [hb]; omega))
  rw [Nat.zero_add] at h
  exact h
 have hGn : n ≤ grownCap w n 0 45 := grownCap_ge w _ _ _
 obtain ⟨G, hG⟩ : ∃ G, G = grownCap w n 0 45 := ⟨_, rfl⟩
 rw [← hG] at hrz hGn ⊢
 clear hold hG
 go_enter Tryz.func113, Tryz.ntmps113
 go_wp2_with (at_builtin; refine Lib.wpList_append_run _ rfl _ _ _ _ rfl _ _ rfl rfl _ _ (hrz _) ?_)
 all_goals (go_ret; exact ⟨rfl, rfl⟩)
set_option maxHeartbeats 1000000 in
theorem grow_zero (w : World) :
 Calls Tryz.prog 113 #[.slice none 0 0, .int .i64 0] w fun e w' => e = .returned (.slice none 0 0) ∧ w' = w := by
 go_enter Tryz.func113, Tryz.ntmps113
 go_wp2
 all_goals (go_ret; exact ⟨rfl, rfl⟩)
namespace V
theorem grow_ok (n : Nat) (hn : n ≤ 1000000000000) (M : Mem) (id : Nat) (hid : M id = none) : CallE Tryz.prog 113 [.nil, .c (.int .i64 n)] M [] (.own id) (upd M id (some (.arr 45 2 []))) := by
 have hne : ∀ j, (M j).isSome = true → j ≠ id := fun j hj e => by subst e; rw [hid] at hj; cases hj
 have liv : ∀ j, (M j).isSome = true → (upd M id (some (.arr 45 2 [])) j).isSome = true := fun j hj => by rw [upd_ne _ _ (hne j hj)]; exact hj
 refine ⟨enters_of Tryz.func113 (by kernel_rfl) rfl, fun j hj => ?_, liv, fun hw i o ho j hj => ?_, ?_⟩
 ·obtain rfl : j = id := by simpa [A.ids] using hj
  rw [upd_same]; rfl
 ·unfold upd at ho
  split at ho
  ·cases ho; simp [O.ids] at hj
  ·exact liv j (hw i o ho j hj)
 ·intro w0 I0 B I w vals hm hv
  match vals, hv with
  | [v0, v1], ⟨h0, h1, _⟩ =>
    obtain rfl : v0 = .slice none 0 0 := h0
    have h1 : RC w I v1 (.int .i64 n) := h1
    obtain rfl := h1.toInt.1
    rcases Nat.eq_zero_or_pos n with rfl | hpos
    ·refine (grow_zero w).mono ?_
     rintro e w' ⟨rfl, rfl⟩
     exact ⟨_, _, I, rfl, hm.newNil hid true _ _, Ext.refl _ _, fun j hj _ => upd_ne _ _ (hne j hj), (upd_same ..).symm, none, 0, 0, rfl⟩
    ·obtain ⟨i, z, hi, hz, hs, hb, hzs⟩ := slotInfo
     refine (grow_run n hpos hn w i z hi hz hs hb).mono ?_
     rintro e w' ⟨rfl, rfl⟩
     have hE : Ext w w.drew I I := ⟨fun _ _ k => k, fun _ _ _ => rfl⟩
     have hmd := hm.call (Below.refl _ _).drew
     have hge : n ≤ grownCap w n 0 45 := grownCap_ge w _ _ _
     have hle : grownCap w n 0 45 ≤ maxLen := grownCap_le_maxLen w n 0 _ (by unfold maxLen; omega)
     generalize grownCap w n 0 45 = G at hge hle ⊢
     have hrow : (#[] ++ Builtin.zeroCells z.cells n ++ Builtin.zeroCells z.cells (G - n)).size = G * 2 := by
      simp only [Array.size_append, List.size_toArray, List.length_nil, size_zeroCells, hzs]
      omega
     have hnb : ∀ o, ¬ I w.heap.size o := fun o ho => absurd (hm.there _ _ ho) (Nat.lt_irrefl _)
     refine ⟨_, _, I, rfl, hmd.alloc hid (v := .slice (some ⟨w.heap.size, 0, none⟩) 0 G) ⟨[], ⟨rfl, .inr ⟨w.heap.size, G, _, by rw [upd_same]; rfl, Nat.zero_le _, heap_alloc_new w.drew _, Nat.zero_le _, hle, hrow, by simp⟩⟩, trivial, fun x hx => by simp at hx, fun b hb o => ?_⟩ (fun k hk => ?_) (fun j hj => by simp [O.ids] at hj),
      ?_, fun j hj _ => upd_ne _ _ (hne j hj), (upd_same ..).symm, _, 0, G, rfl⟩
     ·rw [upd_same] at hb
      obtain rfl : w.heap.size = b := by simpa [Value.ownBlock] using hb
      exact ⟨fun h => absurd h (hnb o), fun h => by simp at h⟩
     ·have hk : (upd B id (.slice (some ⟨w.heap.size, 0, none⟩) 0 G) id).ownBlock = some k := hk
      rw [upd_same] at hk
      have : w.heap.size = k := by simpa [Value.ownBlock] using hk
      exact this.symm
     ·exact ⟨fun _ _ k => k, fun b o ho => World.cell?_of_block (by
       have := hm.there b o ho
       show ((w.drew.heap.push _)[b]?) = w.heap[b]?
       rw [Array.getElem?_push_lt (by exact this)]
       exact (Array.getElem?_eq_getElem this).symm)⟩
end V
end Go.Proofs.YthhpcjoaogmhbaaGreat
end
section
namespace Go.Proofs.YthhpcjoaogmhbaaGreat
namespace V
open Go.RowKit
def tabE : Tab := { tab with eff := fun f => f == 37 || f == 113 }
namespace E
theorem tab_ok : tabE.Ok Tryz.prog := ⟨V.tab_ok.ty, V.tab_ok.zero, V.tab_ok.elem, V.tab_ok.off, V.tab_ok.bool, V.tab_ok.fields, V.tab_ok.bytes, V.tab_ok.nilk, V.tab_ok.int, V.tab_ok.map, V.tab_ok.str, V.tab_ok.one, V.tab_ok.seq⟩
theorem tabs : tabE.ty = tab.ty ∧ tabE.zero = tab.zero ∧ tabE.elem = tab.elem ∧ tabE.off = tab.off ∧ tabE.bool = tab.bool ∧ tabE.fields = tab.fields ∧ tabE.bytes = tab.bytes ∧ tabE.nilk = tab.nilk ∧ tabE.int = tab.int ∧ tabE.map = tab.map ∧ tabE.str = tab.str ∧ tabE.one = tab.one ∧ tabE.seq = tab.seq := ⟨rfl, rfl, rfl, rfl, rfl, rfl, rfl, rfl, rfl, rfl, rfl, rfl, rfl⟩
def cPart (l : List Slot) : List C := [.sl (l.map cSlot)]
theorem flat_take {α : Type} (ps : List (List α)) {k : Nat} {l : List α} (h : ps[k]? = some l) : (ps.take (k + 1)).flatten = (ps.take k).flatten ++ l := by
 rw [List.take_add_one, h]; simp
theorem flat_le {α : Type} (ps : List (List α)) (k : Nat) : (ps.take k).flatten.length ≤ ps.flatten.length := by
 have e : ps.flatten = (ps.take k).flatten ++ (ps.drop k).flatten := by rw [← List.flatten_append, List.take_append_drop]
 rw [e, List.length_append]
 exact Nat.le_add_right _ _
set_option maxHeartbeats 2000000 in
theorem concat_ok (ps : List (List Slot)) (hps : ps.length ≤ 1000000000000) (hn : ps.flatten.length ≤ 1000000000000) (m : Mem) : COk Tryz.prog 95 [.c (.sl (ps.map cPart))] m (.c (.sl (ps.flatten.map cSlot))) := by
 refine (ok_pure tab_ok Tryz.func95 (by kernel_rfl) rfl rfl (by rfl) (by rfl) (by rfl) (fun R hkeep => ?_) m)
 repeat (first | refine W.seq ?_ | refine W.block ?_ | refine W.skip ?_ | refine W.exit ?_ | refine W.g ?_ zy29q29)
 refine W.loop (ι := Nat) (fun k => ⟨upd (upd (upd (upd (upd (fun _ => .top) 0 (.c (.sl (ps.map cPart)))) 3 (.c (.int .i64 (ps.take k).flatten.length))) 9 (.c (.sl (ps.map cPart)))) 10 (.c (.int .i64 ps.length))) 11 (.c (.int .i64 k)), Mem.nil⟩)
  (fun k => k ≤ ps.length) (fun k => ps.length - k) 0 ?start (Nat.zero_le _) ?round
 case start =>
  exact le_D (kept_not hkeep)
 case round =>
  intro k hk
  repeat (first | refine W.seq ?_ | refine W.block ?_ | refine W.skip ?_ | refine W.exit ?_ | refine W.g ?_ zy29q29)
  refine W.cond rfl ?_ ?_
  ·intro hlt
   simp only [decide_eq_true_eq, Int.ofNat_lt] at hlt
   obtain ⟨l, hl⟩ : ∃ l, ps[k]? = some l := ⟨_, List.getElem?_eq_getElem hlt⟩
   have hle := flat_le ps (k + 1)
   rw [flat_take ps hl, List.length_append] at hle
   have hw : IntKind.i64.wrap (((ps.take k).flatten.length : Int) + (l.length : Int)) = ((ps.take (k + 1)).flatten.length : Int) := by
    rw [flat_take ps hl, List.length_append, ← Int.natCast_add, wrap_nat (by omega)]
   have hneg : ¬ (((ps.take (k + 1)).flatten.length : Int) < 0) := by omega
   repeat (first | refine W.seq ?_ | refine W.block ?_ | refine W.skip ?_ | refine W.exit ?_ | refine W.g ?_ (by simp only [exb, Nat.reduceAdd, Nat.reduceLeDiff, Nat.reduceEqDiff, Nat.reduceMul, Int.reduceToNat, reduceIte, Int.reduceLE, Int.reduceNeg, tabs, V.tabs, at_map hl, cPart, hw]; rfl))
   refine W.cond rfl (fun h => absurd (by simpa using h) hneg) (fun _ => ?_)
   repeat (first | refine W.seq ?_ | refine W.block ?_ | refine W.skip ?_ | refine W.exit ?_ | refine W.g ?_ zy29q29)
   refine ⟨k + 1, hlt, by omega, ?_⟩
   exact le_Sk (kept_not hkeep)
  ·intro hge
   simp only [decide_eq_false_iff_not, Int.ofNat_lt] at hge
   obtain rfl : k = ps.length := by omega
   rw [List.take_length]
   repeat (first | refine W.seq ?_ | refine W.block ?_ | refine W.skip ?_ | refine W.exit ?_ | refine W.g ?_ zy29q29)
   refine W.regionK tab_ok 0 (by decide) ?_
   refine runk_split 1 zy29q29 ?_
   refine runk_call0 rfl rfl rfl rfl rfl rfl (by simp) cw2 (grow_ok _ hn _ 24 rfl) ?_
   refine runk_exec zy29q29 ?_
   repeat (first | refine W.seq ?_ | refine W.block ?_ | refine W.skip ?_ | refine W.exit ?_ | refine W.g ?_ zy29q29)
   refine W.loop (ι := Nat) (fun k => ⟨upd (upd (upd (upd (fun _ => .top) 6 (.own 24)) 25 (.c (.sl (ps.map cPart)))) 26 (.c (.int .i64 ps.length))) 27 (.c (.int .i64 k)), upd Mem.nil 24 (some (.arr 45 2 ((ps.take k).flatten.map cSlot)))⟩)
    (fun k => k ≤ ps.length) (fun k => ps.length - k) 0 ?start2 (Nat.zero_le _) ?round2
   case start2 =>
    exact le_D (kept_not hkeep)
   case round2 =>
    intro k hk
    repeat (first | refine W.seq ?_ | refine W.block ?_ | refine W.skip ?_ | refine W.exit ?_ | refine W.g ?_ zy29q29)
    refine W.cond rfl ?_ ?_
    ·intro hlt
     simp only [decide_eq_true_eq, Int.ofNat_lt] at hlt
     obtain ⟨l, hl⟩ : ∃ l, ps[k]? = some l := ⟨_, List.getElem?_eq_getElem hlt⟩
     have hle := flat_le ps (k + 1)
     have hft := flat_take ps hl
     rw [hft, List.length_append] at hle
     repeat (first | refine W.seq ?_ | refine W.block ?_ | refine W.skip ?_ | refine W.exit ?_ | refine W.g ?_ (by simp only [exb, Nat.reduceAdd, Nat.reduceLeDiff, Nat.reduceEqDiff, Nat.reduceMul, Int.reduceToNat, reduceIte, Int.reduceLE, Int.reduceNeg, tabs, V.tabs, at_map hl, cPart]; rfl))
     refine W.regionK tab_ok 0 (by decide) ?_
     refine runk_split 2 zy29q29 ?_
     refine runk_append tab_ok 24 rfl rfl rfl rfl rfl rfl rfl rfl (by first | rfl | (simp only [exb, Nat.reduceAdd, Nat.reduceLeDiff, Nat.reduceEqDiff, Nat.reduceMul, Int.reduceToNat, reduceIte, Int.reduceLE, Int.reduceNeg, tabs, V.tabs]; rfl)) rfl rfl rfl rfl (nokeep hkeep) (by intro z hz; obtain ⟨s, -, rfl⟩ := List.mem_map.1 hz; rfl) (by simp only [List.length_map]; omega) (by decide) ?_
     refine runk_exec zy29q29 ?_
     repeat (first | refine W.seq ?_ | refine W.block ?_ | refine W.skip ?_ | refine W.exit ?_ | refine W.g ?_ zy29q29)
     refine ⟨k + 1, hlt, by omega, ?_⟩
     rw [hft, List.map_append]
     exact le_Sk (kept_not hkeep)
    ·intro hge
     simp only [decide_eq_false_iff_not, Int.ofNat_lt] at hge
     obtain rfl : k = ps.length := by omega
     rw [List.take_length]
     repeat (first | refine W.seq ?_ | refine W.block ?_ | refine W.skip ?_ | refine W.exit ?_ | refine W.g ?_ zy29q29)
     exact W.ret ⟨.inr rfl, by rfl, (by simp only [Tryz.f95, resA, resOne, toT, fin, exb, Nat.reduceAdd, Nat.reduceLeDiff, Nat.reduceEqDiff, Nat.reduceMul, Int.reduceToNat, reduceIte, Int.reduceLE, Int.reduceNeg, tabs, V.tabs])⟩
end E
end V
end Go.Proofs.YthhpcjoaogmhbaaGreat
end
section
namespace Go.Proofs.YthhpcjoaogmhbaaGreat
namespace V
open Go.RowKit
mutual
def SmallE (N : Nat) : Expr → Prop
 | ⟨_, _, _, kids⟩ => kids.length ≤ N ∧ SmallEs N kids
def SmallEs (N : Nat) : List Expr → Prop
 | [] => True
 | x :: l => SmallE N x ∧ SmallEs N l
end
mutual
def SmallS (N : Nat) : Stmt → Prop
 | ⟨_, _, _, _, es, th, el⟩ => es.length ≤ N ∧ SmallEs N es ∧ th.length ≤ N ∧ SmallSs N th ∧ el.length ≤ N ∧ SmallSs N el
def SmallSs (N : Nat) : List Stmt → Prop
 | [] => True
 | x :: l => SmallS N x ∧ SmallSs N l
end
theorem SmallSs.mem {N : Nat} : ∀ {l : List Stmt} {x : Stmt}, SmallSs N l → x ∈ l → SmallS N x
 | y :: l, x, h, hx => by
   simp only [SmallSs] at h
   rcases List.mem_cons.1 hx with rfl | hx
   ·exact h.1
   ·exact SmallSs.mem h.2 hx
theorem SmallEs.mem {N : Nat} : ∀ {l : List Expr} {x : Expr}, SmallEs N l → x ∈ l → SmallE N x
 | y :: l, x, h, hx => by
   simp only [SmallEs] at h
   rcases List.mem_cons.1 hx with rfl | hx
   ·exact h.1
   ·exact SmallEs.mem h.2 hx
theorem set_self {α : Type} {l : List α} {k : Nat} {x : α} (h : l[k]? = some x) : l.set k x = l := by
 obtain ⟨h1, h2⟩ := List.getElem?_eq_some_iff.1 h
 rw [← h2]
 exact List.set_getElem_self h1
theorem exprInfo : ∃ i z, Tryz.prog.info? 30 = some i ∧ i.zero = some z ∧ i.size = 4 ∧ i.bytes = 56 ∧ z.cells.size = 4 := by
 obtain ⟨i, z, h1, h2, h3, -⟩ := V.tab_ok.zero 30 _ rfl
 obtain ⟨-, ⟨i', h4, h5⟩, -⟩ := V.tab_ok.ty 30 _ _ rfl
 obtain ⟨i2, h6, h7⟩ := V.tab_ok.bytes 30 _ rfl
 rw [h1] at h4 h6
 cases h4; cases h6
 exact ⟨i, z, h1, h2, h5, h7, by rw [h3]; rfl⟩
theorem stmtInfo : ∃ i z, Tryz.prog.info? 32 = some i ∧ i.zero = some z ∧ i.size = 7 ∧ i.bytes = 120 ∧ z.cells.size = 7 := by
 obtain ⟨i, z, h1, h2, h3, -⟩ := V.tab_ok.zero 32 _ rfl
 obtain ⟨-, ⟨i', h4, h5⟩, -⟩ := V.tab_ok.ty 32 _ _ rfl
 obtain ⟨i2, h6, h7⟩ := V.tab_ok.bytes 32 _ rfl
 rw [h1] at h4 h6
 cases h4; cases h6
 exact ⟨i, z, h1, h2, h5, h7, by rw [h3]; rfl⟩
def tabF : Tab := { tab with eff := fun f => f == 120 || f == 114 }
namespace F
theorem tab_ok : tabF.Ok Tryz.prog := ⟨V.tab_ok.ty, V.tab_ok.zero, V.tab_ok.elem, V.tab_ok.off, V.tab_ok.bool, V.tab_ok.fields, V.tab_ok.bytes, V.tab_ok.nilk, V.tab_ok.int, V.tab_ok.map, V.tab_ok.str, V.tab_ok.one, V.tab_ok.seq⟩
theorem tabs : tabF.ty = tab.ty ∧ tabF.zero = tab.zero ∧ tabF.elem = tab.elem ∧ tabF.off = tab.off ∧ tabF.bool = tab.bool ∧ tabF.fields = tab.fields ∧ tabF.bytes = tab.bytes ∧ tabF.nilk = tab.nilk ∧ tabF.int = tab.int ∧ tabF.map = tab.map ∧ tabF.str = tab.str ∧ tabF.one = tab.one ∧ tabF.seq = tab.seq := ⟨rfl, rfl, rfl, rfl, rfl, rfl, rfl, rfl, rfl, rfl, rfl, rfl, rfl⟩
theorem cloneE (l : List Expr) (hl : l.length ≤ 1048576) (M : Mem) (id : Nat) (hid : M id = none) : CallE Tryz.prog 120 [.c (.sl (l.map cExpr))] M [] (.own id) (upd M id (some (.mrow 30 4 (l.map cExpr)))) :=
 clone_mut Tryz.laysClone120 exprInfo (by decide) (enters_of Tryz.func120 (by kernel_rfl) rfl) (l.map cExpr) (fun x hx => by obtain ⟨y, -, rfl⟩ := List.mem_map.1 hx; cases y; rfl) (by rw [List.length_map]; omega) M id hid
set_option maxHeartbeats 2000000 in
theorem exprs_ok : ∀ (d : Nat) (l : List Expr), dExprs l ≤ d → l.length ≤ 1048576 → SmallEs 1048576 l → ∀ m, COk Tryz.prog 115 [.c (.sl (l.map cExpr))] m (.c (.sl (l.map cExpr))) := by
 intro d
 induction d using Nat.strongRecOn with
 | ind d ih =>
 intro l hd hlen hS m
 refine (ok_pure tab_ok Tryz.func115 (by kernel_rfl) rfl rfl (by rfl) (by rfl) (by rfl) (fun R hkeep => ?_) m)
 repeat (first | refine W.seq ?_ | refine W.block ?_ | refine W.skip ?_ | refine W.exit ?_ | refine W.g ?_ zy29q29)
 refine W.regionK tab_ok 0 (by decide) ?_
 refine runk_split 1 zy29q29 ?_
 refine runk_call0 rfl rfl rfl rfl rfl rfl (by simp) cw1 (cloneE l hlen _ 6 rfl) ?_
 refine runk_exec zy29q29 ?_
 repeat (first | refine W.seq ?_ | refine W.block ?_ | refine W.skip ?_ | refine W.exit ?_ | refine W.g ?_ zy29q29)
 refine W.loop (ι := Nat) (fun k => ⟨upd (upd (upd (upd (fun _ => .top) 0 (.own 6)) 7 (.own 6)) 8 (.c (.int .i64 l.length))) 9 (.c (.int .i64 k)), upd Mem.nil 6 (some (.mrow 30 4 (l.map cExpr)))⟩)
  (fun k => k ≤ l.length) (fun k => l.length - k) 0 ?start (Nat.zero_le _) ?round
 case start =>
  exact le_D (kept_not hkeep)
 case round =>
  intro k hk
  repeat (first | refine W.seq ?_ | refine W.block ?_ | refine W.skip ?_ | refine W.exit ?_ | refine W.g ?_ zy29q29)
  refine W.cond rfl ?_ ?_
  ·intro hlt
   simp only [decide_eq_true_eq, Int.ofNat_lt] at hlt
   obtain ⟨x, hx⟩ : ∃ x, l[k]? = some x := ⟨_, List.getElem?_eq_getElem hlt⟩
   have hxm := List.mem_of_getElem? hx
   obtain ⟨kd, nn, nm, kids⟩ := x
   have hsx := hS.mem hxm
   simp only [SmallE] at hsx
   have hdx : dExpr ⟨kd, nn, nm, kids⟩ ≤ dExprs l := dExprs_mem hxm
   simp only [dExpr] at hdx
   repeat (first | refine W.seq ?_ | refine W.block ?_ | refine W.skip ?_ | refine W.exit ?_ | refine W.g ?_ zy29q7)
   refine W.regionK tab_ok 0 (by decide) ?_
   refine runk_split 4 zy29q7 ?_
   refine runk_call rfl rfl rfl rfl rfl (by simp) cw1 (ih (dExprs kids) (by omega) kids (Nat.le_refl _) hsx.1 hsx.2 _) ?_
   refine runk_exec zy29q7 ?_
   repeat (first | refine W.seq ?_ | refine W.block ?_ | refine W.skip ?_ | refine W.exit ?_ | refine W.g ?_ zy29q29)
   refine ⟨k + 1, hlt, by omega, ?_⟩
   have hset : (l.map cExpr).set k [.int .i64 kd, .int .i64 nn, .str nm, .sl (kids.map cExpr)] = l.map cExpr := set_self (by rw [at_map hx]; simp only [cExpr, cExprs_map])
   refine le_L ?sle ?mle (kept_not hkeep)
   case mle => repeat (first | exact mle_nil _ | exact mle_refl _ | refine mle_upd ?_ zy29q39)
   case sle => repeat (first | exact sle_top _ | exact sle_refl _ | refine sle_upd ?_ zy29q32)
  ·intro hge
   simp only [decide_eq_false_iff_not, Int.ofNat_lt] at hge
   obtain rfl : k = l.length := by omega
   refine W.freeze 0 6 rfl rfl (nokeep hkeep) ?_
   repeat (first | refine W.seq ?_ | refine W.block ?_ | refine W.skip ?_ | refine W.exit ?_ | refine W.g ?_ zy29q29)
   exact W.ret ⟨.inr rfl, by rfl, (by simp only [Tryz.f115, resA, resOne, toT, fin, exb, Nat.reduceAdd, Nat.reduceLeDiff, Nat.reduceEqDiff, Nat.reduceMul, Int.reduceToNat, reduceIte, Int.reduceLE, Int.reduceNeg, tabs, V.tabs])⟩
theorem cloneS (l : List Stmt) (hl : l.length ≤ 1048576) (M : Mem) (id : Nat) (hid : M id = none) : CallE Tryz.prog 114 [.c (.sl (l.map cStmt))] M [] (.own id) (upd M id (some (.mrow 32 7 (l.map cStmt)))) :=
 clone_mut Tryz.laysClone114 stmtInfo (by decide) (enters_of Tryz.func114 (by kernel_rfl) rfl) (l.map cStmt) (fun x hx => by obtain ⟨y, -, rfl⟩ := List.mem_map.1 hx; cases y; rfl) (by rw [List.length_map]; omega) M id hid
set_option maxHeartbeats 4000000 in
theorem stmts_ok : ∀ (d : Nat) (l : List Stmt), dStmts l ≤ d → l.length ≤ 1048576 → SmallSs 1048576 l → ∀ m, COk Tryz.prog 96 [.c (.sl (l.map cStmt))] m (.c (.sl (l.map cStmt))) := by
 intro d
 induction d using Nat.strongRecOn with
 | ind d ih =>
 intro l hd hlen hS m
 refine (ok_pure tab_ok Tryz.func96 (by kernel_rfl) rfl rfl (by rfl) (by rfl) (by rfl) (fun R hkeep => ?_) m)
 repeat (first | refine W.seq ?_ | refine W.block ?_ | refine W.skip ?_ | refine W.exit ?_ | refine W.g ?_ zy29q29)
 refine W.regionK tab_ok 0 (by decide) ?_
 refine runk_split 1 zy29q29 ?_
 refine runk_call0 rfl rfl rfl rfl rfl rfl (by simp) cw1 (cloneS l hlen _ 6 rfl) ?_
 refine runk_exec zy29q29 ?_
 repeat (first | refine W.seq ?_ | refine W.block ?_ | refine W.skip ?_ | refine W.exit ?_ | refine W.g ?_ zy29q29)
 refine W.loop (ι := Nat) (fun k => ⟨upd (upd (upd (upd (fun _ => .top) 0 (.own 6)) 7 (.own 6)) 8 (.c (.int .i64 l.length))) 9 (.c (.int .i64 k)), upd Mem.nil 6 (some (.mrow 32 7 (l.map cStmt)))⟩)
  (fun k => k ≤ l.length) (fun k => l.length - k) 0 ?start (Nat.zero_le _) ?round
 case start =>
  exact le_D (kept_not hkeep)
 case round =>
  intro k hk
  repeat (first | refine W.seq ?_ | refine W.block ?_ | refine W.skip ?_ | refine W.exit ?_ | refine W.g ?_ zy29q29)
  refine W.cond rfl ?_ ?_
  ·intro hlt
   simp only [decide_eq_true_eq, Int.ofNat_lt] at hlt
   obtain ⟨x, hx⟩ : ∃ x, l[k]? = some x := ⟨_, List.getElem?_eq_getElem hlt⟩
   have hxm := List.mem_of_getElem? hx
   obtain ⟨kd, nn, ty, nm, es, th, el⟩ := x
   have hsx := hS.mem hxm
   simp only [SmallS] at hsx
   obtain ⟨s1, s2, s3, s4, s5, s6⟩ := hsx
   have hdx : dStmt ⟨kd, nn, ty, nm, es, th, el⟩ ≤ dStmts l := dStmts_mem hxm
   simp only [dStmt] at hdx
   repeat (first | refine W.seq ?_ | refine W.block ?_ | refine W.skip ?_ | refine W.exit ?_ | refine W.g ?_ zy29q5)
   refine W.regionDK tab_ok 0 follows_mixed (by kernel_rfl) (by decide) ?_
   refine runk_split 8 zy29q5 ?_
   refine runk_call rfl rfl rfl rfl rfl (by simp) cw1 (exprs_ok (dExprs es) es (Nat.le_refl _) s1 s2 _) ?_
   refine runk_split 2 zy29q5 ?_
   refine runk_call rfl rfl rfl rfl rfl (by simp) cw1 (ih (dStmts th) (by omega) th (Nat.le_refl _) s3 s4 _) ?_
   refine runk_split 2 zy29q5 ?_
   refine runk_call rfl rfl rfl rfl rfl (by simp) cw1 (ih (dStmts el) (by omega) el (Nat.le_refl _) s5 s6 _) ?_
   have hset : (l.map cStmt).set k [.int .i64 kd, .int .i64 nn, .str ty, .str nm, .sl (es.map cExpr), .sl (th.map cStmt), .sl (el.map cStmt)] = l.map cStmt := set_self (by rw [at_map hx]; simp only [cStmt, cExprs_map, cStmts_map])
   refine runk_exec (by simp only [exb, Nat.reduceAdd, Nat.reduceLeDiff, Nat.reduceEqDiff, Nat.reduceMul, Int.reduceToNat, reduceIte, Int.reduceLE, Int.reduceNeg, tabs, V.tabs, hlt, at_map hx, cStmt, cExprs_map, cStmts_map, hset]; rfl) ?_
   repeat (first | refine W.seq ?_ | refine W.block ?_ | refine W.skip ?_ | refine W.exit ?_ | refine W.g ?_ zy29q29)
   refine ⟨k + 1, hlt, by omega, ?_⟩
   refine le_L ?sle ?mle (kept_not hkeep)
   case mle => repeat (first | exact mle_nil _ | exact mle_refl _ | refine mle_upd ?_ zy29q39)
   case sle => repeat (first | exact sle_top _ | exact sle_refl _ | refine sle_upd ?_ zy29q32)
  ·intro hge
   simp only [decide_eq_false_iff_not, Int.ofNat_lt] at hge
   obtain rfl : k = l.length := by omega
   refine W.freeze 0 6 rfl rfl (nokeep hkeep) ?_
   repeat (first | refine W.seq ?_ | refine W.block ?_ | refine W.skip ?_ | refine W.exit ?_ | refine W.g ?_ zy29q29)
   exact W.ret ⟨.inr rfl, by rfl, (by simp only [Tryz.f96, resA, resOne, toT, fin, exb, Nat.reduceAdd, Nat.reduceLeDiff, Nat.reduceEqDiff, Nat.reduceMul, Int.reduceToNat, reduceIte, Int.reduceLE, Int.reduceNeg, tabs, V.tabs])⟩
end F
end V
end Go.Proofs.YthhpcjoaogmhbaaGreat
end
section
namespace Go.Proofs.YthhpcjoaogmhbaaGreat
namespace V
open Go.RowKit
section
variable {P : Go.Program}
theorem W.nilBox {R : Ref} {n : Nat} {ds : List Deferred} {st : St} {c : Code} {K : Exit → St → Prop} (j k : Nat) {tyb : TypeId} {cells : List A} (hj : st.m j = some (.box tyb cells)) (hk : cells[k]? = some .nil)
 (h : W P R n ds ⟨st.s, upd st.m j (some (.box tyb (cells.set k (.c (.sl [])))))⟩ c K) : W P R n ds st c K := by
 intro a w hr
 refine h a w ?_
 obtain ⟨⟨B, I, hm, hx0, hkp, hs⟩, h2, h3, hnn, h4, h5⟩ := hr
 obtain ⟨b, vs, e1, e2, e3, e4⟩ := hm.objs j _ hj
 have liv : ∀ i, (st.m i).isSome = true → (upd st.m j (some (.box tyb (cells.set k (.c (.sl []))))) i).isSome = true := fun i hi => by
  unfold upd; split
  ·rfl
  ·exact hi
 have hm2 := hm.turn (o' := .box tyb (cells.set k (.c (.sl [])))) hj ⟨0, e1⟩ (fun q hq => by obtain ⟨off, hq⟩ := hq; rw [e1] at hq; cases hq; rfl) e4 rfl rfl rfl rfl (fun _ _ => rfl) (fun i hi => by
  obtain ⟨a', ha', hi'⟩ := List.mem_flatMap.1 hi
  rcases List.mem_or_eq_of_mem_set ha' with ha' | rfl
  ·exact hm.live j _ hj i (List.mem_flatMap.2 ⟨a', ha', hi'⟩)
  ·simp [A.ids] at hi') (fun _ => by
  refine ⟨b, vs, e1, e2, ?_, e4⟩
  have hl := e3.length
  refine RVs.of (by rw [List.length_set]; exact hl) fun q a' v' ha' hv' => ?_
  rw [List.getElem?_set] at ha'
  split at ha'
  ·rename_i hq
   subst hq
   split at ha'
   ·cases ha'
    obtain ⟨v2, q1, q2, q3⟩ := e3.at k _ hk
    rw [hv'] at q1; cases q1
    have hv : v' = .slice none 0 0 := q2
    subst hv
    exact ⟨RC.sl (e := 0) (fun _ _ => undef) rfl (Nat.le_refl _) (Nat.zero_le _) (fun x hx => by simp at hx) (fun i x hx => by simp at hx) (fun i j x c hx _ => by simp at hx), q3⟩
   ·cases ha'
  ·obtain ⟨v2, q1, q2, q3⟩ := e3.at q _ ha'
   rw [hv'] at q1; cases q1
   exact ⟨q2, q3⟩)
 exact ⟨⟨B, I, hm2.1, hx0, hkp, fun t => hs t⟩, fun t i hi => liv i (h2 t i hi), h3, hnn, h4, fun i hi => liv i (h5 i hi)⟩
end
def slotsAt (cs : List Class) (x : Nat × Nat) : List Slot := match cs[x.2]? with | some k => k.fields | none => []
def slotsUp (cs : List Class) (l : List (Nat × Nat)) : List Slot := l.reverse.flatMap (slotsAt cs)
theorem slotsUp_len {cs : List Class} (h : SmallC cs) : ∀ l : List (Nat × Nat), (slotsUp cs l).length ≤ l.length * 1048576
 | [] => by simp [slotsUp]
 | x :: l => by
   have ih := slotsUp_len h l
   unfold slotsUp at *
   rw [List.reverse_cons, List.flatMap_append, List.length_append, List.length_cons]
   have : ([x].flatMap (slotsAt cs)).length ≤ 1048576 := by
    simp only [List.flatMap_cons, List.flatMap_nil, List.append_nil]
    unfold slotsAt
    split
    ·rename_i k hk; exact (h k (List.mem_of_getElem? hk)).1
    ·simp
   rw [Nat.add_mul]
   omega
def fieldsR (E : Int) (cs : List Class) (n : ByteArray) : List Slot := if E = 0 then slotsUp cs (upX cs (cs.length + 1) 0 n) else []
def memF (cs : List Class) (mn : C) (l : List Slot) : Mem :=
 upd (upd Mem.nil 2 (some (.box 25 [.c (.sl (cs.map cClass)), .c mn]))) 4 (some (.box 37 [.c (.sl (l.map cSlot))]))
def slotF : Nat → A := upd (upd (fun _ => .top) 2 (.ptr 2 0)) 4 (.ptr 4 0)
namespace E
set_option maxRecDepth 100000 in
set_option maxHeartbeats 1000000 in
theorem fieldsP_ok (p : Program) (E : Int) (name : ByteArray) (hS : SmallC p.classes) (hlen : p.classes.length ≤ 1000000000) (h16 : E = 0 → p.classes.length ≤ 16) (hchk : ∀ m, COk Tryz.prog 6 [.agg (cProg p)] m (.c (.int .i64 E))) (m : Mem) :
 COk Tryz.prog 72 [.agg (cProg p), .c (.str name)] m (.c (.sl ((fieldsR E p.classes name).map cSlot))) := by
 obtain ⟨cs, mn'⟩ := p
 dsimp only at hS hlen h16 hchk ⊢
 generalize hmn : C.sl (cStmts mn') = mn
 have hpr : cProg ⟨cs, mn'⟩ = [.sl (cs.map cClass), mn] := by rw [← hmn]; rfl
 rw [hpr] at hchk ⊢
 refine (ok_pureM tab_ok Tryz.func72 (by kernel_rfl) rfl rfl (by rfl) (by rfl) (by rfl) (fun R hkeep => ?_) m)
 repeat (first | refine W.seq ?_ | refine W.block ?_ | refine W.skip ?_ | refine W.exit ?_ | refine W.g ?_ zy29q29)
 refine W.regionK tab_ok 0 (by decide) ?_
 refine runk_split 1 zy29q29 ?_
 refine runk_call rfl rfl rfl rfl rfl (by simp) cw1 (hchk _) ?_
 refine runk_exec zy29q29 ?_
 refine W.cond rfl ?_ ?_
 ·intro h
  have he : E ≠ 0 := by simpa using h
  repeat (first | refine W.seq ?_ | refine W.block ?_ | refine W.skip ?_ | refine W.exit ?_ | refine W.g ?_ zy29q29)
  refine W.ret ⟨.inr rfl, .inl ⟨rfl, ?_⟩⟩
  simp only [Tryz.f72, resA, resOne, toT, fin, exb, Nat.reduceAdd, Nat.reduceLeDiff, Nat.reduceEqDiff, Nat.reduceMul, Int.reduceToNat, reduceIte, Int.reduceLE, Int.reduceNeg, tabs, V.tabs]
  simp [fieldsR, he]
 intro h
 have he : E = 0 := by simpa using h
 subst he
 have h16 := h16 rfl
 repeat (first | refine W.seq ?_ | refine W.block ?_ | refine W.skip ?_ | refine W.exit ?_ | refine W.g ?_ zy29q29)
 refine W.nilBox 4 0 rfl rfl ?_
 repeat (first | refine W.seq ?_ | refine W.block ?_ | refine W.skip ?_ | refine W.exit ?_ | refine W.g ?_ zy29q29)
 refine W.regionK tab_ok 0 (by decide) ?_
 refine runk_split 2 zy29q29 ?_
 refine runk_call0 rfl rfl rfl rfl rfl rfl (by simp) cw2 (up_ok (cs.map cClass) mn name _ 1000 1001 rfl rfl (by decide)) ?_
 refine runk_exec zy29q29 ?_
 repeat (first | refine W.seq ?_ | refine W.block ?_ | refine W.skip ?_ | refine W.exit ?_ | refine W.g ?_ zy29q29)
 have hG : ∀ l, GoodM R.keep slotF 1000 1001 1002 1003 (memF cs mn l) := fun l => by
  refine ⟨?_, rfl, rfl, rfl, rfl, ?_, kept_not hkeep⟩
  ·unfold memF
   show MWf _ _
   (repeat (first | exact mwf_nil _ | refine mwf_upd ?_ zy29q47))
  ·show SWf _ _
   unfold memF slotF
   (repeat (first | exact swf_top _ | refine swf_upd ?_ (by simp [A.ids, upd_app])))
 have hul := upX_len cs (cs.length + 1) 0 name
 refine W.rangeUp cs name mn 1000 1001 1002 1003 slotF (fun k => memF cs mn (slotsUp cs ((upX cs (cs.length + 1) 0 name).take k))) (fun _ => True) (by omega) rfl rfl rfl (by decide) rfl rfl (by decide) trivial rfl ?sle ?sn ?m0 (fun k _ => hG _) ?round ?done
 case sle =>
  unfold slotF
  (repeat (first | exact sle_top _ | exact sle_refl _ | refine sle_upd ?_ zy29q44))
 case sn =>
  unfold slotF
  (repeat (first | exact sn_top | refine sn_upd ?_ (by decide)))
 case m0 =>
  refine mle_some ?_
  unfold memF
  (repeat (first | exact mle_nil _ | exact mle_refl _ | refine mle_upd ?_ (by first | rfl | (simp only [upd_app, killM_app, Nat.reduceEqDiff, reduceIte, List.take_zero, slotsUp, List.reverse_nil, List.flatMap_nil, List.map_nil, List.set_cons_zero]; done))))
 case round =>
  intro R' l hk' k j kc x1 x2 xL _ hitem hkc
  have hacc : (slotsUp cs ((upX cs (cs.length + 1) 0 name).take k)).length ≤ 17 * 1048576 := by
   have h1 := slotsUp_len hS ((upX cs (cs.length + 1) 0 name).take k)
   have h2 := List.length_take_le' k (upX cs (cs.length + 1) 0 name)
   have h3 : ((upX cs (cs.length + 1) 0 name).take k).length ≤ 17 := Nat.le_trans h2 (Nat.le_trans hul (Nat.succ_le_succ h16))
   exact Nat.le_trans h1 (Nat.mul_le_mul_right _ h3)
  have hfl := (hS kc (List.mem_of_getElem? hkc)).1
  have hF : [kc.fields, slotsUp cs ((upX cs (cs.length + 1) 0 name).take k)].flatten = slotsUp cs ((upX cs (cs.length + 1) 0 name).take (k + 1)) := by
   rw [List.take_add_one, hitem]
   simp [slotsUp, slotsAt, hkc]
  generalize slotsUp cs ((upX cs (cs.length + 1) 0 name).take k) = acc at hacc hF ⊢
  repeat (first | refine WI.seq ?_ | refine WI.block ?_ | refine WI.skip ?_ | refine WI.exit ?_ | refine WI.region tab_ok 0 (by decide) (by kernel_rfl) (exec_run zy29q14) ?_)
  refine ⟨rfl, fun xL' => ?_⟩
  repeat (first | refine WI.seq ?_ | refine WI.block ?_ | refine WI.skip ?_ | refine WI.exit ?_ | refine WI.region tab_ok 0 (by decide) (by kernel_rfl) (exec_run zy29q14) ?_)
  refine WI.regionK tab_ok 0 (by decide) (by kernel_rfl) ?_
  refine runk_split 4 zy29q14 ?_
  refine runk_call rfl rfl rfl rfl rfl (by simp) cw1 (concat_ok [kc.fields, acc] (by simp) (by simp only [List.flatten_cons, List.flatten_nil, List.append_nil, List.length_append]; omega) _) ?_
  rw [hF]
  refine runk_exec zy29q18 ?_
  repeat (first | refine WI.seq ?_ | refine WI.block ?_ | refine WI.skip ?_ | refine WI.exit ?_ | refine WI.region tab_ok 0 (by decide) (by kernel_rfl) (exec_run zy29q18) ?_)
  refine ⟨trivial, fun j => j, Le.toT ?_⟩
  simp only [fullM, memF]
  refine le_mk ?sle ?mle ?swf ?mwf (fun j hj => fullM_keep (hG _) hj) (by rfl)
  case swf => repeat (first | exact swf_top _ | refine swf_upd ?_ (by simp [A.ids, upd_app, fullM, memF]))
  case mwf => repeat (first | exact mwf_nil _ | refine mwf_upd ?_ (by simp [A.ids, O.ids, upd_app, fullM, memF]))
  case mle => repeat (first | exact mle_nil _ | exact mle_refl _ | refine mle_upd ?_ (by first | rfl | (simp only [upd_app, killM_app, O.kill, A.kill, Nat.reduceEqDiff, reduceIte, Option.map_some, Option.map_none, List.map_cons, List.map_nil, fullM, memF]; done)))
  case sle => repeat (first | exact sle_top _ | exact sle_refl _ | refine sle_upd ?_ (by first | rfl | (simp only [upd_app, killS_app, A.kill, entry_zero, entry_succ, Nat.reduceEqDiff, reduceIte, fullM, memF]; done)))
 case done =>
  intro _ b
  rw [List.take_length]
  repeat (first | refine W.seq ?_ | refine W.block ?_ | refine W.skip ?_ | refine W.exit ?_ | refine W.g ?_ (by simp only [exb, Nat.reduceAdd, Nat.reduceLeDiff, Nat.reduceEqDiff, Nat.reduceMul, Int.reduceToNat, reduceIte, Int.reduceLE, Int.reduceNeg, tabs, V.tabs, doneS, doneM, DID, memF, slotF]; rfl))
  refine W.ret ⟨.inr rfl, .inr ⟨b, 1002, rfl, rfl, rfl, ?_⟩⟩
  simp only [Tryz.f72, resA, resOne, toT, fin, doneS, doneM, DID, exb, Nat.reduceAdd, Nat.reduceLeDiff, Nat.reduceEqDiff, Nat.reduceMul, Int.reduceToNat, reduceIte, Int.reduceLE, Int.reduceNeg, tabs, V.tabs, memF]
  simp [fieldsR]
end E
end V
end Go.Proofs.YthhpcjoaogmhbaaGreat
end
section
namespace Go.Proofs.YthhpcjoaogmhbaaGreat
namespace V
open Go.RowKit
theorem clonePar (l : List Slot) (hl : l.length ≤ 1048576) (m : Mem) : COk Tryz.prog 19 [.c (.sl (l.map cSlot))] m (.c (.sl (l.map cSlot))) :=
 clone_ok Tryz.laysClone19 slotInfo (by decide) (enters_of Tryz.func19 (by kernel_rfl) rfl) (l.map cSlot) (fun x hx => by obtain ⟨y, -, rfl⟩ := List.mem_map.1 hx; rfl) (by rw [List.length_map]; omega) m
def methAt (cs : List Class) (n : ByteArray) (x : Nat × Nat) : Option (Method × ByteArray) := match cs[x.2]? with | some k => (k.methods.find? (methIs n)).map (·, k.name) | none => none
def methUp (cs : List Class) (n : ByteArray) (l : List (Nat × Nat)) : Option (Method × ByteArray) := l.findSome? (methAt cs n)
def methodR (E : Int) (cs : List Class) (cn n : ByteArray) : Option (Method × ByteArray) := if E = 0 then methUp cs n (upX cs (cs.length + 1) 0 cn) else none
def SmallB (cs : List Class) : Prop := ∀ c ∈ cs, ∀ m ∈ c.methods, m.body.length ≤ 1048576 ∧ SmallSs 1048576 m.body
theorem find_at {α : Type} {f : α → Bool} {l : List α} {k : Nat} {x : α} (h0 : (l.take k).find? f = none) (hx : l[k]? = some x) (hr : f x = true) : l.find? f = some x := by
 obtain ⟨h1, h2⟩ := List.getElem?_eq_some_iff.1 hx
 have e : l = l.take k ++ x :: l.drop (k + 1) := by rw [← h2, ← List.drop_eq_getElem_cons h1, List.take_append_drop]
 rw [e, List.find?_append, h0]
 simp [hr]
theorem findSome_at {α β : Type} {f : α → Option β} {l : List α} {k : Nat} {x : α} {r : β} (h0 : (l.take k).findSome? f = none) (hx : l[k]? = some x) (hr : f x = some r) : l.findSome? f = some r := by
 obtain ⟨h1, h2⟩ := List.getElem?_eq_some_iff.1 hx
 have e : l = l.take k ++ x :: l.drop (k + 1) := by rw [← h2, ← List.drop_eq_getElem_cons h1, List.take_append_drop]
 rw [e, List.findSome?_append, h0]
 simp [hr]
def memM (cs : List Class) (mn : C) (n : ByteArray) (c6 : List C) (nm : ByteArray) (b : Bool) : Mem :=
 upd (upd (upd (upd (upd Mem.nil 3 (some (.box 25 [.c (.sl (cs.map cClass)), .c mn]))) 5 (some (.box 9 [.c (.str n)]))) 6 (some (.box 49 (c6.map A.c)))) 7 (some (.box 9 [.c (.str nm)]))) 8 (some (.box 4 [.c (.bool b)]))
def slotM : Nat → A := upd (upd (upd (upd (upd (fun _ => .top) 3 (.ptr 3 0)) 5 (.ptr 5 0)) 6 (.ptr 6 0)) 7 (.ptr 7 0)) 8 (.ptr 8 0)
set_option maxRecDepth 100000 in
set_option maxHeartbeats 4000000 in
theorem methodP_ok (p : Program) (E : Int) (cn n : ByteArray) (hS : SmallC p.classes) (hB : SmallB p.classes) (hlen : p.classes.length ≤ 1000000000) (hchk : ∀ m, COk Tryz.prog 6 [.agg (cProg p)] m (.c (.int .i64 E))) (m : Mem) :
 COk Tryz.prog 73 [.agg (cProg p), .c (.str cn), .c (.str n)] m (.tup (methodC (methodR E p.classes cn n))) := by
 obtain ⟨cs, mn'⟩ := p
 dsimp only at hS hB hlen hchk ⊢
 generalize hmn : C.sl (cStmts mn') = mn
 have hpr : cProg ⟨cs, mn'⟩ = [.sl (cs.map cClass), mn] := by rw [← hmn]; rfl
 rw [hpr] at hchk ⊢
 refine (ok_pureM tab_ok Tryz.func73 (by kernel_rfl) rfl rfl (by rfl) (by rfl) (by rfl) (fun R hkeep => ?_) m)
 refine W.go ?_
 refine W.regionK tab_ok 0 (by decide) ?_
 refine xs0 1 ?_
 refine runk_call rfl rfl rfl rfl rfl (by simp) cw1 (hchk _) ?_
 refine xe0 ?_
 refine W.cond rfl ?_ ?_
 ·intro h
  have he : E ≠ 0 := by simpa using h
  refine W.go ?_
  refine W.ret ⟨.inr rfl, .inl ⟨rfl, ?_⟩⟩
  simp only [Tryz.f73, resA, resOne, toT, fin, exb, Nat.reduceAdd, Nat.reduceLeDiff, Nat.reduceEqDiff, Nat.reduceMul, Int.reduceToNat, reduceIte, Int.reduceLE, Int.reduceNeg]
  simp [methodR, he, methodC, cMethod, zeroMethod, cStmts]
 intro h
 have he : E = 0 := by simpa using h
 subst he
 refine W.go ?_
 refine W.nilBox 6 2 rfl rfl ?_
 refine W.nilBox 6 3 rfl rfl ?_
 refine W.regionK tab_ok 0 (by decide) ?_
 refine xs0 2 ?_
 refine runk_call0 rfl rfl rfl rfl rfl rfl (by simp) cw2 (up_ok (cs.map cClass) mn cn _ 1000 1001 rfl rfl (by decide)) ?_
 refine xe0 ?_
 refine W.go ?_
 have hG : ∀ c6 nm b, GoodM R.keep slotM 1000 1001 1002 1003 (memM cs mn n c6 nm b) := fun c6 nm b => by
  refine ⟨?_, rfl, rfl, rfl, rfl, ?_, kept_not hkeep⟩
  ·unfold memM
   show MWf _ _
   (repeat (first | exact mwf_nil _ | refine mwf_upd ?_ zy29q47))
  ·show SWf _ _
   unfold memM slotM
   (repeat (first | exact swf_top _ | refine swf_upd ?_ (by simp [A.ids, upd_app])))
 refine W.rangeUp cs cn mn 1000 1001 1002 1003 slotM (fun k => memM cs mn n (cMethod zeroMethod) ⟨#[]⟩ false) (fun k => methUp cs n ((upX cs (cs.length + 1) 0 cn).take k) = none) (by omega) rfl rfl rfl (by decide) rfl rfl (by decide) rfl rfl ?sle ?sn ?m0 (fun k _ => hG _ _ _) ?round ?done
 case sle =>
  unfold slotM
  (repeat (first | exact sle_top _ | exact sle_refl _ | refine sle_upd ?_ zy29q44))
 case sn =>
  unfold slotM
  (repeat (first | exact sn_top | refine sn_upd ?_ (by decide)))
 case m0 =>
  refine mle_some ?_
  unfold memM
  (repeat (first | exact mle_nil _ | exact mle_refl _ | refine mle_upd ?_ (by first | rfl | (simp only [upd_app, killM_app, Nat.reduceEqDiff, reduceIte, cMethod, zeroMethod, cStmts, List.map_nil, List.map_cons, List.set_cons_zero, List.set_cons_succ]; done))))
 case round =>
  intro R' l hk' k j kc x1 x2 xL hInv hitem hkc
  repeat (first | refine WI.seq ?_ | refine WI.block ?_ | refine WI.skip ?_ | refine WI.exit ?_ | refine WI.region tab_ok 0 (by decide) (by kernel_rfl) (exec_run zy29q23) ?_)
  refine ⟨rfl, fun xL' => ?_⟩
  repeat (first | refine WI.seq ?_ | refine WI.block ?_ | refine WI.skip ?_ | refine WI.exit ?_ | refine WI.region tab_ok 0 (by decide) (by kernel_rfl) (exec_run zy29q23) ?_)
  have hkeepL : ∀ j, R'.keep j → (upd (fullM (memM cs mn n (cMethod zeroMethod) ⟨#[]⟩ false) 1000 1001 1002 1003 x1 x2 xL') 10 (some (.box 40 ((cClass kc).map A.c))) j).isSome = true := fun j hj => by
   rw [hk'] at hj
   unfold upd
   split
   ·rfl
   ·exact fullM_keep (hG _ _ _) hj
  refine WI.loop (ι := Nat) (fun q => ⟨upd (upd (upd (upd (upd (upd (upd (upd (upd (fun _ => .top) 3 (.ptr 3 0)) 5 (.ptr 5 0)) 6 (.ptr 6 0)) 7 (.ptr 7 0)) 8 (.ptr 8 0)) 10 (.ptr 10 0)) 23 (.c (.sl (kc.methods.map cMethod)))) 24 (.c (.int .i64 kc.methods.length))) 25 (.c (.int .i64 q)),
   upd (fullM (memM cs mn n (cMethod zeroMethod) ⟨#[]⟩ false) 1000 1001 1002 1003 x1 x2 xL') 10 (some (.box 40 ((cClass kc).map A.c)))⟩) (fun q => q ≤ kc.methods.length ∧ (kc.methods.take q).find? (methIs n) = none) (fun q => kc.methods.length - q) 0 ?start ⟨Nat.zero_le _, rfl⟩ ?round
  case start =>
   simp only [fullM, memM]
   refine le_mk ?sle ?mle ?swf ?mwf hkeepL (by rfl)
   case swf => repeat (first | exact swf_top _ | refine swf_upd ?_ (by simp [A.ids, upd_app, cClass, fullM, memM]))
   case mwf => repeat (first | exact mwf_nil _ | refine mwf_upd ?_ (by simp [A.ids, O.ids, upd_app, cClass, fullM, memM]))
   case mle => repeat (first | exact mle_nil _ | exact mle_refl _ | refine mle_upd ?_ (by first | rfl | (simp only [upd_app, killM_app, O.kill, A.kill, Nat.reduceEqDiff, reduceIte, Option.map_some, Option.map_none, List.map_cons, List.map_nil, cClass, fullM, memM]; done)))
   case sle => repeat (first | exact sle_top _ | exact sle_refl _ | refine sle_upd ?_ (by first | rfl | (simp only [upd_app, killS_app, A.kill, entry_zero, entry_succ, Nat.reduceEqDiff, reduceIte, cClass, fullM, memM]; done)))
  case round =>
   rintro q ⟨hq, hno⟩
   repeat (first | refine WI.seq ?_ | refine WI.block ?_ | refine WI.skip ?_ | refine WI.exit ?_ | refine WI.region tab_ok 0 (by decide) (by kernel_rfl) (exec_run zy29q23) ?_)
   refine WI.cond rfl ?_ ?_
   ·intro hlt
    simp only [decide_eq_true_eq, Int.ofNat_lt] at hlt
    obtain ⟨y, hy⟩ : ∃ y, kc.methods[q]? = some y := ⟨_, List.getElem?_eq_getElem hlt⟩
    repeat (first | refine WI.seq ?_ | refine WI.block ?_ | refine WI.skip ?_ | refine WI.exit ?_ | refine WI.region tab_ok 0 (by decide) (by kernel_rfl) (exec_run (by simp only [exb, Nat.reduceAdd, Nat.reduceLeDiff, Nat.reduceEqDiff, Nat.reduceMul, Int.reduceToNat, reduceIte, Int.reduceLE, Int.reduceNeg, fullM, memM, slotM, cClass, at_map hy, cMethod]; rfl)) ?_)
    refine WI.cond rfl ?_ ?_
    ·intro heq
     have hyb := hB kc (List.mem_of_getElem? hkc) y (List.mem_of_getElem? hy)
     have hyp := (hS kc (List.mem_of_getElem? hkc)).2.2 y (List.mem_of_getElem? hy)
     have hfm : kc.methods.find? (methIs n) = some y := find_at hno hy heq
     have hres : methodR 0 cs cn n = some (y, kc.name) := by
      unfold methodR methUp
      rw [if_pos rfl]
      exact findSome_at hInv hitem (by simp [methAt, hkc, hfm])
     repeat (first | refine WI.seq ?_ | refine WI.block ?_ | refine WI.skip ?_ | refine WI.exit ?_ | refine WI.region tab_ok 0 (by decide) (by kernel_rfl) (exec_run (by simp only [exb, Nat.reduceAdd, Nat.reduceLeDiff, Nat.reduceEqDiff, Nat.reduceMul, Int.reduceToNat, reduceIte, Int.reduceLE, Int.reduceNeg, fullM, memM, slotM, cClass, cMethod]; rfl)) ?_)
     refine WI.regionK tab_ok 0 (by decide) (by kernel_rfl) ?_
     refine runk_split 2 zy29q3 ?_
     refine runk_call rfl rfl rfl rfl rfl (by simp) cw1 (clonePar y.params hyp _) ?_
     refine runk_exec zy29q3 ?_
     repeat (first | refine WI.seq ?_ | refine WI.block ?_ | refine WI.skip ?_ | refine WI.exit ?_ | refine WI.region tab_ok 0 (by decide) (by kernel_rfl) (exec_run zy29q8) ?_)
     refine WI.regionK tab_ok 0 (by decide) (by kernel_rfl) ?_
     refine runk_split 2 zy29q8 ?_
     refine runk_call rfl rfl rfl rfl rfl (by simp) cw1 (F.stmts_ok (dStmts y.body) y.body (Nat.le_refl _) hyb.1 hyb.2 _) ?_
     refine runk_exec zy29q8 ?_
     refine WI.seq ?_
     refine WI.regionT tab_ok 0 follows_mixed (by decide) (by kernel_rfl) ?_
     repeat' (first | refine Exists.intro _ (And.intro zy29q8 ?_) | refine runs_two (i := 0) (j := 1) (by decide +kernel) rfl rfl ?_ ?_ | refine runs_two (i := 1) (j := 3) (by decide +kernel) rfl rfl ?_ ?_ | refine runs_two (i := 0) (j := 2) (by decide +kernel) rfl rfl ?_ ?_ | refine runs_two (i := 2) (j := 3) (by decide +kernel) rfl rfl ?_ ?_ | refine runs_one (i := 4) (by decide +kernel) rfl ?_ | refine runs_one (i := 5) (by decide +kernel) rfl ?_ | refine runs_one (i := 0) (by decide +kernel) rfl ?_ | refine runs_one (i := 1) (by decide +kernel) rfl ?_ | refine runs_one (i := 2) (by decide +kernel) rfl ?_ | refine runs_one (i := 3) (by decide +kernel) rfl ?_ | refine runs_end (by decide +kernel) ?_)
     all_goals
      repeat (first | refine WI.seq ?_ | refine WI.block ?_ | refine WI.skip ?_ | refine WI.exit ?_ | refine WI.region tab_ok 0 (by decide) (by kernel_rfl) (exec_run zy29q8) ?_)
      refine WI.ret ⟨fun j => j, memM cs mn n (cMethod y) kc.name true, Le.toT ?_, hG _ _ _, fun b => ⟨.inr rfl, .inr ⟨b, 1002, rfl, rfl, rfl, ?_⟩⟩⟩
      ·simp only [fullM, memM]
       refine le_mk ?sle ?mle ?swf ?mwf (fun j hj => fullM_keep (hG _ _ _) hj) (by rfl)
       case swf => repeat (first | exact swf_top _ | refine swf_upd ?_ (by simp [A.ids, upd_app, cClass, fullM, memM, cMethod, cStmts_map]))
       case mwf => repeat (first | exact mwf_nil _ | refine mwf_upd ?_ (by simp [A.ids, O.ids, upd_app, cClass, fullM, memM, cMethod, cStmts_map]))
       case mle => repeat (first | exact mle_nil _ | exact mle_refl _ | refine mle_upd ?_ (by first | rfl | (simp only [upd_app, killM_app, O.kill, A.kill, Nat.reduceEqDiff, reduceIte, Option.map_some, Option.map_none, List.map_cons, List.map_nil, cClass, fullM, memM, cMethod, cStmts_map]; done)))
       case sle => repeat (first | exact sle_top _ | exact sle_refl _ | refine sle_upd ?_ (by first | rfl | (simp only [upd_app, killS_app, A.kill, entry_zero, entry_succ, Nat.reduceEqDiff, reduceIte, cClass, fullM, memM, cMethod, cStmts_map]; done)))
      ·simp only [Tryz.f73, resA, resOne, toT, fin, doneS, doneM, DID, exb, Nat.reduceAdd, Nat.reduceLeDiff, Nat.reduceEqDiff, Nat.reduceMul, Int.reduceToNat, reduceIte, Int.reduceLE, Int.reduceNeg, memM, slotM, hres, methodC, cMethod]
    ·intro hneq
     repeat (first | refine WI.seq ?_ | refine WI.block ?_ | refine WI.skip ?_ | refine WI.exit ?_ | refine WI.region tab_ok 0 (by decide) (by kernel_rfl) (exec_run zy29q23) ?_)
     refine ⟨q + 1, ⟨hlt, ?_⟩, by omega, ?_⟩
     ·rw [List.take_add_one, hy, List.find?_append, hno]
      simpa [methIs] using hneq
     simp only [fullM, memM]
     refine le_mk ?sle ?mle ?swf ?mwf hkeepL (by rfl)
     case swf => repeat (first | exact swf_top _ | refine swf_upd ?_ (by simp [A.ids, upd_app, cClass, fullM, memM, wrap_succ (show q + 1 < 9223372036854775808 by have := (hS kc (List.mem_of_getElem? hkc)).2.1; omega)]))
     case mwf => repeat (first | exact mwf_nil _ | refine mwf_upd ?_ (by simp [A.ids, O.ids, upd_app, cClass, fullM, memM, wrap_succ (show q + 1 < 9223372036854775808 by have := (hS kc (List.mem_of_getElem? hkc)).2.1; omega)]))
     case mle => repeat (first | exact mle_nil _ | exact mle_refl _ | refine mle_upd ?_ (by first | rfl | (simp only [upd_app, killM_app, O.kill, A.kill, Nat.reduceEqDiff, reduceIte, Option.map_some, Option.map_none, List.map_cons, List.map_nil, cClass, fullM, memM, wrap_succ (show q + 1 < 9223372036854775808 by have := (hS kc (List.mem_of_getElem? hkc)).2.1; omega)]; done)))
     case sle => repeat (first | exact sle_top _ | exact sle_refl _ | refine sle_upd ?_ (by first | rfl | (simp only [upd_app, killS_app, A.kill, entry_zero, entry_succ, Nat.reduceEqDiff, reduceIte, cClass, fullM, memM, wrap_succ (show q + 1 < 9223372036854775808 by have := (hS kc (List.mem_of_getElem? hkc)).2.1; omega)]; done)))
   ·intro hge
    simp only [decide_eq_false_iff_not, Int.ofNat_lt] at hge
    obtain rfl : q = kc.methods.length := by omega
    rw [List.take_length] at hno
    repeat (first | refine WI.seq ?_ | refine WI.block ?_ | refine WI.skip ?_ | refine WI.exit ?_ | refine WI.region tab_ok 0 (by decide) (by kernel_rfl) (exec_run zy29q23) ?_)
    refine ⟨?_, fun j => j, Le.toT ?_⟩
    ·show methUp cs n ((upX cs (cs.length + 1) 0 cn).take (k + 1)) = none
     unfold methUp at *
     rw [List.take_add_one, hitem, List.findSome?_append, hInv]
     simp [methAt, hkc, hno]
    ·simp only [fullM, memM]
     refine le_mk ?sle ?mle ?swf ?mwf (fun j hj => fullM_keep (hG _ _ _) hj) (by rfl)
     case swf => repeat (first | exact swf_top _ | refine swf_upd ?_ (by simp [A.ids, upd_app, fullM, memM]))
     case mwf => repeat (first | exact mwf_nil _ | refine mwf_upd ?_ (by simp [A.ids, O.ids, upd_app, fullM, memM]))
     case mle => repeat (first | exact mle_nil _ | exact mle_refl _ | refine mle_upd ?_ (by first | rfl | (simp only [upd_app, killM_app, O.kill, A.kill, Nat.reduceEqDiff, reduceIte, Option.map_some, Option.map_none, List.map_cons, List.map_nil, fullM, memM]; done)))
     case sle => repeat (first | exact sle_top _ | exact sle_refl _ | refine sle_upd ?_ (by first | rfl | (simp only [upd_app, killS_app, A.kill, entry_zero, entry_succ, Nat.reduceEqDiff, reduceIte, fullM, memM]; done)))
 case done =>
  intro hI b
  rw [List.take_length] at hI
  repeat (first | refine W.seq ?_ | refine W.block ?_ | refine W.skip ?_ | refine W.exit ?_ | refine W.g ?_ (by simp only [exb, Nat.reduceAdd, Nat.reduceLeDiff, Nat.reduceEqDiff, Nat.reduceMul, Int.reduceToNat, reduceIte, Int.reduceLE, Int.reduceNeg, doneS, doneM, DID, memM, slotM]; rfl))
  refine W.ret ⟨.inr rfl, .inr ⟨b, 1002, rfl, rfl, rfl, ?_⟩⟩
  simp only [Tryz.f73, resA, resOne, toT, fin, doneS, doneM, DID, exb, Nat.reduceAdd, Nat.reduceLeDiff, Nat.reduceEqDiff, Nat.reduceMul, Int.reduceToNat, reduceIte, Int.reduceLE, Int.reduceNeg, memM]
  simp [methodR, hI, methodC, cMethod, zeroMethod, cStmts]
end V
end Go.Proofs.YthhpcjoaogmhbaaGreat
end
section
namespace Go.Proofs.YthhpcjoaogmhbaaGreat
namespace V
open Go.RowKit
def zipAll {α β : Type} (p : α → β → Bool) : List α → List β → Bool
 | [], [] => true
 | x :: l, y :: r => p x y && zipAll p l r
 | _, _ => false
theorem zipAll_len {α β : Type} {p : α → β → Bool} : ∀ {l : List α} {r : List β}, l.length ≠ r.length → zipAll p l r = false
 | [], [], h => absurd rfl h
 | [], _ :: _, _ => rfl
 | _ :: _, [], _ => rfl
 | x :: l, y :: r, h => by
   simp only [zipAll, zipAll_len (p := p) (l := l) (r := r) (by simpa using h), Bool.and_false]
theorem zipAll_append {α β : Type} {p : α → β → Bool} : ∀ {l l' : List α} {r r' : List β}, l.length = r.length → zipAll p (l ++ l') (r ++ r') = (zipAll p l r && zipAll p l' r')
 | [], l', [], r', _ => by simp [zipAll]
 | [], _, _ :: _, _, h => by simp at h
 | _ :: _, _, [], _, h => by simp at h
 | x :: l, l', y :: r, r', h => by
   have ih := zipAll_append (p := p) (l := l) (l' := l') (r := r) (r' := r') (by simpa using h)
   simp only [List.cons_append, zipAll, ih, Bool.and_assoc]
theorem zipAll_take {α β : Type} {p : α → β → Bool} {l : List α} {r : List β} {k : Nat} {x : α} {y : β} (h : l.length = r.length) (hx : l[k]? = some x) (hy : r[k]? = some y) (ht : zipAll p (l.take k) (r.take k) = true) : zipAll p (l.take (k + 1)) (r.take (k + 1)) = p x y := by
 rw [List.take_add_one, List.take_add_one, hx, hy, zipAll_append (by simp [h]), ht]
 simp [zipAll]
theorem zipAll_no {α β : Type} {p : α → β → Bool} {l : List α} {r : List β} {k : Nat} (h : l.length = r.length) (ht : zipAll p (l.take k) (r.take k) = false) : zipAll p l r = false := by
 have e1 : l = l.take k ++ l.drop k := (List.take_append_drop _ _).symm
 have e2 : r = r.take k ++ r.drop k := (List.take_append_drop _ _).symm
 rw [e1, e2, zipAll_append (by simp [h]), ht]; rfl
abbrev tNo : ByteArray := ⟨#[]⟩
def isT (a b : ByteArray) : Bool := a.toList == b.toList
abbrev eqTL (a b : List ByteArray) : Bool := zipAll isT a b
abbrev eqFit (cs : List Class) (a : List ByteArray) (b : List Slot) : Bool := zipAll (fun t s => fitR 0 cs t s.type) a b
def slotIs (n : ByteArray) (s : Slot) : Bool := s.name.toList == n.toList
def pickB (l : List Slot) (n : ByteArray) : Option ByteArray := (l.find? (slotIs n)).map (·.type)
def hdT (l : List ByteArray) : ByteArray := l.headD tNo
def sameT (cs : List Class) (a b : ByteArray) : Bool :=
 (isT a tInt && isT b tInt) || (!(isT a tInt) && !(isT b tInt) && ((isT a tNull && isT b tNull) || fitR 0 cs a b || fitR 0 cs b a))
def typK (cs : List Class) (inn : ByteArray) (env : List Slot) (k : Int) (nm : ByteArray) (ls : List ByteArray) : Option ByteArray :=
 if k = 2 then some tNull
 else if k = 3 then (if isT inn tNo = true then none else some inn)
 else if k = 4 then (match pickB env nm with | some t => if isT t tNo = true then none else some t | none => none)
 else if k = 5 then (if cs.any (isNm nm) = true then some nm else none)
 else if k = 6 then (if eqTL ls [tInt] = true then some tInts else none)
 else if k = 7 then pickB (fieldsR 0 cs (hdT ls)) nm
 else if k = 8 then (if eqTL ls [tInts, tInt] = true then some tInt else none)
 else if k = 9 then (if eqTL ls [tInts] = true then some tInt else none)
 else if k = 10 then (match methodR 0 cs (hdT ls) nm with | some (m, _) => if eqFit cs ls.tail m.params = true then some m.type else none | none => none)
 else if k = 12 then (if eqTL ls [tInt] = true then some tInt else none)
 else if k = 13 ∨ k = 14 ∨ k = 15 ∨ k = 16 ∨ k = 17 then (if eqTL ls [tInt, tInt] = true then some tInt else none)
 else if k = 18 then (if sameT cs (hdT ls) (hdT ls.tail) = true then some tInt else none)
 else some tInt
mutual
def typB (cs : List Class) (inn : ByteArray) (env : List Slot) : Expr → Option ByteArray
 | ⟨k, _, nm, kids⟩ => (typsB cs inn env kids).bind (typK cs inn env k nm)
def typsB (cs : List Class) (inn : ByteArray) (env : List Slot) : List Expr → Option (List ByteArray)
 | [] => some []
 | x :: l => match typB cs inn env x with
   | some t => (typsB cs inn env l).map (t :: ·)
   | none => none
end
def stmtT (cs : List Class) (inn ret : ByteArray) (env : List Slot) (k : Int) (ty : ByteArray) (ts : List ByteArray) : Bool :=
 if k = 1 then knownR cs ty && (ts.isEmpty || fitR 0 cs (hdT ts) ty)
 else if k = 2 then fitR 0 cs (hdT ts.tail) (hdT ts)
 else if k = 3 ∨ k = 4 ∨ k = 5 then isT (hdT ts) tInt
 else if k = 6 then !(isT ret tNo) && fitR 0 cs (hdT ts) ret
 else true
mutual
def stmtTB (cs : List Class) (inn ret : ByteArray) (env : List Slot) : Stmt → Bool
 | ⟨k, _, ty, nm, es, th, el⟩ => (match typsB cs inn env es with | some ts => stmtT cs inn ret env k ty ts | none => false) && blockTB cs inn ret env th && blockTB cs inn ret env el
def blockTB (cs : List Class) (inn ret : ByteArray) (env : List Slot) : List Stmt → Bool
 | [] => true
 | x :: l => stmtTB cs inn ret env x && blockTB cs inn ret (if x.kind = 1 then env ++ [⟨x.type, x.name⟩] else env) l
end
mutual
def declS : Stmt → List ByteArray
 | ⟨k, _, _, nm, _, th, el⟩ => (if k = 1 then [nm] else []) ++ declSs th ++ declSs el
def declSs : List Stmt → List ByteArray
 | [] => []
 | x :: l => declS x ++ declSs l
end
def freshB (seen : List ByteArray) : List ByteArray → Bool
 | [] => true
 | x :: l => !(seen.any fun y => y.toList == x.toList) && freshB (seen ++ [x]) l
def methTB (cs : List Class) (inn ret : ByteArray) (params : List Slot) (body : List Stmt) : Bool :=
 params.all (fun s => knownR cs s.type) && freshB (params.map (·.name)) (declSs body) && blockTB cs inn ret params body
def classTB (cs : List Class) (c : Class) : Bool :=
 c.fields.all (fun s => knownR cs s.type) && c.methods.all fun m => knownR cs m.type && methTB cs c.name m.type m.params m.body
def progTB (p : Program) : Bool := methTB p.classes tNo tNo [] p.main && p.classes.all (classTB p.classes)
def checkR (p : Program) : Int := if chkErr (errP p) p.classes = 0 then (if progTB p = true then 0 else 70) else chkErr (errP p) p.classes
end V
end Go.Proofs.YthhpcjoaogmhbaaGreat
end
section
namespace Go.Proofs.YthhpcjoaogmhbaaGreat
namespace V
open Go.RowKit
def mism : List PanicEntry := [{ v := .iface 58 (.agg #[]), recovered := false }]
def tabM : Tab := { tab with fields := fun t => if t = 58 then some [] else tab.fields t, zero := fun t => if t = 58 then some [] else tab.zero t }
namespace M
theorem tab_ok : tabM.Ok Tryz.prog := ⟨V.tab_ok.ty, fun t vs h => by
 by_cases e : t = 58
 ·subst e
  have h : some [] = some vs := by simpa [tabM] using h
  cases h
  have hz : (Tryz.prog.info? 58).map (·.zero) = some (some (.agg #[])) := by kernel_rfl
  obtain ⟨i, hi, hz⟩ := Option.map_eq_some_iff.1 hz
  exact ⟨i, .agg #[], hi, hz, by rfl, fun v hv => by cases hv⟩
 ·exact V.tab_ok.zero t vs (by simpa [tabM, e] using h), V.tab_ok.elem, V.tab_ok.off, V.tab_ok.bool, fun t l h => by
 by_cases e : t = 58
 ·subst e
  have h : some [] = some l := by simpa [tabM] using h
  cases h
  refine ⟨#[], by kernel_rfl, by rfl⟩
 ·exact V.tab_ok.fields t l (by simpa [tabM, e] using h), V.tab_ok.bytes, V.tab_ok.nilk, V.tab_ok.int, V.tab_ok.map, V.tab_ok.str, V.tab_ok.one, V.tab_ok.seq⟩
theorem tabs : tabM.fields 58 = some [] ∧ tabM.zero 58 = some [] ∧ tabM.ty = tab.ty := ⟨rfl, rfl, rfl⟩
theorem must_both (b : Bool) (m : Mem) : TOk Tryz.prog 9 [.c (.bool b)] m mism (if b = true then some (.tup []) else none) := by
 refine (ok_both tab_ok (ch := mism) (if b = true then some (.tup []) else none) Tryz.func9 (by kernel_rfl) rfl rfl (by rfl) ?rid (by rfl) (fun R hkeep => ?_) m)
 case rid => rintro x hx; first | (cases hx; rfl) | (split at hx <;> first | (cases hx; rfl) | cases hx) | (obtain ⟨y, -, rfl⟩ := Option.map_eq_some_iff.1 hx; rfl)
 refine W.go ?_
 cases b with
 | true =>
   refine W.cond rfl (fun h => absurd h (by simp)) (fun _ => ?_)
   refine W.go ?_
   refine ⟨by rfl, .inl rfl, ?_⟩
   simp only [Tryz.f9, resA, resOne, toT, fin, exb, Nat.reduceAdd, Nat.reduceLeDiff, Nat.reduceEqDiff, Nat.reduceMul, Int.reduceToNat, reduceIte, Int.reduceLE, Int.reduceNeg]
 | false =>
   refine W.cond rfl (fun _ => ?_) (fun h => absurd h (by simp))
   refine W.panR (base := 0) (ch := mism) tab_ok 2 (by decide) rfl ?_
   refine runk_exec (by simp only [exb, Nat.reduceAdd, Nat.reduceLeDiff, Nat.reduceEqDiff, Nat.reduceMul, Int.reduceToNat, reduceIte, Int.reduceLE, Int.reduceNeg, tabs]; rfl) ?_
   refine ⟨_, xs_panic rfl rfl (fun B w I v hv => ?_), by rfl, rfl⟩
   obtain ⟨u, rfl, us, rfl, h⟩ := hv
   cases us with
   | nil => rfl
   | cons a l => cases h
end M
open M (must_both)
theorem must_yes (m : Mem) : COk Tryz.prog 9 [.c (.bool true)] m (.tup []) := must_both true m
theorem must_no (m : Mem) : XOk Tryz.prog 9 [.c (.bool false)] m mism := must_both false m
theorem equal_ok (a b : List ByteArray) (ha : a.length ≤ 1000000000) (m : Mem) : COk Tryz.prog 70 [.c (.sl (a.map cStr)), .c (.sl (b.map cStr))] m (.c (.bool (eqTL a b))) := by
 refine (ok_pure tab_ok Tryz.func70 (by kernel_rfl) rfl rfl (by rfl) (by rfl) (by rfl) (fun R hkeep => ?_) m)
 by_cases hl : a.length = b.length
 ·have hd : decide ((a.length : Int) = (b.length : Int)) = true := by simp [hl]
  repeat (first | refine W.seq ?_ | refine W.block ?_ | refine W.skip ?_ | refine W.exit ?_ | refine W.g ?_ zy29q24)
  refine W.cond rfl (fun h => absurd h (by simp)) (fun _ => ?_)
  refine W.go ?_
  refine W.loop (ι := Nat) (fun k => ⟨upd (upd (upd (upd (fun _ => .top) 0 (.c (.sl (a.map cStr)))) 1 (.c (.sl (b.map cStr)))) 12 (.c (.int .i64 a.length))) 13 (.c (.int .i64 k)), Mem.nil⟩) (fun k => k ≤ a.length ∧ eqTL (a.take k) (b.take k) = true) (fun k => a.length - k) 0 ?start ⟨Nat.zero_le _, by simp [zipAll]⟩ ?round
  case start =>
   refine le_L ?sle ?mle (kept_not hkeep)
   case mle => repeat (first | exact mle_nil _ | exact mle_refl _ | refine mle_upd ?_ (by first | rfl | (simp only [upd_app, killM_app, Nat.reduceEqDiff, reduceIte, List.length_map]; done)))
   case sle => repeat (first | exact sle_top _ | exact sle_refl _ | refine sle_upd ?_ (by first | rfl | (simp only [upd_app, entry_zero, entry_succ, Nat.reduceEqDiff, reduceIte, List.length_map]; done)))
  case round =>
   rintro k ⟨hk, hall⟩
   refine W.go ?_
   refine W.cond rfl ?_ ?_
   ·intro hlt
    simp only [decide_eq_true_eq, Int.ofNat_lt] at hlt
    obtain ⟨x, hx⟩ : ∃ x, a[k]? = some x := ⟨_, List.getElem?_eq_getElem hlt⟩
    obtain ⟨y, hy⟩ : ∃ y, b[k]? = some y := ⟨_, List.getElem?_eq_getElem (by omega)⟩
    have ht := zipAll_take (p := isT) hl hx hy hall
    refine W.go ?_
    refine W.regionDK tab_ok 0 follows_mixed (by kernel_rfl) (by decide) ?_
    refine runk_exec (by simp only [exb, Nat.reduceAdd, Nat.reduceLeDiff, Nat.reduceEqDiff, Nat.reduceMul, Int.reduceToNat, reduceIte, Int.reduceLE, Int.reduceNeg, at_map hx, at_map hy, cStr]; rfl) ?_
    refine W.cond rfl ?_ ?_
    ·intro hne
     have hf : isT x y = false := by unfold isT; simpa using hne
     refine W.go ?_
     refine W.ret ⟨.inr rfl, by rfl, ?_⟩
     simp only [Tryz.f70, resA, resOne, toT, fin, exb, Nat.reduceAdd, Nat.reduceLeDiff, Nat.reduceEqDiff, Nat.reduceMul, Int.reduceToNat, reduceIte, Int.reduceLE, Int.reduceNeg]
     simp only [eqTL, zipAll_no (k := k + 1) hl (ht.trans hf)]
    ·intro heq
     have hf : isT x y = true := by unfold isT; simpa using heq
     refine W.go ?_
     refine ⟨k + 1, ⟨hlt, ht.trans hf⟩, by omega, ?_⟩
     exact le_Sk (kept_not hkeep)
   ·intro hge
    simp only [decide_eq_false_iff_not, Int.ofNat_lt] at hge
    obtain rfl : k = a.length := by omega
    rw [List.take_length, hl, List.take_length] at hall
    refine W.go ?_
    exact W.ret ⟨.inr rfl, by rfl, (by simp only [Tryz.f70, resA, resOne, toT, fin, exb, Nat.reduceAdd, Nat.reduceLeDiff, Nat.reduceEqDiff, Nat.reduceMul, Int.reduceToNat, reduceIte, Int.reduceLE, Int.reduceNeg, hall])⟩
 ·have hd : decide ((a.length : Int) = (b.length : Int)) = false := by simp; omega
  repeat (first | refine W.seq ?_ | refine W.block ?_ | refine W.skip ?_ | refine W.exit ?_ | refine W.g ?_ zy29q24)
  refine W.cond rfl (fun _ => ?_) (fun h => absurd h (by simp))
  refine W.go ?_
  exact W.ret ⟨.inr rfl, by rfl, (by simp only [Tryz.f70, resA, resOne, toT, fin, exb, Nat.reduceAdd, Nat.reduceLeDiff, Nat.reduceEqDiff, Nat.reduceMul, Int.reduceToNat, reduceIte, Int.reduceLE, Int.reduceNeg, zipAll_len hl])⟩
theorem want_both (ts l : List ByteArray) (hl : l.length ≤ 1000000000) (m : Mem) : TOk Tryz.prog 69 [.c (.sl (ts.map cStr)), .rptr [.sl (l.map cStr)]] m mism (if eqTL l ts = true then some (.tup []) else none) := by
 have he := equal_ok l ts hl
 refine (ok_both tab_ok (ch := mism) (if eqTL l ts = true then some (.tup []) else none) Tryz.func69 (by kernel_rfl) rfl rfl (by rfl) ?rid (by rfl) (fun R hkeep => ?_) m)
 case rid => rintro x hx; first | (cases hx; rfl) | (split at hx <;> first | (cases hx; rfl) | cases hx) | (obtain ⟨y, -, rfl⟩ := Option.map_eq_some_iff.1 hx; rfl)
 cases hb : eqTL l ts with
 | true =>
   rw [hb] at he
   refine W.go ?_
   refine W.regionK tab_ok 0 (by decide) ?_
   refine xs0 2 ?_
   refine runk_call rfl rfl rfl rfl rfl (by simp) cw2 (he _) ?_
   refine xs0 0 ?_
   refine runk_call rfl rfl rfl rfl rfl (by simp) cw1 (must_yes _) ?_
   refine xe0 ?_
   refine ⟨by rfl, .inl rfl, ?_⟩
   simp only [Tryz.f69, resA, resOne, toT, fin, exb, Nat.reduceAdd, Nat.reduceLeDiff, Nat.reduceEqDiff, Nat.reduceMul, Int.reduceToNat, reduceIte, Int.reduceLE, Int.reduceNeg]
 | false =>
   rw [hb] at he
   refine W.panR (base := 0) (ch := mism) tab_ok 3 (by decide) rfl ?_
   refine xs0 2 ?_
   refine runk_call rfl rfl rfl rfl rfl (by simp) cw2 (he _) ?_
   refine xe0 ?_
   exact ⟨_, xs_call rfl rfl rfl rfl (by simp) cw1 (must_no _), by rfl, rfl⟩
end V
end Go.Proofs.YthhpcjoaogmhbaaGreat
end
section
namespace Go.Proofs.YthhpcjoaogmhbaaGreat
namespace V
open Go.RowKit
theorem MR.setBox {w0 w : World} {I0 I : Nat → Nat → Prop} {B : Nat → Value} {m : Mem} (hm : MR w0 I0 B I m w) {j b : Nat} {ty : TypeId} {x : A} {z : Int} (hj : m j = some (.box ty [x])) (hB : B j = .pointer (some ⟨b, 0, none⟩)) (hz : (Lit.int .i64 z).wf = true) :
 (∃ u, w.cell? ⟨b, 0, none⟩ = some u) ∧ w.frozen? ⟨b, 0, none⟩ = false ∧ MR w0 I0 B I (upd m j (some (.box ty [.c (.int .i64 z)]))) (w.setCell ⟨b, 0, none⟩ (.int .i64 z)) ∧ Ext w (w.setCell ⟨b, 0, none⟩ (.int .i64 z)) I I := by
 obtain ⟨b', vs, h1, h2, h3, h4⟩ := hm.objs j _ hj
 rw [hB] at h1
 obtain rfl : b = b' := by cases h1; rfl
 match vs, h3 with
 | [u], ⟨⟨hu, hc⟩, _⟩ =>
   have hlt := (Array.getElem?_eq_some_iff.1 h2).1
   have hset : (w.setCell ⟨b, 0, none⟩ (.int .i64 z)).heap[b]? = some (.cells ([.int .i64 z] : List Value).toArray ty) := by
    simp only [World.setCell, Array.getElem?_modify, if_true, h2]
    rfl
   have ht := hm.turn (w' := w.setCell ⟨b, 0, none⟩ (.int .i64 z)) (j := j) (b := b) (o' := .box ty [.c (.int .i64 z)]) hj ⟨0, hB⟩ (fun k hk => by
    obtain ⟨off, hk⟩ := hk
    rw [hB] at hk; cases hk; rfl) h4 rfl rfl rfl (by simp [World.setCell]) (fun k hk => Below.heap_setCell w ⟨b, 0, none⟩ _ k hk) (fun i hi => by simp [O.ids, A.ids] at hi) (fun hE => ⟨b, [.int .i64 z], hB, hset, ⟨⟨.int hz, rfl⟩, trivial⟩, h4⟩)
   refine ⟨⟨u, by simp [World.cell?, h2]⟩, by simp [World.frozen?, h2], ht.1, ht.2⟩
theorem W.deferOne {P : Go.Program} {R : Ref} {n : Nat} {ds : List Deferred} {st : St} {K : Exit → St → Prop} {id : Nat} {o : Oper} {c : Call} {g : FuncId} {x : Operand} {j : Nat} (hw : wantA #[o] o st.s = some true) (hop : o.op = .defer c) (hc : c.callee = .value (.func g)) (ha : c.args = #[x]) (hd : o.dst = none) (hx : ev st.s x = .ptr j 0)
 (h : ∀ v, K .normal ⟨upd (upd st.s DID (.defs ({ target := .fn (.func g) #[], args := #[v] } :: dfs (st.s DID)))) (DID + 1) (.pinP v j 0), st.m⟩) : W P R n ds st (.region id #[o] false) K := fun a w hr => by
 obtain ⟨B, I, hm, hx0, hkp, hs⟩ := hr.ex
 refine wp_region ?_
 show wpOps P #[o] _ [0] a w
 rw [wpOps_cons]
 unfold wpOp
 have hwt := want_snd hs hw
 simp only [List.getElem?_toArray, List.getElem?_cons_zero]
 rw [if_pos hwt]
 refine .inl ?_
 unfold Oper.wp Oper.upon
 have hrun : (execOp a.eval o).run P w = .ok (.defer { target := .fn (.func g) #[], args := #[a.eval x] }) w := by
  simp only [execOp, hop, resolve, hc, ha, Act.eval, Deferred.ofValue, Sem.run_bind, Sem.run_pure, Result.andThen_ok]
  simp [Act.eval]
 rw [hrun]
 have hv := ev_rv hs x
 rw [hx] at hv
 obtain ⟨b, hB, hv⟩ := hv
 have hput : ({ a with defers := { target := .fn (.func g) #[], args := #[a.eval x] } :: a.defers } : Act).put o.dst undef = { a with defers := { target := .fn (.func g) #[], args := #[a.eval x] } :: a.defers } := by rw [hd]; rfl
 show wpOps P #[o] _ [] _ _
 rw [hput]
 refine ⟨_, h (a.eval x), ⟨B, I, hm, hx0, hkp, fun t => ?_⟩, fun t i hi => ?_, hr.size, hr.nn, ?_, hr.kept⟩
 ·show RV B w I (upd (upd st.s DID _) (DID + 1) _ t) (a.tmps.getD t undef)
  by_cases e : t = DID + 1
  ·subst e; rw [upd_same]; exact ⟨b, hB, hv⟩
  ·rw [upd_ne _ _ e]
   by_cases e2 : t = DID
   ·subst e2; rw [upd_same]; trivial
   ·rw [upd_ne _ _ e2]; exact hs t
 ·have hi : i ∈ (upd (upd st.s DID _) (DID + 1) _ t).ids := hi
  by_cases e : t = DID + 1
  ·subst e
   rw [upd_same] at hi
   simp [A.ids] at hi; subst hi
   have := hr.wf
   cases x with
   | tmp q =>
     have hx : st.s q = .ptr i 0 := hx
     exact hr.ids q i (by rw [hx]; simp [A.ids])
   | const u => exfalso; simp only [ev] at hx; unfold ofConst at hx; (repeat' split at hx) <;> cases hx
   | global q => simp [ev] at hx
   | func q => simp [ev] at hx
  ·rw [upd_ne _ _ e] at hi
   by_cases e2 : t = DID
   ·subst e2; rw [upd_same] at hi; simp [A.ids] at hi
   ·rw [upd_ne _ _ e2] at hi; exact hr.ids t i hi
 ·have e : (upd (upd st.s DID (.defs ({ target := .fn (.func g) #[], args := #[a.eval x] } :: dfs (st.s DID)))) (DID + 1) (.pinP (a.eval x) j 0)) DID = .defs ({ target := .fn (.func g) #[], args := #[a.eval x] } :: dfs (st.s DID)) := by
   rw [upd_ne _ _ (by decide), upd_same]
  show _ :: a.defers = dfs ((upd (upd st.s DID (.defs ({ target := .fn (.func g) #[], args := #[a.eval x] } :: dfs (st.s DID)))) (DID + 1) (.pinP (a.eval x) j 0)) DID) ++ ds
  rw [e, hr.defs]; rfl
end V
end Go.Proofs.YthhpcjoaogmhbaaGreat
end
section
namespace Go.Proofs.YthhpcjoaogmhbaaGreat
namespace V
open Go.RowKit
theorem MR.cellOf {w0 w : World} {I0 I : Nat → Nat → Prop} {B : Nat → Value} {m : Mem} (hm : MR w0 I0 B I m w) {j b : Nat} {ty : TypeId} {n : Int} (hj : m j = some (.box ty [.c (.int .i64 n)])) (hB : B j = .pointer (some ⟨b, 0, none⟩)) : w.cell? ⟨b, 0, none⟩ = some (.int .i64 n) := by
 obtain ⟨b', vs, h1, h2, h3, h4⟩ := hm.objs j _ hj
 rw [hB] at h1
 obtain rfl : b = b' := by cases h1; rfl
 match vs, h3 with
 | [u], ⟨⟨hu, hc⟩, _⟩ =>
   have hu : RC w I u (.int .i64 n) := hu
   cases hu
   simp [World.cell?, h2]
theorem ok_defer {T : Tab} (hT : T.Ok Tryz.prog) {f : FuncId} {fn : Func} {c : Code} {l : List ResultVar} {args : List A} {r : A} (hf : (Tryz.prog).funcs[f]? = some fn) (hn : (fn.name == "runtime.NumGoroutine") = false) (hb : fn.body = some c) (hl : fn.results.toList = l) (hd : args.all (fun a => a.ids.isEmpty && !(match a with | .defs _ => true | _ => false)) = true) (hr : r.ids = []) (hle : decide (args.length ≤ fn.ntmps ∧ fn.ntmps ≤ DID) = true)
 (hW : ∀ R : Ref, R.keep = (fun _ => False) → W Tryz.prog R fn.ntmps [] ⟨entry args, Mem.nil⟩ c (fun e st => ((e = .normal ∨ e = .ret) ∧ dfs (st.s DID) = [] ∧ resA T st l = some r) ∨
   ∃ v j, dfs (st.s DID) = [{ target := .fn (.func 7) #[], args := #[v] }] ∧ st.s (DID + 1) = .pinP v j 0 ∧
     (((e = .normal ∨ e = .ret) ∧ resA T st l = some r) ∨ (e = .panic mism ∧ ∃ ty n, st.m j = some (.box ty [.c (.int .i64 n)]) ∧ resA T ⟨st.s, upd st.m j (some (.box ty [.c (.int .i64 70)]))⟩ l = some r)))) (m : Mem) : COk Tryz.prog f args m r := by
 refine ⟨enters_of hf hn hb, hr, fun m' _ => ?_⟩
 intro w0 I0 B I w vals hm hv
 have hlen := rvl_len hv
 have hids : ∀ a ∈ args, a.ids = [] := fun a ha => by have := List.all_eq_true.1 hd a ha; simp only [Bool.and_eq_true] at this; simpa using this.1
 have hdf : ∀ a ∈ args, ∀ l, a ≠ .defs l := fun a ha l e => by have := List.all_eq_true.1 hd a ha; subst e; simp at this
 obtain ⟨hle1, hle2⟩ := of_decide_eq_true hle
 refine calls_of_wp_defers hf hb ?_
 have h0 : SR ⟨w, I, w, I, B, fun _ => False⟩ fn.ntmps [] ⟨entry args, Mem.nil⟩ { tmps := vals.toArray ++ Array.replicate (fn.ntmps - vals.toArray.size) undef, defers := [] } w := by
  refine ⟨⟨B, I, ⟨Below.refl _ _, hm.globNow, fun _ _ h => h, fun _ _ h => .inl h, hm.there, fun _ _ h => absurd h (noneSome _), fun _ _ h => absurd h (noneSome _), fun _ _ _ _ h => absurd h (noneSome _), fun _ _ h => absurd h (noneSome _)⟩, Ext.refl _ _, fun _ _ => rfl, rvl_entry hv⟩, fun t j hj => ?_, by simp [hlen]; omega, hle2, by rw [show dfs ((⟨entry args, Mem.nil⟩ : St).s DID) = [] from entry_dfs hdf]; rfl, fun j hj => hj.elim⟩
  simp only [entry, List.getD_eq_getElem?_getD] at hj
  cases hx : args[t]? with
  | none => rw [hx] at hj; simp [A.ids] at hj
  | some a => rw [hx] at hj; simp [hids a (List.mem_of_getElem? hx)] at hj
 refine wp_mono (hW _ rfl _ w h0) ?_
 rintro e a' w' ⟨st', hres, hsr⟩
 obtain ⟨⟨B', I', hm', hx', -, hs'⟩, -, -, -, hds, -⟩ := hsr
 -- what is handed back, out of what the result variables hold
 have hand : ∀ (w2 : World) (st2 : St), (MR w I B' I' st2.m w2) → (∀ t, RV B' w2 I' (st2.s t) (a'.tmps.getD t undef)) → resA T st2 l = some r →
  ∃ v, (results fn a'.tmps).run Tryz.prog w2 = .ok v w2 ∧ ∃ v' I', Ending.returned v = .returned v' ∧ Below w.heap.size w w2 ∧ (∀ b o, I b o → I' b o) ∧ (∀ b o, I' b o → I b o ∨ (w.heap.size ≤ b ∧ b < w2.heap.size)) ∧ RV B w2 I' r v' := by
  intro w2 st2 hm2 hs2 hres2
  obtain ⟨v, h1, h2, h3⟩ := resA_snd (st := st2) hT hm2 hs2 hl hres2
  exact ⟨v, h1, v, I', rfl, hm2.below, hm2.base, fun b o h => (hm2.old b o h).imp id fun k => ⟨k, hm2.there b o h⟩, h2.mono (Ext.refl _ _) fun j hj => by rw [h3] at hj; simp at hj⟩
 have hinv : ∀ (v : Value) (w : World), (invoke (.fn (.func 7) #[]) #[v]).run Tryz.prog w = .ok (.enter 7 #[v]) w := fun v w => by
  simp [invoke]
 rcases hres with ⟨he, hdn, hres⟩ | ⟨v, j, hdn, hpin, hres⟩
 ·rw [hdn] at hds
  have hds : a'.defers = [] := hds
  have key := hand w' st' hm' hs' hres
  rcases he with rfl | rfl <;> (show Leaves _ _ _ _ _ _ _; rw [hds]; exact key)
 ·rw [hdn] at hds
  have hds : a'.defers = [{ target := .fn (.func 7) #[], args := #[v] }] := hds
  rcases hres with ⟨he, hres⟩ | ⟨rfl, ty, n, hj, hres⟩
  ·have key := hand w' st' hm' hs' hres
   have key2 : Leaves Tryz.prog fn a'.tmps (fun e w' => ∃ v I', e = .returned v ∧ Below w.heap.size w w' ∧ (∀ b o, I b o → I' b o) ∧ (∀ b o, I' b o → I b o ∨ (w.heap.size ≤ b ∧ b < w'.heap.size)) ∧ RV B w' I' r v) a'.defers .returning w' := by
    rw [hds]
    refine leaves_cons (by simp) (hinv v w') (CallsD.mono (face_idle v w') ?_)
    rintro e u' w'' ⟨rfl, rfl, rfl⟩
    exact key
   rcases he with rfl | rfl <;> exact key2
  ·have hp := hs' (DID + 1)
   rw [hpin] at hp
   obtain ⟨b0, hp1, hp2⟩ := hp
   cases hp2
   have hcell := hm'.cellOf hj hp1
   obtain ⟨-, hfz, hm2, hE2⟩ := hm'.setBox (z := 70) hj hp1 (by decide)
   show Leaves _ _ _ _ _ _ _
   rw [hds]
   refine leaves_cons (by simp [mism]) (hinv _ w') (CallsD.mono (face_caught b0 n w' hcell hfz []) ?_)
   rintro e u' w'' ⟨rfl, rfl, o, rfl⟩
   have hb2 : Below (w'.setCell ⟨b0, 0, none⟩ (.int .i64 70)).heap.size (w'.setCell ⟨b0, 0, none⟩ (.int .i64 70)) ((w'.setCell ⟨b0, 0, none⟩ (.int .i64 70)).alloc o) := (Below.refl _ _).alloc (Nat.le_refl _) o
   have hm3 := hm2.call hb2
   exact hand _ ⟨st'.s, upd st'.m j (some (.box ty [.c (.int .i64 70)]))⟩ hm3 (fun t => (hs' t).mono (hE2.trans (hm2.ext hb2 (fun _ _ k => k))) fun _ _ => rfl) hres
end V
end Go.Proofs.YthhpcjoaogmhbaaGreat
end
section
namespace Go.Proofs.YthhpcjoaogmhbaaGreat
namespace V
open Go.RowKit
theorem idxSlot_ok (l : List Slot) (f : FuncId) (caps : List (List C)) (p : Slot → Bool) (hlen : l.length ≤ 1000000000000) (hk : ∀ x ∈ l, ∀ m, COk Tryz.prog f (.agg (cSlot x) :: caps.map A.rptr) m (.c (.bool (p x)))) (m : Mem) : COk Tryz.prog 93 [.c (.sl (l.map cSlot)), .fnR f caps] m (.c (.int .i64 (idxB p l))) := by
 refine (ok_pure tab_ok Tryz.func93 (by kernel_rfl) rfl rfl (by rfl) (by rfl) (by rfl) (fun R hkeep => ?_) m)
 refine W.go ?_
 refine W.loop (ι := Nat) (fun k => ⟨upd (upd (upd (upd (upd (fun _ => .top) 0 (.c (.sl (l.map cSlot)))) 1 (.fnR f caps)) 4 (.c (.int .i64 0))) 7 (.c (.int .i64 l.length))) 8 (.c (.int .i64 k)), Mem.nil⟩) (fun k => k ≤ l.length ∧ (l.take k).any p = false) (fun k => l.length - k) 0 ?start ⟨Nat.zero_le _, rfl⟩ ?round
 case start =>
  exact le_D (kept_not hkeep)
 case round =>
  rintro k ⟨hkl, hno⟩
  refine W.go ?_
  refine W.cond rfl ?_ ?_
  ·intro hlt
   simp only [decide_eq_true_eq, Int.ofNat_lt] at hlt
   obtain ⟨x, hx⟩ : ∃ x, l[k]? = some x := ⟨_, List.getElem?_eq_getElem hlt⟩
   refine W.go ?_
   refine W.regionK tab_ok 0 (by decide) ?_
   refine runk_split 5 (by simp only [exb, Nat.reduceAdd, Nat.reduceLeDiff, Nat.reduceEqDiff, Nat.reduceMul, Int.reduceToNat, reduceIte, Int.reduceLE, Int.reduceNeg, at_map hx, cSlot]; rfl) ?_
   refine runk_callF rfl rfl rfl rfl rfl (cvs_cons cv_refl (cvs_caps _)) (hk x (List.mem_of_getElem? hx) _) ?_
   refine xe0 ?_
   refine W.cond rfl ?_ ?_
   ·intro hp
    refine W.go ?_
    refine W.ret ⟨.inr rfl, by rfl, ?_⟩
    simp only [Tryz.f93, resA, resOne, toT, fin, exb, Nat.reduceAdd, Nat.reduceLeDiff, Nat.reduceEqDiff, Nat.reduceMul, Int.reduceToNat, reduceIte, Int.reduceLE, Int.reduceNeg]
    rw [idxB_at hno hx hp]
   ·intro hp
    refine W.go ?_
    refine ⟨k + 1, ⟨hlt, ?_⟩, by omega, ?_⟩
    ·rw [List.take_add_one, hx, List.any_append, hno]; simp [hp]
    exact le_Sk (kept_not hkeep)
  ·intro hge
   simp only [decide_eq_false_iff_not, Int.ofNat_lt] at hge
   obtain rfl : k = l.length := by omega
   rw [List.take_length] at hno
   refine W.go ?_
   refine W.ret ⟨.inr rfl, by rfl, ?_⟩
   simp only [Tryz.f93, resA, resOne, toT, fin, exb, Nat.reduceAdd, Nat.reduceLeDiff, Nat.reduceEqDiff, Nat.reduceMul, Int.reduceToNat, reduceIte, Int.reduceLE, Int.reduceNeg]
   rw [idxB_none hno]
theorem idxB_find {α : Type} (p : α → Bool) : ∀ l : List α, (idxB p l = -1 ∧ l.find? p = none) ∨ ∃ k x, idxB p l = ((k : Nat) : Int) ∧ l[k]? = some x ∧ l.find? p = some x
 | [] => .inl ⟨rfl, rfl⟩
 | x :: l => by
   unfold idxB
   cases hp : p x with
   | true => exact .inr ⟨0, x, by simp, rfl, by simp [hp]⟩
   | false =>
     rcases idxB_find p l with ⟨h1, h2⟩ | ⟨k, y, h1, h2, h3⟩
     ·exact .inl ⟨by simp [h1], by simp [hp, h2]⟩
     ·refine .inr ⟨k + 1, y, ?_, by simpa using h2, by simp [hp, h3]⟩
      have : ¬ (idxB p l = -1) := by omega
      simp [this, h1]
theorem slotIs_ok (n : ByteArray) (s : Slot) (m : Mem) : COk Tryz.prog 94 [.agg (cSlot s), .rptr [.str n]] m (.c (.bool (slotIs n s))) := by
 refine (ok_pure tab_ok Tryz.func94 (by kernel_rfl) rfl rfl (by rfl) (by rfl) (by rfl) (fun R hkeep => ?_) m)
 repeat (first | refine W.seq ?_ | refine W.block ?_ | refine W.skip ?_ | refine W.exit ?_ | refine W.g ?_ (by simp only [exb, Nat.reduceAdd, Nat.reduceLeDiff, Nat.reduceEqDiff, Nat.reduceMul, Int.reduceToNat, reduceIte, Int.reduceLE, Int.reduceNeg, cSlot]; rfl))
 exact W.ret ⟨.inr rfl, by rfl, (by simp only [Tryz.f94, resA, resOne, toT, fin, exb, Nat.reduceAdd, Nat.reduceLeDiff, Nat.reduceEqDiff, Nat.reduceMul, Int.reduceToNat, reduceIte, Int.reduceLE, Int.reduceNeg, cSlot]; rfl)⟩
theorem pick_both (l : List Slot) (n : ByteArray) (hl : l.length ≤ 1000000000) (m : Mem) : TOk Tryz.prog 71 [.c (.sl (l.map cSlot)), .c (.str n)] m mism ((pickB l n).map fun t => .c (.str t)) := by
 refine (ok_both tab_ok (ch := mism) ((pickB l n).map fun t => A.c (.str t)) Tryz.func71 (by kernel_rfl) rfl rfl (by rfl) ?rid (by rfl) (fun R hkeep => ?_) m)
 case rid => rintro x hx; first | (cases hx; rfl) | (split at hx <;> first | (cases hx; rfl) | cases hx) | (obtain ⟨y, -, rfl⟩ := Option.map_eq_some_iff.1 hx; rfl)
 refine W.go ?_
 refine W.regionK tab_ok 0 (by decide) ?_
 refine xs0 2 ?_
 refine runk_callR rfl rfl rfl rfl rfl (by simp) (cvrs_cons cvr_refl (cvrs_cons (cvr_fn (caps_one rfl rfl)) cvrs_nil)) (by rfl) (by rfl) (idxSlot_ok l 94 [[.str n]] (slotIs n) (by omega) (fun x _ m => slotIs_ok n x m)) ?_
 refine xe0 ?_
 rcases idxB_find (slotIs n) l with ⟨h1, h2⟩ | ⟨k, x, h1, h2, h3⟩
 ·rw [h1]
  have hr : pickB l n = none := by unfold pickB; rw [h2]; rfl
  rw [hr]
  (repeat (first | refine W.seq ?_ | refine W.block ?_))
  refine W.panR (base := 0) (ch := mism) tab_ok 2 (by decide) rfl ?_
  refine xe0 ?_
  exact ⟨_, xs_call rfl rfl rfl rfl (by simp) cw1 (must_no _), by rfl, rfl⟩
 ·rw [h1]
  have hr : pickB l n = some x.type := by unfold pickB; rw [h3]; rfl
  rw [hr]
  have hk : decide ((0 : Int) ≤ (k : Int)) = true := by simp
  have hk0 : (0 : Int) ≤ (k : Int) := by omega
  obtain ⟨xt, xn⟩ := x
  (repeat (first | refine W.seq ?_ | refine W.block ?_))
  refine W.regionK tab_ok 0 (by decide) ?_
  refine runk_split 2 (by simp only [exb, Nat.reduceAdd, Nat.reduceLeDiff, Nat.reduceEqDiff, Nat.reduceMul, Int.reduceToNat, reduceIte, Int.reduceLE, Int.reduceNeg, hk]; rfl) ?_
  refine runk_call rfl rfl rfl rfl rfl (by simp) cw1 (must_yes _) ?_
  refine xe0 ?_
  repeat (first | refine W.seq ?_ | refine W.block ?_ | refine W.skip ?_ | refine W.exit ?_ | refine W.g ?_ (by simp only [exb, Nat.reduceAdd, Nat.reduceLeDiff, Nat.reduceEqDiff, Nat.reduceMul, Int.reduceToNat, reduceIte, Int.reduceLE, Int.reduceNeg, hk0, Int.toNat_natCast, at_map h2, cSlot]; rfl))
  refine W.ret ⟨by rfl, .inr rfl, ?_⟩
  simp only [Tryz.f71, resA, resOne, toT, fin, exb, Nat.reduceAdd, Nat.reduceLeDiff, Nat.reduceEqDiff, Nat.reduceMul, Int.reduceToNat, reduceIte, Int.reduceLE, Int.reduceNeg, Option.map_some]
end V
end Go.Proofs.YthhpcjoaogmhbaaGreat
end
