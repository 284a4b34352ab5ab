/- Joined by my own program, in build order: Ccls, Cchk, Vy, Vz, Plain, Plain2, Chks, Order, Fit, FitP, Law07a, LawFit. -/
import Derived.Test.YthhpcjoaogmhbaaZ5
import Derived.Test.YthhpcjoaogmhbaaZ2
set_option linter.unusedVariables false
set_option linter.unusedSimpArgs false
section
set_option linter.unusedVariables false
set_option linter.unusedSimpArgs false
namespace Go.Proofs.Ythhpcjoaogmhbaa
namespace V
open Go.RowKit
set_option linter.unusedSimpArgs false
theorem fieldsUp_len {cs : List Class} (hS : SmallC cs) : ∀ l : List (Nat × Nat), (fieldsUp cs l).length ≤ l.length * 1048576
  | [] => by simp [fieldsUp]
  | x :: l => by
    have ih := fieldsUp_len hS l
    unfold fieldsUp at *
    rw [List.flatMap_cons, List.length_append, List.length_cons]
    have : (fieldsAt cs x).length ≤ 1048576 := by
      unfold fieldsAt
      cases h : cs[x.2]? with
      | none => simp
      | some k => have := (hS k (List.mem_of_getElem? h)).1; simpa [namesL] using this
    omega
theorem sn_top {n : Nat} : ∀ t, n ≤ t → (fun _ : Nat => A.top) t = A.top := fun _ _ => rfl
theorem sn_upd {n k : Nat} {s : Nat → A} {x : A} (h : ∀ t, n ≤ t → s t = A.top) (hk : k < n) : ∀ t, n ≤ t → upd s k x t = A.top := fun t ht => by
  rw [upd_ne _ _ (by omega)]; exact h t ht
theorem mle_some {m m' : Mem} (h : MLe m m') : ∀ j o, m' j = some o → m j = some o := fun j o ho => by
  rcases h j with e | e
  · rw [e] at ho; cases ho
  · rw [← e]; exact ho
def memC (cs : List Class) (mn : C) (c : Class) (b : Bool) (l : List ByteArray) : Mem :=
  upd (upd (upd (upd (upd Mem.nil 2 (some (.box 25 [.c (.sl (cs.map cClass)), .c mn]))) 3 (some (.box 41 ((cClass c).map A.c)))) 4 (some (.box 4 [.c (.bool b)]))) 5 (some (.box 42 [.own 50]))) 50 (some (.arr 9 1 (l.map cStr)))
def slotC : Nat → A := upd (upd (upd (upd (upd (fun _ => .top) 2 (.ptr 2 0)) 3 (.ptr 3 0)) 4 (.ptr 4 0)) 5 (.ptr 5 0)) 6 .nil
theorem slotC_ids : ∀ t, ∀ j ∈ (slotC t).ids, j ≤ 5 := by
  intro t j hj
  unfold slotC upd at hj
  repeat' (split at hj)
  all_goals (simp [A.ids] at hj)
  all_goals omega
theorem fits_of {y : Method} {l : List Method} : (idxB (methB y.name) l < 0 → fitsB y l = true) ∧ ∀ o, l[(idxB (methB y.name) l).toNat]? = some o → 0 ≤ idxB (methB y.name) l → fitsB y l = alikeB y o := by
  obtain ⟨h1, h2⟩ := idx_find (methB y.name) l
  refine ⟨fun h => ?_, fun o ho h => ?_⟩
  · unfold fitsB; rw [h1 h]
  · unfold fitsB; rw [← h2 h, ho]
set_option maxHeartbeats 4000000 in
theorem class_ok (cs : List Class) (mn : C) (c : Class) (hS : SmallC cs) (hlen : cs.length ≤ 16) (hc : c ∈ cs) (m : Mem) : COk Try.prog 17 [.agg [.sl (cs.map cClass), mn], .agg (cClass c)] m (.c (.bool (okClassB cs c))) := by
  refine (ok_pureM tab_ok Try.func17 (by kernel_rfl) rfl rfl (by rfl) (by rfl) (by rfl) (fun R hkeep => ?_) m)
  repeat (first | refine W.seq ?_ | refine W.block ?_ | refine W.skip ?_ | refine W.exit ?_ | refine W.region tab_ok 0 (by decide) (exec_run (by simp only [exa, beq_self_eq_true, ByteArray.size, Nat.reduceAdd, Nat.reduceLeDiff, Nat.reduceEqDiff, Nat.reduceMul, Int.reduceToNat, reduceIte, Int.reduceLE, Int.reduceNeg, cClass]; rfl)) ?_)
  refine W.newRowBox true 5 0 50 9 1 rfl rfl rfl ?_
  repeat (first | refine W.seq ?_ | refine W.block ?_ | refine W.skip ?_ | refine W.exit ?_ | refine W.region tab_ok 0 (by decide) (exec_run (by simp only [exa, beq_self_eq_true, ByteArray.size, Nat.reduceAdd, Nat.reduceLeDiff, Nat.reduceEqDiff, Nat.reduceMul, Int.reduceToNat, reduceIte, Int.reduceLE, Int.reduceNeg, cClass]; rfl)) ?_)
  refine W.regionK tab_ok 0 (by decide) ?_
  refine runk_split 3 (by simp only [exa, beq_self_eq_true, ByteArray.size, Nat.reduceAdd, Nat.reduceLeDiff, Nat.reduceEqDiff, Nat.reduceMul, Int.reduceToNat, reduceIte, Int.reduceLE, Int.reduceNeg, cClass]; rfl) ?_
  refine runk_call0 rfl rfl rfl rfl rfl rfl (by simp) (cvs_cons cv_refl (cvs_cons cv_refl cvs_nil)) (up_ok (cs.map cClass) mn c.name _ 1000 1001 rfl rfl (by decide)) ?_
  refine runk_exec (by simp only [exa, beq_self_eq_true, ByteArray.size, Nat.reduceAdd, Nat.reduceLeDiff, Nat.reduceEqDiff, Nat.reduceMul, Int.reduceToNat, reduceIte, Int.reduceLE, Int.reduceNeg]; rfl) ?_
  repeat (first | refine W.seq ?_ | refine W.block ?_ | refine W.skip ?_ | refine W.exit ?_ | refine W.region tab_ok 0 (by decide) (exec_run (by simp only [exa, beq_self_eq_true, ByteArray.size, Nat.reduceAdd, Nat.reduceLeDiff, Nat.reduceEqDiff, Nat.reduceMul, Int.reduceToNat, reduceIte, Int.reduceLE, Int.reduceNeg]; rfl)) ?_)
  refine W.rangeUp cs c.name mn 1000 1001 1002 1003 slotC (fun k => memC cs mn c false (fieldsUp cs ((upX cs (cs.length + 1) 0 c.name).take k))) (fun k => ((upX cs (cs.length + 1) 0 c.name).take k).all (roundB cs c) = true) (by omega) rfl rfl rfl (by decide) rfl rfl (by decide) rfl rfl ?sle ?sn ?m0 ?good ?round ?done
  case sle =>
    unfold slotC
    (repeat (first | exact sle_top _ | exact sle_refl _ | refine sle_upd ?_ (by first | rfl | (simp only [upd_app, entry_zero, entry_succ, Nat.reduceEqDiff, reduceIte]; done))))
  case sn =>
    unfold slotC
    (repeat (first | exact sn_top | refine sn_upd ?_ (by decide)))
  case m0 =>
    refine mle_some ?_
    unfold memC
    (repeat (first | exact mle_nil _ | exact mle_refl _ | refine mle_upd ?_ (by first | rfl | (simp only [upd_app, killM_app, Nat.reduceEqDiff, reduceIte, List.take_zero, fieldsUp, List.flatMap_nil, List.map_nil, cClass, List.map_cons]; done))))
  case good =>
    intro k hk
    refine ⟨?_, rfl, rfl, rfl, rfl, ?_, kept_not hkeep⟩
    · unfold memC
      show MWf _ _
      (repeat (first | exact mwf_nil _ | refine mwf_upd ?_ (by simp [A.ids, O.ids, upd_app])))
    · show SWf _ _
      unfold memC slotC
      (repeat (first | exact swf_top _ | refine swf_upd ?_ (by simp [A.ids, upd_app])))
  case round =>
    intro R' l hk' k j kc x1 x2 xL hInv hitem hkc
    repeat (first | refine WI.seq ?_ | refine WI.block ?_ | refine WI.skip ?_ | refine WI.exit ?_ | refine WI.region tab_ok 0 (by decide) (by kernel_rfl) (exec_run (by simp only [exa, beq_self_eq_true, ByteArray.size, Nat.reduceAdd, Nat.reduceLeDiff, Nat.reduceEqDiff, Nat.reduceMul, Int.reduceToNat, reduceIte, Int.reduceLE, Int.reduceNeg, fullM, memC, slotC, cClass]; rfl)) ?_)
    refine ⟨rfl, fun xL' => ?_⟩
    have hkl : k < 17 + 1 := by
      have := (List.getElem?_eq_some_iff.1 hitem).1
      have := upX_len cs (cs.length + 1) 0 c.name
      omega
    have hkU : k < (upX cs (cs.length + 1) 0 c.name).length := (List.getElem?_eq_some_iff.1 hitem).1
    -- a round that says no
    have bad : roundB cs c (k, j) = false → okClassB cs c = false := fun h => by
      unfold okClassB
      have : (upX cs (cs.length + 1) 0 c.name).all (roundB cs c) = false := by
        rw [List.all_eq_false]
        exact ⟨(k, j), List.mem_of_getElem? hitem, by rw [h]; decide⟩
      rw [this]; simp
    have hG : ∀ l, GoodM R.keep slotC 1000 1001 1002 1003 (memC cs mn c false l) := fun l => by
      refine ⟨?_, rfl, rfl, rfl, rfl, ?_, kept_not hkeep⟩
      · unfold memC
        show MWf _ _
        (repeat (first | exact mwf_nil _ | refine mwf_upd ?_ (by simp [A.ids, O.ids, upd_app])))
      · show SWf _ _
        unfold memC slotC
        (repeat (first | exact swf_top _ | refine swf_upd ?_ (by simp [A.ids, upd_app])))
    by_cases hkn : k = cs.length
    · subst hkn
      repeat (first | refine WI.seq ?_ | refine WI.block ?_ | refine WI.skip ?_ | refine WI.exit ?_ | refine WI.region tab_ok 0 (by decide) (by kernel_rfl) (exec_run (by simp only [exa, beq_self_eq_true, ByteArray.size, Nat.reduceAdd, Nat.reduceLeDiff, Nat.reduceEqDiff, Nat.reduceMul, Int.reduceToNat, reduceIte, Int.reduceLE, Int.reduceNeg, fullM, memC, slotC, cClass]; rfl)) ?_)
      refine WI.cond rfl (fun _ => ?_) (fun h => by cases h)
      repeat (first | refine WI.seq ?_ | refine WI.block ?_ | refine WI.skip ?_ | refine WI.exit ?_ | refine WI.region tab_ok 0 (by decide) (by kernel_rfl) (exec_run (by simp only [exa, beq_self_eq_true, ByteArray.size, Nat.reduceAdd, Nat.reduceLeDiff, Nat.reduceEqDiff, Nat.reduceMul, Int.reduceToNat, reduceIte, Int.reduceLE, Int.reduceNeg, fullM, memC, slotC, cClass]; rfl)) ?_)
      refine WI.ret ⟨fun j => j, memC cs mn c false (fieldsUp cs ((upX cs (cs.length + 1) 0 c.name).take cs.length)), Le.toT ?_, hG _, fun b => ⟨.inr rfl, .inr ⟨b, 1002, rfl, rfl, rfl, ?_⟩⟩⟩
      · simp only [fullM, memC]
        refine le_mk ?sle ?mle ?swf ?mwf (fun j hj => fullM_keep (hG _) hj) (by rfl)
        case swf => repeat (first | exact swf_top _ | refine swf_upd ?_ (by simp [A.ids, upd_app, cClass]))
        case mwf => repeat (first | exact mwf_nil _ | refine mwf_upd ?_ (by simp [A.ids, O.ids, upd_app, cClass]))
        case mle => repeat (first | exact mle_nil _ | exact mle_refl _ | refine mle_upd ?_ (by first | rfl | (simp only [upd_app, killM_app, O.kill, A.kill, Nat.reduceEqDiff, reduceIte, Option.map_some, Option.map_none, List.map_cons, List.map_nil, cClass]; done)))
        case sle => repeat (first | exact sle_top _ | exact sle_refl _ | refine sle_upd ?_ (by first | rfl | (simp only [upd_app, killS_app, A.kill, entry_zero, entry_succ, Nat.reduceEqDiff, reduceIte, cClass]; done)))
      · simp only [Try.f17, resA, resOne, toT, fin, doneS, doneM, DID, exa, beq_self_eq_true, ByteArray.size, Nat.reduceAdd, Nat.reduceLeDiff, Nat.reduceEqDiff, Nat.reduceMul, Int.reduceToNat, reduceIte, Int.reduceLE, Int.reduceNeg, memC, slotC]
        rw [bad (by rw [roundB_at hkc]; simp [topB])]
    have hkn' : decide ((k : Int) = (cs.length : Int)) = false := by simp; omega
    have hF : List.map cStr (fieldsUp cs ((upX cs (cs.length + 1) 0 c.name).take k)) ++ List.map cStr (namesL kc.fields) = List.map cStr (fieldsUp cs ((upX cs (cs.length + 1) 0 c.name).take (k + 1))) := by
      rw [List.take_add_one, hitem]
      simp only [Option.toList_some]
      rw [fieldsUp_snoc hkc, List.map_append]
    have hn50 : ¬ R'.keep 50 := fun h => by
      rw [hk', hkeep] at h
      rcases h with h | ⟨t, h⟩ | h
      · exact h
      · have := slotC_ids t 50 h; omega
      · omega
    -- a method that does not fit
    have bad2 : ∀ y ∈ c.methods, fitsB y kc.methods = false → okClassB cs c = false := fun y hy h => bad (by
      rw [roundB_at hkc]
      unfold topB
      have : (c.methods.all fun y => fitsB y kc.methods) = false := by
        rw [List.all_eq_false]
        exact ⟨y, hy, by rw [h]; decide⟩
      rw [this]; simp)
    have hkeepL : ∀ j, R'.keep j → (upd (fullM (memC cs mn c false (fieldsUp cs ((upX cs (cs.length + 1) 0 c.name).take (k + 1)))) 1000 1001 1002 1003 x1 x2 xL') 8 (some (.box 41 ((cClass kc).map A.c))) j).isSome = true := fun j hj => by
      rw [hk'] at hj
      unfold upd
      split
      · rfl
      · exact fullM_keep (hG _) hj
    have goodR : (kc.super.toList.isEmpty || cs.any (namedB kc.super)) = true → (c.methods.all fun y => fitsB y kc.methods) = true → ((upX cs (cs.length + 1) 0 c.name).take (k + 1)).all (roundB cs c) = true := fun h1 h2 => by
      rw [List.take_add_one, hitem, List.all_append, hInv]
      simp only [Option.toList_some, List.all_cons, List.all_nil, Bool.and_true, Bool.true_and]
      rw [roundB_at hkc]
      unfold topB
      rw [h1, h2]
      simp; exact hkn
    by_cases hse : kc.super.toList = []
    · have hse' : (kc.super.toList == []) = true := by simp [hse]
      have good := goodR (by rw [hse]; rfl)
      repeat (first | refine WI.seq ?_ | refine WI.block ?_ | refine WI.skip ?_ | refine WI.exit ?_ | refine WI.region tab_ok 0 (by decide) (by kernel_rfl) (exec_run (by simp only [exa, beq_self_eq_true, ByteArray.size, Nat.reduceAdd, Nat.reduceLeDiff, Nat.reduceEqDiff, Nat.reduceMul, Int.reduceToNat, reduceIte, Int.reduceLE, Int.reduceNeg, fullM, memC, slotC, cClass, hkn', hse']; rfl)) ?_)
      refine WI.cond rfl (fun h => by cases h) (fun _ => ?_)
      repeat (first | refine WI.seq ?_ | refine WI.block ?_ | refine WI.skip ?_ | refine WI.exit ?_ | refine WI.region tab_ok 0 (by decide) (by kernel_rfl) (exec_run (by simp only [exa, beq_self_eq_true, ByteArray.size, Nat.reduceAdd, Nat.reduceLeDiff, Nat.reduceEqDiff, Nat.reduceMul, Int.reduceToNat, reduceIte, Int.reduceLE, Int.reduceNeg, fullM, memC, slotC, cClass]; rfl)) ?_)
      refine WI.regionDK tab_ok 0 follows_mixed (by kernel_rfl) (by decide) (by kernel_rfl) ?_
      refine runk_split 3 (by simp only [exa, beq_self_eq_true, ByteArray.size, Nat.reduceAdd, Nat.reduceLeDiff, Nat.reduceEqDiff, Nat.reduceMul, Int.reduceToNat, reduceIte, Int.reduceLE, Int.reduceNeg, fullM, memC, slotC, cClass]; rfl) ?_
      refine runk_call rfl rfl rfl rfl rfl (by simp) (cvs_cons cv_refl cvs_nil) (namesS_ok kc.fields (by have := (hS kc (List.mem_of_getElem? hkc)).1; omega) _) ?_
      refine runk_split 0 (by simp only [exa, beq_self_eq_true, ByteArray.size, Nat.reduceAdd, Nat.reduceLeDiff, Nat.reduceEqDiff, Nat.reduceMul, Int.reduceToNat, reduceIte, Int.reduceLE, Int.reduceNeg, fullM, memC, slotC]; rfl) ?_
      refine runk_append tab_ok 50 rfl rfl rfl rfl rfl rfl rfl rfl (by first | rfl | (simp only [exa, beq_self_eq_true, ByteArray.size, Nat.reduceAdd, Nat.reduceLeDiff, Nat.reduceEqDiff, Nat.reduceMul, Int.reduceToNat, reduceIte, Int.reduceLE, Int.reduceNeg, fullM, memC, slotC]; rfl)) rfl rfl rfl rfl hn50 (by simp [cStr]) (by have h1 := (hS kc (List.mem_of_getElem? hkc)).1; have h2 := fieldsUp_len hS ((upX cs (cs.length + 1) 0 c.name).take k); have h3 := List.length_take_le k (upX cs (cs.length + 1) 0 c.name); simp only [List.length_map, namesL]; omega) (by decide) ?_
      refine runk_exec (by simp only [exa, beq_self_eq_true, ByteArray.size, Nat.reduceAdd, Nat.reduceLeDiff, Nat.reduceEqDiff, Nat.reduceMul, Int.reduceToNat, reduceIte, Int.reduceLE, Int.reduceNeg, fullM, memC, slotC]; rfl) ?_
      repeat (first | refine WI.seq ?_ | refine WI.block ?_ | refine WI.skip ?_ | refine WI.exit ?_ | refine WI.region tab_ok 0 (by decide) (by kernel_rfl) (exec_run (by simp only [exa, beq_self_eq_true, ByteArray.size, Nat.reduceAdd, Nat.reduceLeDiff, Nat.reduceEqDiff, Nat.reduceMul, Int.reduceToNat, reduceIte, Int.reduceLE, Int.reduceNeg, fullM, memC, slotC, cClass]; rfl)) ?_)
      refine WI.loop (ι := Nat) (fun q => ⟨upd (upd (upd (upd (upd (fun _ => .top) 4 (.ptr 4 0)) 8 (.ptr 8 0)) 43 (.c (.sl (c.methods.map cMethod)))) 44 (.c (.int .i64 c.methods.length))) 45 (.c (.int .i64 q)),
        upd (fullM (memC cs mn c false (fieldsUp cs ((upX cs (cs.length + 1) 0 c.name).take (k + 1)))) 1000 1001 1002 1003 x1 x2 xL') 8 (some (.box 41 ((cClass kc).map A.c)))⟩) (fun q => q ≤ c.methods.length ∧ (c.methods.take q).all (fun y => fitsB y kc.methods) = true) (fun q => c.methods.length - q) 0 ?start ⟨Nat.zero_le _, rfl⟩ ?round
      case start =>
        simp only [fullM, memC]
        refine le_mk ?sle ?mle ?swf ?mwf hkeepL (by rfl)
        case swf => repeat (first | exact swf_top _ | refine swf_upd ?_ (by simp [A.ids, upd_app, cClass, hF, fullM, memC]))
        case mwf => repeat (first | exact mwf_nil _ | refine mwf_upd ?_ (by simp [A.ids, O.ids, upd_app, cClass, hF, fullM, memC]))
        case mle => repeat (first | exact mle_nil _ | exact mle_refl _ | refine mle_upd ?_ (by first | rfl | (simp only [upd_app, killM_app, O.kill, A.kill, Nat.reduceEqDiff, reduceIte, Option.map_some, Option.map_none, List.map_cons, List.map_nil, cClass, hF, fullM, memC]; done)))
        case sle => repeat (first | exact sle_top _ | exact sle_refl _ | refine sle_upd ?_ (by first | rfl | (simp only [upd_app, killS_app, A.kill, entry_zero, entry_succ, Nat.reduceEqDiff, reduceIte, cClass, hF, fullM, memC]; done)))
      case round =>
        rintro q ⟨hq, hfit⟩
        repeat (first | refine WI.seq ?_ | refine WI.block ?_ | refine WI.skip ?_ | refine WI.exit ?_ | refine WI.region tab_ok 0 (by decide) (by kernel_rfl) (exec_run (by simp only [exa, beq_self_eq_true, ByteArray.size, Nat.reduceAdd, Nat.reduceLeDiff, Nat.reduceEqDiff, Nat.reduceMul, Int.reduceToNat, reduceIte, Int.reduceLE, Int.reduceNeg, fullM, memC, slotC, cClass]; rfl)) ?_)
        refine WI.cond rfl ?_ ?_
        · intro hlt
          simp only [decide_eq_true_eq, Int.ofNat_lt] at hlt
          obtain ⟨y, hy⟩ : ∃ y, c.methods[q]? = some y := ⟨_, List.getElem?_eq_getElem hlt⟩
          repeat (first | refine WI.seq ?_ | refine WI.block ?_ | refine WI.skip ?_ | refine WI.exit ?_ | refine WI.region tab_ok 0 (by decide) (by kernel_rfl) (exec_run (by simp only [exa, beq_self_eq_true, ByteArray.size, Nat.reduceAdd, Nat.reduceLeDiff, Nat.reduceEqDiff, Nat.reduceMul, Int.reduceToNat, reduceIte, Int.reduceLE, Int.reduceNeg, fullM, memC, slotC, cClass, at_map hy, cMethod]; rfl)) ?_)
          refine WI.regionK tab_ok 0 (by decide) (by kernel_rfl) ?_
          refine runk_split 3 (by simp only [exa, beq_self_eq_true, ByteArray.size, Nat.reduceAdd, Nat.reduceLeDiff, Nat.reduceEqDiff, Nat.reduceMul, Int.reduceToNat, reduceIte, Int.reduceLE, Int.reduceNeg, fullM, memC, slotC, cClass]; rfl) ?_
          refine runk_callR rfl rfl rfl rfl rfl (by simp) (cvrs_cons cvr_refl (cvrs_cons (cvr_fn (caps_one rfl rfl)) cvrs_nil)) (by rfl) (by rfl) (idxMethod_ok kc.methods 39 [cMethod y] (methB y.name) (by have := (hS kc (List.mem_of_getElem? hkc)).2.1; omega) (fun o _ m => class2_ok o y m)) ?_
          refine runk_exec (by simp only [exa, beq_self_eq_true, ByteArray.size, Nat.reduceAdd, Nat.reduceLeDiff, Nat.reduceEqDiff, Nat.reduceMul, Int.reduceToNat, reduceIte, Int.reduceLE, Int.reduceNeg, fullM, memC, slotC, cClass]; rfl) ?_
          obtain ⟨hf1, hf2⟩ := fits_of (y := y) (l := kc.methods)
          by_cases hneg : idxB (methB y.name) kc.methods < 0
          · have hd : decide ((0 : Int) ≤ idxB (methB y.name) kc.methods) = false := by simp; omega
            refine WI.seq ?_
            refine WI.regionDK tab_ok 0 follows_mixed (by kernel_rfl) (by decide) (by kernel_rfl) ?_
            refine runk_exec (by simp only [exa, beq_self_eq_true, ByteArray.size, Nat.reduceAdd, Nat.reduceLeDiff, Nat.reduceEqDiff, Nat.reduceMul, Int.reduceToNat, reduceIte, Int.reduceLE, Int.reduceNeg, fullM, memC, slotC, cClass, hd]; rfl) ?_
            refine WI.cond rfl (fun h => by cases h) (fun _ => ?_)
            repeat (first | refine WI.seq ?_ | refine WI.block ?_ | refine WI.skip ?_ | refine WI.exit ?_ | refine WI.region tab_ok 0 (by decide) (by kernel_rfl) (exec_run (by simp only [exa, beq_self_eq_true, ByteArray.size, Nat.reduceAdd, Nat.reduceLeDiff, Nat.reduceEqDiff, Nat.reduceMul, Int.reduceToNat, reduceIte, Int.reduceLE, Int.reduceNeg, fullM, memC, slotC, cClass]; rfl)) ?_)
            refine ⟨q + 1, ⟨hlt, ?_⟩, by omega, ?_⟩
            · rw [List.take_add_one, hy, List.all_append, hfit]; simp [hf1 hneg]
            simp only [fullM, memC]
            refine le_mk ?sle ?mle ?swf ?mwf hkeepL (by rfl)
            case swf => repeat (first | exact swf_top _ | refine swf_upd ?_ (by simp [A.ids, upd_app, cClass, fullM, memC, wrap_succ (show q + 1 < 9223372036854775808 by have := (hS c hc).2.1; omega)]))
            case mwf => repeat (first | exact mwf_nil _ | refine mwf_upd ?_ (by simp [A.ids, O.ids, upd_app, cClass, fullM, memC, wrap_succ (show q + 1 < 9223372036854775808 by have := (hS c hc).2.1; omega)]))
            case mle => repeat (first | exact mle_nil _ | exact mle_refl _ | refine mle_upd ?_ (by first | rfl | (simp only [upd_app, killM_app, O.kill, A.kill, Nat.reduceEqDiff, reduceIte, Option.map_some, Option.map_none, List.map_cons, List.map_nil, cClass, fullM, memC, wrap_succ (show q + 1 < 9223372036854775808 by have := (hS c hc).2.1; omega)]; done)))
            case sle => repeat (first | exact sle_top _ | exact sle_refl _ | refine sle_upd ?_ (by first | rfl | (simp only [upd_app, killS_app, A.kill, entry_zero, entry_succ, Nat.reduceEqDiff, reduceIte, cClass, fullM, memC, wrap_succ (show q + 1 < 9223372036854775808 by have := (hS c hc).2.1; omega)]; done)))
          · have hge : (0 : Int) ≤ idxB (methB y.name) kc.methods := by omega
            have hd : decide ((0 : Int) ≤ idxB (methB y.name) kc.methods) = true := by simp; omega
            obtain ⟨o, ho⟩ : ∃ o, kc.methods[(idxB (methB y.name) kc.methods).toNat]? = some o := by
              obtain ⟨o, ho, -⟩ := idxB_spec (methB y.name) kc.methods hge
              exact ⟨o, ho⟩
            refine WI.seq ?_
            refine WI.regionDK tab_ok 0 follows_mixed (by kernel_rfl) (by decide) (by kernel_rfl) ?_
            refine runk_split 9 (by simp only [exa, beq_self_eq_true, ByteArray.size, Nat.reduceAdd, Nat.reduceLeDiff, Nat.reduceEqDiff, Nat.reduceMul, Int.reduceToNat, reduceIte, Int.reduceLE, Int.reduceNeg, fullM, memC, slotC, cClass, hd, hge, at_map ho, cMethod]; rfl) ?_
            refine runk_call rfl rfl rfl rfl rfl (by simp) (cvs_cons cv_refl (cvs_cons cv_refl cvs_nil)) (alike_ok y o _) ?_
            refine runk_exec (by simp only [exa, beq_self_eq_true, ByteArray.size, Nat.reduceAdd, Nat.reduceLeDiff, Nat.reduceEqDiff, Nat.reduceMul, Int.reduceToNat, reduceIte, Int.reduceLE, Int.reduceNeg, fullM, memC, slotC, cClass]; rfl) ?_
            refine WI.cond rfl ?_ ?_
            · intro hal
              repeat (first | refine WI.seq ?_ | refine WI.block ?_ | refine WI.skip ?_ | refine WI.exit ?_ | refine WI.region tab_ok 0 (by decide) (by kernel_rfl) (exec_run (by simp only [exa, beq_self_eq_true, ByteArray.size, Nat.reduceAdd, Nat.reduceLeDiff, Nat.reduceEqDiff, Nat.reduceMul, Int.reduceToNat, reduceIte, Int.reduceLE, Int.reduceNeg, fullM, memC, slotC, cClass]; rfl)) ?_)
              refine WI.ret ⟨fun j => j, memC cs mn c false (fieldsUp cs ((upX cs (cs.length + 1) 0 c.name).take (k + 1))), Le.toT ?_, hG _, fun b => ⟨.inr rfl, .inr ⟨b, 1002, rfl, rfl, rfl, ?_⟩⟩⟩
              · simp only [fullM, memC]
                refine le_mk ?sle ?mle ?swf ?mwf (fun j hj => fullM_keep (hG _) hj) (by rfl)
                case swf => repeat (first | exact swf_top _ | refine swf_upd ?_ (by simp [A.ids, upd_app, cClass, fullM, memC]))
                case mwf => repeat (first | exact mwf_nil _ | refine mwf_upd ?_ (by simp [A.ids, O.ids, upd_app, cClass, fullM, memC]))
                case mle => repeat (first | exact mle_nil _ | exact mle_refl _ | refine mle_upd ?_ (by first | rfl | (simp only [upd_app, killM_app, O.kill, A.kill, Nat.reduceEqDiff, reduceIte, Option.map_some, Option.map_none, List.map_cons, List.map_nil, cClass, fullM, memC]; done)))
                case sle => repeat (first | exact sle_top _ | exact sle_refl _ | refine sle_upd ?_ (by first | rfl | (simp only [upd_app, killS_app, A.kill, entry_zero, entry_succ, Nat.reduceEqDiff, reduceIte, cClass, fullM, memC]; done)))
              · simp only [Try.f17, resA, resOne, toT, fin, doneS, doneM, DID, exa, beq_self_eq_true, ByteArray.size, Nat.reduceAdd, Nat.reduceLeDiff, Nat.reduceEqDiff, Nat.reduceMul, Int.reduceToNat, reduceIte, Int.reduceLE, Int.reduceNeg, memC, slotC]
                rw [bad2 y (List.mem_of_getElem? hy) (by rw [hf2 o ho hge]; simpa using hal)]
            · intro hal
              repeat (first | refine WI.seq ?_ | refine WI.block ?_ | refine WI.skip ?_ | refine WI.exit ?_ | refine WI.region tab_ok 0 (by decide) (by kernel_rfl) (exec_run (by simp only [exa, beq_self_eq_true, ByteArray.size, Nat.reduceAdd, Nat.reduceLeDiff, Nat.reduceEqDiff, Nat.reduceMul, Int.reduceToNat, reduceIte, Int.reduceLE, Int.reduceNeg, fullM, memC, slotC, cClass]; rfl)) ?_)
              refine ⟨q + 1, ⟨hlt, ?_⟩, by omega, ?_⟩
              · rw [List.take_add_one, hy, List.all_append, hfit]; simp [hf2 o ho hge]; simpa using hal
              simp only [fullM, memC]
              refine le_mk ?sle ?mle ?swf ?mwf hkeepL (by rfl)
              case swf => repeat (first | exact swf_top _ | refine swf_upd ?_ (by simp [A.ids, upd_app, cClass, fullM, memC, wrap_succ (show q + 1 < 9223372036854775808 by have := (hS c hc).2.1; omega)]))
              case mwf => repeat (first | exact mwf_nil _ | refine mwf_upd ?_ (by simp [A.ids, O.ids, upd_app, cClass, fullM, memC, wrap_succ (show q + 1 < 9223372036854775808 by have := (hS c hc).2.1; omega)]))
              case mle => repeat (first | exact mle_nil _ | exact mle_refl _ | refine mle_upd ?_ (by first | rfl | (simp only [upd_app, killM_app, O.kill, A.kill, Nat.reduceEqDiff, reduceIte, Option.map_some, Option.map_none, List.map_cons, List.map_nil, cClass, fullM, memC, wrap_succ (show q + 1 < 9223372036854775808 by have := (hS c hc).2.1; omega)]; done)))
              case sle => repeat (first | exact sle_top _ | exact sle_refl _ | refine sle_upd ?_ (by first | rfl | (simp only [upd_app, killS_app, A.kill, entry_zero, entry_succ, Nat.reduceEqDiff, reduceIte, cClass, fullM, memC, wrap_succ (show q + 1 < 9223372036854775808 by have := (hS c hc).2.1; omega)]; done)))
        · intro hge
          simp only [decide_eq_false_iff_not, Int.ofNat_lt] at hge
          obtain rfl : q = c.methods.length := by omega
          repeat (first | refine WI.seq ?_ | refine WI.block ?_ | refine WI.skip ?_ | refine WI.exit ?_ | refine WI.region tab_ok 0 (by decide) (by kernel_rfl) (exec_run (by simp only [exa, beq_self_eq_true, ByteArray.size, Nat.reduceAdd, Nat.reduceLeDiff, Nat.reduceEqDiff, Nat.reduceMul, Int.reduceToNat, reduceIte, Int.reduceLE, Int.reduceNeg, fullM, memC, slotC, cClass]; rfl)) ?_)
          rw [List.take_length] at hfit
          refine ⟨good hfit, fun j => j, Le.toT ?_⟩
          simp only [fullM, memC]
          refine le_mk ?sle ?mle ?swf ?mwf (fun j hj => fullM_keep (hG _) hj) (by rfl)
          case swf => repeat (first | exact swf_top _ | refine swf_upd ?_ (by simp [A.ids, upd_app, cClass, fullM, memC]))
          case mwf => repeat (first | exact mwf_nil _ | refine mwf_upd ?_ (by simp [A.ids, O.ids, upd_app, cClass, fullM, memC]))
          case mle => repeat (first | exact mle_nil _ | exact mle_refl _ | refine mle_upd ?_ (by first | rfl | (simp only [upd_app, killM_app, O.kill, A.kill, Nat.reduceEqDiff, reduceIte, Option.map_some, Option.map_none, List.map_cons, List.map_nil, cClass, fullM, memC]; done)))
          case sle => repeat (first | exact sle_top _ | exact sle_refl _ | refine sle_upd ?_ (by first | rfl | (simp only [upd_app, killS_app, A.kill, entry_zero, entry_succ, Nat.reduceEqDiff, reduceIte, cClass, fullM, memC]; done)))
    · have hse' : (kc.super.toList == []) = false := by simp [hse]
      repeat (first | refine WI.seq ?_ | refine WI.block ?_ | refine WI.skip ?_ | refine WI.exit ?_ | refine WI.region tab_ok 0 (by decide) (by kernel_rfl) (exec_run (by simp only [exa, beq_self_eq_true, ByteArray.size, Nat.reduceAdd, Nat.reduceLeDiff, Nat.reduceEqDiff, Nat.reduceMul, Int.reduceToNat, reduceIte, Int.reduceLE, Int.reduceNeg, fullM, memC, slotC, cClass, hkn', hse']; rfl)) ?_)
      refine WI.regionK tab_ok 0 (by decide) (by kernel_rfl) ?_
      refine runk_split 13 (by simp only [exa, beq_self_eq_true, ByteArray.size, Nat.reduceAdd, Nat.reduceLeDiff, Nat.reduceEqDiff, Nat.reduceMul, Int.reduceToNat, reduceIte, Int.reduceLE, Int.reduceNeg, fullM, memC, slotC, cClass, hkn', hse']; rfl) ?_
      refine runk_callR rfl rfl rfl rfl rfl (by simp) (cvrs_cons cvr_refl (cvrs_cons (cvr_fn (caps_one rfl rfl)) cvrs_nil)) (by rfl) (by rfl) (anyClass_ok cs 36 [cClass kc] (namedB kc.super) (by omega) (fun x _ m => class1_ok x kc m)) ?_
      refine runk_exec (by simp only [exa, beq_self_eq_true, ByteArray.size, Nat.reduceAdd, Nat.reduceLeDiff, Nat.reduceEqDiff, Nat.reduceMul, Int.reduceToNat, reduceIte, Int.reduceLE, Int.reduceNeg, fullM, memC, slotC, cClass]; rfl) ?_
      refine WI.cond rfl ?_ ?_
      · intro hal
        repeat (first | refine WI.seq ?_ | refine WI.block ?_ | refine WI.skip ?_ | refine WI.exit ?_ | refine WI.region tab_ok 0 (by decide) (by kernel_rfl) (exec_run (by simp only [exa, beq_self_eq_true, ByteArray.size, Nat.reduceAdd, Nat.reduceLeDiff, Nat.reduceEqDiff, Nat.reduceMul, Int.reduceToNat, reduceIte, Int.reduceLE, Int.reduceNeg, fullM, memC, slotC, cClass]; rfl)) ?_)
        refine WI.ret ⟨fun j => j, memC cs mn c false (fieldsUp cs ((upX cs (cs.length + 1) 0 c.name).take k)), Le.toT ?_, hG _, fun b => ⟨.inr rfl, .inr ⟨b, 1002, rfl, rfl, rfl, ?_⟩⟩⟩
        · simp only [fullM, memC]
          refine le_mk ?sle ?mle ?swf ?mwf (fun j hj => fullM_keep (hG _) hj) (by rfl)
          case swf => repeat (first | exact swf_top _ | refine swf_upd ?_ (by simp [A.ids, upd_app, cClass, fullM, memC]))
          case mwf => repeat (first | exact mwf_nil _ | refine mwf_upd ?_ (by simp [A.ids, O.ids, upd_app, cClass, fullM, memC]))
          case mle => repeat (first | exact mle_nil _ | exact mle_refl _ | refine mle_upd ?_ (by first | rfl | (simp only [upd_app, killM_app, O.kill, A.kill, Nat.reduceEqDiff, reduceIte, Option.map_some, Option.map_none, List.map_cons, List.map_nil, cClass, fullM, memC]; done)))
          case sle => repeat (first | exact sle_top _ | exact sle_refl _ | refine sle_upd ?_ (by first | rfl | (simp only [upd_app, killS_app, A.kill, entry_zero, entry_succ, Nat.reduceEqDiff, reduceIte, cClass, fullM, memC]; done)))
        · simp only [Try.f17, resA, resOne, toT, fin, doneS, doneM, DID, exa, beq_self_eq_true, ByteArray.size, Nat.reduceAdd, Nat.reduceLeDiff, Nat.reduceEqDiff, Nat.reduceMul, Int.reduceToNat, reduceIte, Int.reduceLE, Int.reduceNeg, memC, slotC]
          rw [bad (by
            rw [roundB_at hkc]
            unfold topB
            have h1 : kc.super.toList.isEmpty = false := by cases h : kc.super.toList with | nil => exact absurd h hse | cons _ _ => rfl
            have h2 : cs.any (namedB kc.super) = false := by simpa using hal
            rw [h1, h2]; simp)]
      · intro hal
        have good := goodR (by
          have h2 : cs.any (namedB kc.super) = true := by simpa using hal
          rw [h2]; simp)
        repeat (first | refine WI.seq ?_ | refine WI.block ?_ | refine WI.skip ?_ | refine WI.exit ?_ | refine WI.region tab_ok 0 (by decide) (by kernel_rfl) (exec_run (by simp only [exa, beq_self_eq_true, ByteArray.size, Nat.reduceAdd, Nat.reduceLeDiff, Nat.reduceEqDiff, Nat.reduceMul, Int.reduceToNat, reduceIte, Int.reduceLE, Int.reduceNeg, fullM, memC, slotC, cClass]; rfl)) ?_)
        refine WI.regionDK tab_ok 0 follows_mixed (by kernel_rfl) (by decide) (by kernel_rfl) ?_
        refine runk_split 3 (by simp only [exa, beq_self_eq_true, ByteArray.size, Nat.reduceAdd, Nat.reduceLeDiff, Nat.reduceEqDiff, Nat.reduceMul, Int.reduceToNat, reduceIte, Int.reduceLE, Int.reduceNeg, fullM, memC, slotC, cClass]; rfl) ?_
        refine runk_call rfl rfl rfl rfl rfl (by simp) (cvs_cons cv_refl cvs_nil) (namesS_ok kc.fields (by have := (hS kc (List.mem_of_getElem? hkc)).1; omega) _) ?_
        refine runk_split 0 (by simp only [exa, beq_self_eq_true, ByteArray.size, Nat.reduceAdd, Nat.reduceLeDiff, Nat.reduceEqDiff, Nat.reduceMul, Int.reduceToNat, reduceIte, Int.reduceLE, Int.reduceNeg, fullM, memC, slotC]; rfl) ?_
        refine runk_append tab_ok 50 rfl rfl rfl rfl rfl rfl rfl rfl (by first | rfl | (simp only [exa, beq_self_eq_true, ByteArray.size, Nat.reduceAdd, Nat.reduceLeDiff, Nat.reduceEqDiff, Nat.reduceMul, Int.reduceToNat, reduceIte, Int.reduceLE, Int.reduceNeg, fullM, memC, slotC]; rfl)) rfl rfl rfl rfl hn50 (by simp [cStr]) (by have h1 := (hS kc (List.mem_of_getElem? hkc)).1; have h2 := fieldsUp_len hS ((upX cs (cs.length + 1) 0 c.name).take k); have h3 := List.length_take_le k (upX cs (cs.length + 1) 0 c.name); simp only [List.length_map, namesL]; omega) (by decide) ?_
        refine runk_exec (by simp only [exa, beq_self_eq_true, ByteArray.size, Nat.reduceAdd, Nat.reduceLeDiff, Nat.reduceEqDiff, Nat.reduceMul, Int.reduceToNat, reduceIte, Int.reduceLE, Int.reduceNeg, fullM, memC, slotC]; rfl) ?_
        repeat (first | refine WI.seq ?_ | refine WI.block ?_ | refine WI.skip ?_ | refine WI.exit ?_ | refine WI.region tab_ok 0 (by decide) (by kernel_rfl) (exec_run (by simp only [exa, beq_self_eq_true, ByteArray.size, Nat.reduceAdd, Nat.reduceLeDiff, Nat.reduceEqDiff, Nat.reduceMul, Int.reduceToNat, reduceIte, Int.reduceLE, Int.reduceNeg, fullM, memC, slotC, cClass]; rfl)) ?_)
        refine WI.loop (ι := Nat) (fun q => ⟨upd (upd (upd (upd (upd (fun _ => .top) 4 (.ptr 4 0)) 8 (.ptr 8 0)) 43 (.c (.sl (c.methods.map cMethod)))) 44 (.c (.int .i64 c.methods.length))) 45 (.c (.int .i64 q)),
          upd (fullM (memC cs mn c false (fieldsUp cs ((upX cs (cs.length + 1) 0 c.name).take (k + 1)))) 1000 1001 1002 1003 x1 x2 xL') 8 (some (.box 41 ((cClass kc).map A.c)))⟩) (fun q => q ≤ c.methods.length ∧ (c.methods.take q).all (fun y => fitsB y kc.methods) = true) (fun q => c.methods.length - q) 0 ?start ⟨Nat.zero_le _, rfl⟩ ?round
        case start =>
          simp only [fullM, memC]
          refine le_mk ?sle ?mle ?swf ?mwf hkeepL (by rfl)
          case swf => repeat (first | exact swf_top _ | refine swf_upd ?_ (by simp [A.ids, upd_app, cClass, hF, fullM, memC]))
          case mwf => repeat (first | exact mwf_nil _ | refine mwf_upd ?_ (by simp [A.ids, O.ids, upd_app, cClass, hF, fullM, memC]))
          case mle => repeat (first | exact mle_nil _ | exact mle_refl _ | refine mle_upd ?_ (by first | rfl | (simp only [upd_app, killM_app, O.kill, A.kill, Nat.reduceEqDiff, reduceIte, Option.map_some, Option.map_none, List.map_cons, List.map_nil, cClass, hF, fullM, memC]; done)))
          case sle => repeat (first | exact sle_top _ | exact sle_refl _ | refine sle_upd ?_ (by first | rfl | (simp only [upd_app, killS_app, A.kill, entry_zero, entry_succ, Nat.reduceEqDiff, reduceIte, cClass, hF, fullM, memC]; done)))
        case round =>
          rintro q ⟨hq, hfit⟩
          repeat (first | refine WI.seq ?_ | refine WI.block ?_ | refine WI.skip ?_ | refine WI.exit ?_ | refine WI.region tab_ok 0 (by decide) (by kernel_rfl) (exec_run (by simp only [exa, beq_self_eq_true, ByteArray.size, Nat.reduceAdd, Nat.reduceLeDiff, Nat.reduceEqDiff, Nat.reduceMul, Int.reduceToNat, reduceIte, Int.reduceLE, Int.reduceNeg, fullM, memC, slotC, cClass]; rfl)) ?_)
          refine WI.cond rfl ?_ ?_
          · intro hlt
            simp only [decide_eq_true_eq, Int.ofNat_lt] at hlt
            obtain ⟨y, hy⟩ : ∃ y, c.methods[q]? = some y := ⟨_, List.getElem?_eq_getElem hlt⟩
            repeat (first | refine WI.seq ?_ | refine WI.block ?_ | refine WI.skip ?_ | refine WI.exit ?_ | refine WI.region tab_ok 0 (by decide) (by kernel_rfl) (exec_run (by simp only [exa, beq_self_eq_true, ByteArray.size, Nat.reduceAdd, Nat.reduceLeDiff, Nat.reduceEqDiff, Nat.reduceMul, Int.reduceToNat, reduceIte, Int.reduceLE, Int.reduceNeg, fullM, memC, slotC, cClass, at_map hy, cMethod]; rfl)) ?_)
            refine WI.regionK tab_ok 0 (by decide) (by kernel_rfl) ?_
            refine runk_split 3 (by simp only [exa, beq_self_eq_true, ByteArray.size, Nat.reduceAdd, Nat.reduceLeDiff, Nat.reduceEqDiff, Nat.reduceMul, Int.reduceToNat, reduceIte, Int.reduceLE, Int.reduceNeg, fullM, memC, slotC, cClass]; rfl) ?_
            refine runk_callR rfl rfl rfl rfl rfl (by simp) (cvrs_cons cvr_refl (cvrs_cons (cvr_fn (caps_one rfl rfl)) cvrs_nil)) (by rfl) (by rfl) (idxMethod_ok kc.methods 39 [cMethod y] (methB y.name) (by have := (hS kc (List.mem_of_getElem? hkc)).2.1; omega) (fun o _ m => class2_ok o y m)) ?_
            refine runk_exec (by simp only [exa, beq_self_eq_true, ByteArray.size, Nat.reduceAdd, Nat.reduceLeDiff, Nat.reduceEqDiff, Nat.reduceMul, Int.reduceToNat, reduceIte, Int.reduceLE, Int.reduceNeg, fullM, memC, slotC, cClass]; rfl) ?_
            obtain ⟨hf1, hf2⟩ := fits_of (y := y) (l := kc.methods)
            by_cases hneg : idxB (methB y.name) kc.methods < 0
            · have hd : decide ((0 : Int) ≤ idxB (methB y.name) kc.methods) = false := by simp; omega
              refine WI.seq ?_
              refine WI.regionDK tab_ok 0 follows_mixed (by kernel_rfl) (by decide) (by kernel_rfl) ?_
              refine runk_exec (by simp only [exa, beq_self_eq_true, ByteArray.size, Nat.reduceAdd, Nat.reduceLeDiff, Nat.reduceEqDiff, Nat.reduceMul, Int.reduceToNat, reduceIte, Int.reduceLE, Int.reduceNeg, fullM, memC, slotC, cClass, hd]; rfl) ?_
              refine WI.cond rfl (fun h => by cases h) (fun _ => ?_)
              repeat (first | refine WI.seq ?_ | refine WI.block ?_ | refine WI.skip ?_ | refine WI.exit ?_ | refine WI.region tab_ok 0 (by decide) (by kernel_rfl) (exec_run (by simp only [exa, beq_self_eq_true, ByteArray.size, Nat.reduceAdd, Nat.reduceLeDiff, Nat.reduceEqDiff, Nat.reduceMul, Int.reduceToNat, reduceIte, Int.reduceLE, Int.reduceNeg, fullM, memC, slotC, cClass]; rfl)) ?_)
              refine ⟨q + 1, ⟨hlt, ?_⟩, by omega, ?_⟩
              · rw [List.take_add_one, hy, List.all_append, hfit]; simp [hf1 hneg]
              simp only [fullM, memC]
              refine le_mk ?sle ?mle ?swf ?mwf hkeepL (by rfl)
              case swf => repeat (first | exact swf_top _ | refine swf_upd ?_ (by simp [A.ids, upd_app, cClass, fullM, memC, wrap_succ (show q + 1 < 9223372036854775808 by have := (hS c hc).2.1; omega)]))
              case mwf => repeat (first | exact mwf_nil _ | refine mwf_upd ?_ (by simp [A.ids, O.ids, upd_app, cClass, fullM, memC, wrap_succ (show q + 1 < 9223372036854775808 by have := (hS c hc).2.1; omega)]))
              case mle => repeat (first | exact mle_nil _ | exact mle_refl _ | refine mle_upd ?_ (by first | rfl | (simp only [upd_app, killM_app, O.kill, A.kill, Nat.reduceEqDiff, reduceIte, Option.map_some, Option.map_none, List.map_cons, List.map_nil, cClass, fullM, memC, wrap_succ (show q + 1 < 9223372036854775808 by have := (hS c hc).2.1; omega)]; done)))
              case sle => repeat (first | exact sle_top _ | exact sle_refl _ | refine sle_upd ?_ (by first | rfl | (simp only [upd_app, killS_app, A.kill, entry_zero, entry_succ, Nat.reduceEqDiff, reduceIte, cClass, fullM, memC, wrap_succ (show q + 1 < 9223372036854775808 by have := (hS c hc).2.1; omega)]; done)))
            · have hge : (0 : Int) ≤ idxB (methB y.name) kc.methods := by omega
              have hd : decide ((0 : Int) ≤ idxB (methB y.name) kc.methods) = true := by simp; omega
              obtain ⟨o, ho⟩ : ∃ o, kc.methods[(idxB (methB y.name) kc.methods).toNat]? = some o := by
                obtain ⟨o, ho, -⟩ := idxB_spec (methB y.name) kc.methods hge
                exact ⟨o, ho⟩
              refine WI.seq ?_
              refine WI.regionDK tab_ok 0 follows_mixed (by kernel_rfl) (by decide) (by kernel_rfl) ?_
              refine runk_split 9 (by simp only [exa, beq_self_eq_true, ByteArray.size, Nat.reduceAdd, Nat.reduceLeDiff, Nat.reduceEqDiff, Nat.reduceMul, Int.reduceToNat, reduceIte, Int.reduceLE, Int.reduceNeg, fullM, memC, slotC, cClass, hd, hge, at_map ho, cMethod]; rfl) ?_
              refine runk_call rfl rfl rfl rfl rfl (by simp) (cvs_cons cv_refl (cvs_cons cv_refl cvs_nil)) (alike_ok y o _) ?_
              refine runk_exec (by simp only [exa, beq_self_eq_true, ByteArray.size, Nat.reduceAdd, Nat.reduceLeDiff, Nat.reduceEqDiff, Nat.reduceMul, Int.reduceToNat, reduceIte, Int.reduceLE, Int.reduceNeg, fullM, memC, slotC, cClass]; rfl) ?_
              refine WI.cond rfl ?_ ?_
              · intro hal
                repeat (first | refine WI.seq ?_ | refine WI.block ?_ | refine WI.skip ?_ | refine WI.exit ?_ | refine WI.region tab_ok 0 (by decide) (by kernel_rfl) (exec_run (by simp only [exa, beq_self_eq_true, ByteArray.size, Nat.reduceAdd, Nat.reduceLeDiff, Nat.reduceEqDiff, Nat.reduceMul, Int.reduceToNat, reduceIte, Int.reduceLE, Int.reduceNeg, fullM, memC, slotC, cClass]; rfl)) ?_)
                refine WI.ret ⟨fun j => j, memC cs mn c false (fieldsUp cs ((upX cs (cs.length + 1) 0 c.name).take (k + 1))), Le.toT ?_, hG _, fun b => ⟨.inr rfl, .inr ⟨b, 1002, rfl, rfl, rfl, ?_⟩⟩⟩
                · simp only [fullM, memC]
                  refine le_mk ?sle ?mle ?swf ?mwf (fun j hj => fullM_keep (hG _) hj) (by rfl)
                  case swf => repeat (first | exact swf_top _ | refine swf_upd ?_ (by simp [A.ids, upd_app, cClass, fullM, memC]))
                  case mwf => repeat (first | exact mwf_nil _ | refine mwf_upd ?_ (by simp [A.ids, O.ids, upd_app, cClass, fullM, memC]))
                  case mle => repeat (first | exact mle_nil _ | exact mle_refl _ | refine mle_upd ?_ (by first | rfl | (simp only [upd_app, killM_app, O.kill, A.kill, Nat.reduceEqDiff, reduceIte, Option.map_some, Option.map_none, List.map_cons, List.map_nil, cClass, fullM, memC]; done)))
                  case sle => repeat (first | exact sle_top _ | exact sle_refl _ | refine sle_upd ?_ (by first | rfl | (simp only [upd_app, killS_app, A.kill, entry_zero, entry_succ, Nat.reduceEqDiff, reduceIte, cClass, fullM, memC]; done)))
                · simp only [Try.f17, resA, resOne, toT, fin, doneS, doneM, DID, exa, beq_self_eq_true, ByteArray.size, Nat.reduceAdd, Nat.reduceLeDiff, Nat.reduceEqDiff, Nat.reduceMul, Int.reduceToNat, reduceIte, Int.reduceLE, Int.reduceNeg, memC, slotC]
                  rw [bad2 y (List.mem_of_getElem? hy) (by rw [hf2 o ho hge]; simpa using hal)]
              · intro hal
                repeat (first | refine WI.seq ?_ | refine WI.block ?_ | refine WI.skip ?_ | refine WI.exit ?_ | refine WI.region tab_ok 0 (by decide) (by kernel_rfl) (exec_run (by simp only [exa, beq_self_eq_true, ByteArray.size, Nat.reduceAdd, Nat.reduceLeDiff, Nat.reduceEqDiff, Nat.reduceMul, Int.reduceToNat, reduceIte, Int.reduceLE, Int.reduceNeg, fullM, memC, slotC, cClass]; rfl)) ?_)
                refine ⟨q + 1, ⟨hlt, ?_⟩, by omega, ?_⟩
                · rw [List.take_add_one, hy, List.all_append, hfit]; simp [hf2 o ho hge]; simpa using hal
                simp only [fullM, memC]
                refine le_mk ?sle ?mle ?swf ?mwf hkeepL (by rfl)
                case swf => repeat (first | exact swf_top _ | refine swf_upd ?_ (by simp [A.ids, upd_app, cClass, fullM, memC, wrap_succ (show q + 1 < 9223372036854775808 by have := (hS c hc).2.1; omega)]))
                case mwf => repeat (first | exact mwf_nil _ | refine mwf_upd ?_ (by simp [A.ids, O.ids, upd_app, cClass, fullM, memC, wrap_succ (show q + 1 < 9223372036854775808 by have := (hS c hc).2.1; omega)]))
                case mle => repeat (first | exact mle_nil _ | exact mle_refl _ | refine mle_upd ?_ (by first | rfl | (simp only [upd_app, killM_app, O.kill, A.kill, Nat.reduceEqDiff, reduceIte, Option.map_some, Option.map_none, List.map_cons, List.map_nil, cClass, fullM, memC, wrap_succ (show q + 1 < 9223372036854775808 by have := (hS c hc).2.1; omega)]; done)))
                case sle => repeat (first | exact sle_top _ | exact sle_refl _ | refine sle_upd ?_ (by first | rfl | (simp only [upd_app, killS_app, A.kill, entry_zero, entry_succ, Nat.reduceEqDiff, reduceIte, cClass, fullM, memC, wrap_succ (show q + 1 < 9223372036854775808 by have := (hS c hc).2.1; omega)]; done)))
          · intro hge
            simp only [decide_eq_false_iff_not, Int.ofNat_lt] at hge
            obtain rfl : q = c.methods.length := by omega
            repeat (first | refine WI.seq ?_ | refine WI.block ?_ | refine WI.skip ?_ | refine WI.exit ?_ | refine WI.region tab_ok 0 (by decide) (by kernel_rfl) (exec_run (by simp only [exa, beq_self_eq_true, ByteArray.size, Nat.reduceAdd, Nat.reduceLeDiff, Nat.reduceEqDiff, Nat.reduceMul, Int.reduceToNat, reduceIte, Int.reduceLE, Int.reduceNeg, fullM, memC, slotC, cClass]; rfl)) ?_)
            rw [List.take_length] at hfit
            refine ⟨good hfit, fun j => j, Le.toT ?_⟩
            simp only [fullM, memC]
            refine le_mk ?sle ?mle ?swf ?mwf (fun j hj => fullM_keep (hG _) hj) (by rfl)
            case swf => repeat (first | exact swf_top _ | refine swf_upd ?_ (by simp [A.ids, upd_app, cClass, fullM, memC]))
            case mwf => repeat (first | exact mwf_nil _ | refine mwf_upd ?_ (by simp [A.ids, O.ids, upd_app, cClass, fullM, memC]))
            case mle => repeat (first | exact mle_nil _ | exact mle_refl _ | refine mle_upd ?_ (by first | rfl | (simp only [upd_app, killM_app, O.kill, A.kill, Nat.reduceEqDiff, reduceIte, Option.map_some, Option.map_none, List.map_cons, List.map_nil, cClass, fullM, memC]; done)))
            case sle => repeat (first | exact sle_top _ | exact sle_refl _ | refine sle_upd ?_ (by first | rfl | (simp only [upd_app, killS_app, A.kill, entry_zero, entry_succ, Nat.reduceEqDiff, reduceIte, cClass, fullM, memC]; done)))
  case done =>
    intro hAll b
    rw [List.take_length] at hAll ⊢
    have hcl := (hS c hc)
    have hmN : ∀ l : List Method, (l.map (·.name)).length = l.length := fun l => by simp
    repeat (first | refine W.seq ?_ | refine W.block ?_ | refine W.skip ?_ | refine W.exit ?_ | refine W.region tab_ok 0 (by decide) (exec_run (by simp only [exa, beq_self_eq_true, ByteArray.size, Nat.reduceAdd, Nat.reduceLeDiff, Nat.reduceEqDiff, Nat.reduceMul, Int.reduceToNat, reduceIte, Int.reduceLE, Int.reduceNeg, doneS, doneM, DID, memC, slotC, cClass]; rfl)) ?_)
    refine W.newArr 6 60 9 1 rfl rfl ?_
    refine W.loop (ι := Nat) (fun q => ⟨upd (upd (upd (upd (upd (upd (doneS (fun _ => .top) b 1002) 4 (.ptr 4 0)) 5 (.ptr 5 0)) 6 (.own 60)) 67 (.c (.sl (c.methods.map cMethod)))) 68 (.c (.int .i64 c.methods.length))) 69 (.c (.int .i64 q)),
      upd (doneM (memC cs mn c false (fieldsUp cs (upX cs (cs.length + 1) 0 c.name))) 1002) 60 (some (.arr 9 1 (((c.methods.take q).map (·.name)).map cStr)))⟩) (fun q => q ≤ c.methods.length ∧ (c.methods.take q).all (fun m => onceB (namesL m.params)) = true) (fun q => c.methods.length - q) 0 ?start ⟨Nat.zero_le _, rfl⟩ ?round
    case start =>
      simp only [doneS, doneM, memC, DID]
      refine le_mk ?sle ?mle ?swf ?mwf (kept_not hkeep) (by rfl)
      case swf => repeat (first | exact swf_top _ | refine swf_upd ?_ (by simp [A.ids, upd_app, cClass, List.take_zero]))
      case mwf => repeat (first | exact mwf_nil _ | refine mwf_upd ?_ (by simp [A.ids, O.ids, upd_app, cClass, List.take_zero]))
      case mle => repeat (first | exact mle_nil _ | exact mle_refl _ | refine mle_upd ?_ (by first | rfl | (simp only [upd_app, killM_app, O.kill, A.kill, Nat.reduceEqDiff, reduceIte, Option.map_some, Option.map_none, List.map_cons, List.map_nil, cClass, List.take_zero]; done)))
      case sle => repeat (first | exact sle_top _ | exact sle_refl _ | refine sle_upd ?_ (by first | rfl | (simp only [upd_app, killS_app, A.kill, entry_zero, entry_succ, Nat.reduceEqDiff, reduceIte, cClass, List.take_zero]; done)))
    case round =>
      rintro q ⟨hq, hon⟩
      repeat (first | refine W.seq ?_ | refine W.block ?_ | refine W.skip ?_ | refine W.exit ?_ | refine W.region tab_ok 0 (by decide) (exec_run (by simp only [exa, beq_self_eq_true, ByteArray.size, Nat.reduceAdd, Nat.reduceLeDiff, Nat.reduceEqDiff, Nat.reduceMul, Int.reduceToNat, reduceIte, Int.reduceLE, Int.reduceNeg, doneS, doneM, DID, memC, cClass]; rfl)) ?_)
      refine W.cond rfl ?_ ?_
      · intro hlt
        simp only [decide_eq_true_eq, Int.ofNat_lt] at hlt
        obtain ⟨y, hy⟩ : ∃ y, c.methods[q]? = some y := ⟨_, List.getElem?_eq_getElem hlt⟩
        have hyp := hcl.2.2 y (List.mem_of_getElem? hy)
        repeat (first | refine W.seq ?_ | refine W.block ?_ | refine W.skip ?_ | refine W.exit ?_ | refine W.region tab_ok 0 (by decide) (exec_run (by simp only [exa, beq_self_eq_true, ByteArray.size, Nat.reduceAdd, Nat.reduceLeDiff, Nat.reduceEqDiff, Nat.reduceMul, Int.reduceToNat, reduceIte, Int.reduceLE, Int.reduceNeg, doneS, doneM, DID, memC, cClass, at_map hy, cMethod]; rfl)) ?_)
        refine W.regionK tab_ok 0 (by decide) ?_
        refine runk_split 4 (by simp only [exa, beq_self_eq_true, ByteArray.size, Nat.reduceAdd, Nat.reduceLeDiff, Nat.reduceEqDiff, Nat.reduceMul, Int.reduceToNat, reduceIte, Int.reduceLE, Int.reduceNeg, doneS, doneM, DID, memC, cClass]; rfl) ?_
        refine runk_append tab_ok 60 rfl rfl rfl rfl rfl rfl rfl rfl (by first | rfl | (simp only [exa, beq_self_eq_true, ByteArray.size, Nat.reduceAdd, Nat.reduceLeDiff, Nat.reduceEqDiff, Nat.reduceMul, Int.reduceToNat, reduceIte, Int.reduceLE, Int.reduceNeg, doneS, doneM, DID, memC, cClass]; rfl)) rfl rfl rfl rfl (nokeep hkeep) (by simp) (by have h1 := List.length_take_le q c.methods; simp only [List.length_map, List.length_cons, List.length_nil]; omega) (by decide) ?_
        refine runk_exec (by simp only [exa, beq_self_eq_true, ByteArray.size, Nat.reduceAdd, Nat.reduceLeDiff, Nat.reduceEqDiff, Nat.reduceMul, Int.reduceToNat, reduceIte, Int.reduceLE, Int.reduceNeg, doneS, doneM, DID, memC, cClass]; rfl) ?_
        refine W.seq ?_
        refine W.regionK tab_ok 0 (by decide) ?_
        refine runk_split 2 (by simp only [exa, beq_self_eq_true, ByteArray.size, Nat.reduceAdd, Nat.reduceLeDiff, Nat.reduceEqDiff, Nat.reduceMul, Int.reduceToNat, reduceIte, Int.reduceLE, Int.reduceNeg, doneS, doneM, DID, memC, cClass]; rfl) ?_
        refine runk_call rfl rfl rfl rfl rfl (by simp) (cvs_cons cv_refl cvs_nil) (namesS_ok y.params (by omega) _) ?_
        refine runk_split 0 (by simp only [exa, beq_self_eq_true, ByteArray.size, Nat.reduceAdd, Nat.reduceLeDiff, Nat.reduceEqDiff, Nat.reduceMul, Int.reduceToNat, reduceIte, Int.reduceLE, Int.reduceNeg, doneS, doneM, DID, memC, cClass]; rfl) ?_
        refine runk_call rfl rfl rfl rfl rfl (by simp) (cvs_cons cv_refl cvs_nil) (once_ok (namesL y.params) (by simp [namesL]; omega) _) ?_
        refine runk_exec (by simp only [exa, beq_self_eq_true, ByteArray.size, Nat.reduceAdd, Nat.reduceLeDiff, Nat.reduceEqDiff, Nat.reduceMul, Int.reduceToNat, reduceIte, Int.reduceLE, Int.reduceNeg, doneS, doneM, DID, memC, cClass]; rfl) ?_
        refine W.cond rfl ?_ ?_
        · intro hb
          repeat (first | refine W.seq ?_ | refine W.block ?_ | refine W.skip ?_ | refine W.exit ?_ | refine W.region tab_ok 0 (by decide) (exec_run (by simp only [exa, beq_self_eq_true, ByteArray.size, Nat.reduceAdd, Nat.reduceLeDiff, Nat.reduceEqDiff, Nat.reduceMul, Int.reduceToNat, reduceIte, Int.reduceLE, Int.reduceNeg, doneS, doneM, DID, memC, cClass]; rfl)) ?_)
          refine W.ret ⟨.inr rfl, .inr ⟨b, 1002, rfl, rfl, rfl, ?_⟩⟩
          simp only [Try.f17, resA, resOne, toT, fin, doneS, doneM, DID, exa, beq_self_eq_true, ByteArray.size, Nat.reduceAdd, Nat.reduceLeDiff, Nat.reduceEqDiff, Nat.reduceMul, Int.reduceToNat, reduceIte, Int.reduceLE, Int.reduceNeg, memC]
          have : okClassB cs c = false := by
            unfold okClassB
            have : (c.methods.all fun m => onceB (namesL m.params)) = false := by
              rw [List.all_eq_false]
              exact ⟨y, List.mem_of_getElem? hy, by simpa using hb⟩
            rw [this]; simp
          rw [this]
        · intro hb
          repeat (first | refine W.seq ?_ | refine W.block ?_ | refine W.skip ?_ | refine W.exit ?_ | refine W.region tab_ok 0 (by decide) (exec_run (by simp only [exa, beq_self_eq_true, ByteArray.size, Nat.reduceAdd, Nat.reduceLeDiff, Nat.reduceEqDiff, Nat.reduceMul, Int.reduceToNat, reduceIte, Int.reduceLE, Int.reduceNeg, doneS, doneM, DID, memC, cClass]; rfl)) ?_)
          refine ⟨q + 1, ⟨hlt, ?_⟩, by omega, ?_⟩
          · rw [List.take_add_one, hy, List.all_append, hon]; simpa using hb
          simp only [doneS, doneM, memC, DID]
          refine le_mk ?sle ?mle ?swf ?mwf (kept_not hkeep) (by rfl)
          case swf => repeat (first | exact swf_top _ | refine swf_upd ?_ (by simp [A.ids, upd_app, cClass, wrap_succ (show q + 1 < 9223372036854775808 by omega), List.take_add_one, hy, Option.toList_some, List.map_append, cStr]))
          case mwf => repeat (first | exact mwf_nil _ | refine mwf_upd ?_ (by simp [A.ids, O.ids, upd_app, cClass, wrap_succ (show q + 1 < 9223372036854775808 by omega), List.take_add_one, hy, Option.toList_some, List.map_append, cStr]))
          case mle => repeat (first | exact mle_nil _ | exact mle_refl _ | refine mle_upd ?_ (by first | rfl | (simp only [upd_app, killM_app, O.kill, A.kill, Nat.reduceEqDiff, reduceIte, Option.map_some, Option.map_none, List.map_cons, List.map_nil, cClass, wrap_succ (show q + 1 < 9223372036854775808 by omega), List.take_add_one, hy, Option.toList_some, List.map_append, cStr]; done)))
          case sle => repeat (first | exact sle_top _ | exact sle_refl _ | refine sle_upd ?_ (by first | rfl | (simp only [upd_app, killS_app, A.kill, entry_zero, entry_succ, Nat.reduceEqDiff, reduceIte, cClass, wrap_succ (show q + 1 < 9223372036854775808 by omega), List.take_add_one, hy, Option.toList_some, List.map_append, cStr]; done)))
      · intro hge
        simp only [decide_eq_false_iff_not, Int.ofNat_lt] at hge
        obtain rfl : q = c.methods.length := by omega
        rw [List.take_length] at hon
        have hfl := fieldsUp_len hS (upX cs (cs.length + 1) 0 c.name)
        have hul := upX_len cs (cs.length + 1) 0 c.name
        have hval : okClassB cs c = (onceB (fieldsUp cs (upX cs (cs.length + 1) 0 c.name)) && onceB (c.methods.map (·.name))) := by
          unfold okClassB
          rw [hAll, hon]; simp
        repeat (first | refine W.seq ?_ | refine W.block ?_ | refine W.skip ?_ | refine W.exit ?_ | refine W.region tab_ok 0 (by decide) (exec_run (by simp only [exa, beq_self_eq_true, ByteArray.size, Nat.reduceAdd, Nat.reduceLeDiff, Nat.reduceEqDiff, Nat.reduceMul, Int.reduceToNat, reduceIte, Int.reduceLE, Int.reduceNeg, doneS, doneM, DID, memC, cClass]; rfl)) ?_)
        refine W.regionK tab_ok 0 (by decide) ?_
        refine runk_split 1 (by simp only [exa, beq_self_eq_true, ByteArray.size, Nat.reduceAdd, Nat.reduceLeDiff, Nat.reduceEqDiff, Nat.reduceMul, Int.reduceToNat, reduceIte, Int.reduceLE, Int.reduceNeg, doneS, doneM, DID, memC, cClass]; rfl) ?_
        refine runk_call rfl rfl rfl rfl rfl (by simp) (cvs_cons (cv_own rfl) cvs_nil) (once_ok (fieldsUp cs (upX cs (cs.length + 1) 0 c.name)) (by omega) _) ?_
        cases h1 : onceB (fieldsUp cs (upX cs (cs.length + 1) 0 c.name)) with
        | false =>
          refine runk_exec (by simp only [exa, beq_self_eq_true, ByteArray.size, Nat.reduceAdd, Nat.reduceLeDiff, Nat.reduceEqDiff, Nat.reduceMul, Int.reduceToNat, reduceIte, Int.reduceLE, Int.reduceNeg, doneS, doneM, DID, memC, cClass]; rfl) ?_
          refine W.ret ⟨.inr rfl, .inr ⟨b, 1002, rfl, rfl, rfl, ?_⟩⟩
          simp only [Try.f17, resA, resOne, toT, fin, doneS, doneM, DID, exa, beq_self_eq_true, ByteArray.size, Nat.reduceAdd, Nat.reduceLeDiff, Nat.reduceEqDiff, Nat.reduceMul, Int.reduceToNat, reduceIte, Int.reduceLE, Int.reduceNeg, memC]
          rw [hval, h1]; rfl
        | true =>
          refine runk_split 2 (by simp only [exa, beq_self_eq_true, ByteArray.size, Nat.reduceAdd, Nat.reduceLeDiff, Nat.reduceEqDiff, Nat.reduceMul, Int.reduceToNat, reduceIte, Int.reduceLE, Int.reduceNeg, doneS, doneM, DID, memC, cClass, List.take_length]; rfl) ?_
          refine runk_call rfl rfl rfl rfl rfl (by simp) (cvs_cons (cv_own rfl) cvs_nil) (once_ok (c.methods.map (·.name)) (by simp; omega) _) ?_
          refine runk_exec (by simp only [exa, beq_self_eq_true, ByteArray.size, Nat.reduceAdd, Nat.reduceLeDiff, Nat.reduceEqDiff, Nat.reduceMul, Int.reduceToNat, reduceIte, Int.reduceLE, Int.reduceNeg, doneS, doneM, DID, memC, cClass]; rfl) ?_
          refine W.ret ⟨.inr rfl, .inr ⟨b, 1002, rfl, rfl, rfl, ?_⟩⟩
          simp only [Try.f17, resA, resOne, toT, fin, doneS, doneM, DID, exa, beq_self_eq_true, ByteArray.size, Nat.reduceAdd, Nat.reduceLeDiff, Nat.reduceEqDiff, Nat.reduceMul, Int.reduceToNat, reduceIte, Int.reduceLE, Int.reduceNeg, memC]
          rw [hval, h1]; rfl
end V
end Go.Proofs.Ythhpcjoaogmhbaa
end
section
set_option linter.unusedVariables false
set_option linter.unusedSimpArgs false
namespace Go.Proofs.Ythhpcjoaogmhbaa
namespace V
open Go.RowKit
set_option linter.unusedSimpArgs false
theorem check1_ok (cs : List Class) (mn : C) (c : Class) (hS : SmallC cs) (hlen : cs.length ≤ 16) (hc : c ∈ cs) (m : Mem) : COk Try.prog 16 [.agg (cClass c), .rptr [.sl (cs.map cClass), mn]] m (.c (.bool (!okClassB cs c))) := by
  refine (ok_pure tab_ok Try.func16 (by kernel_rfl) rfl rfl (by rfl) (by rfl) (by rfl) (fun R hkeep => ?_) m)
  repeat (first | refine W.seq ?_ | refine W.block ?_ | refine W.skip ?_ | refine W.exit ?_ | refine W.region tab_ok 0 (by decide) (exec_run (by simp only [exa, beq_self_eq_true, ByteArray.size, Nat.reduceAdd, Nat.reduceLeDiff, Nat.reduceEqDiff, Nat.reduceMul, Int.reduceToNat, reduceIte, Int.reduceLE, Int.reduceNeg, cClass]; rfl)) ?_)
  refine W.regionK tab_ok 0 (by decide) ?_
  refine runk_split 2 (by simp only [exa, beq_self_eq_true, ByteArray.size, Nat.reduceAdd, Nat.reduceLeDiff, Nat.reduceEqDiff, Nat.reduceMul, Int.reduceToNat, reduceIte, Int.reduceLE, Int.reduceNeg, cClass]; rfl) ?_
  refine runk_call rfl rfl rfl rfl rfl (by simp) (cvs_cons cv_refl (cvs_cons cv_refl cvs_nil)) (class_ok cs mn c hS hlen hc _) ?_
  refine runk_exec (by simp only [exa, beq_self_eq_true, ByteArray.size, Nat.reduceAdd, Nat.reduceLeDiff, Nat.reduceEqDiff, Nat.reduceMul, Int.reduceToNat, reduceIte, Int.reduceLE, Int.reduceNeg]; rfl) ?_
  refine W.ret ⟨.inr rfl, by rfl, ?_⟩
  simp only [Try.f16, resA, resOne, toT, fin, exa, beq_self_eq_true, ByteArray.size, Nat.reduceAdd, Nat.reduceLeDiff, Nat.reduceEqDiff, Nat.reduceMul, Int.reduceToNat, reduceIte, Int.reduceLE, Int.reduceNeg]
def chkErr (e : Int) (cs : List Class) : Int :=
  if e = 0 then (if 16 < cs.length then 6 else if onceB (cs.map (·.name)) = false then 60 else if cs.any (fun c => !okClassB cs c) = true then 60 else 0) else e
set_option maxHeartbeats 1000000 in
theorem check_ok (p : Program) (e : Int) (hS : SmallC p.classes) (hlen : p.classes.length ≤ 1000000000) (hck : ∀ m, COk Try.prog 13 [.agg (cProg p)] m (.c (.int .i64 e))) (m : Mem) :
    COk Try.prog 9 [.agg (cProg p)] m (.c (.int .i64 (chkErr e p.classes))) := by
  obtain ⟨cs, mn⟩ := p
  dsimp only at hS hlen hck ⊢
  refine (ok_pure tab_ok Try.func9 (by kernel_rfl) rfl rfl (by rfl) (by rfl) (by rfl) (fun R hkeep => ?_) m)
  repeat (first | refine W.seq ?_ | refine W.block ?_ | refine W.skip ?_ | refine W.exit ?_ | refine W.region tab_ok 0 (by decide) (exec_run (by simp only [exa, beq_self_eq_true, ByteArray.size, Nat.reduceAdd, Nat.reduceLeDiff, Nat.reduceEqDiff, Nat.reduceMul, Int.reduceToNat, reduceIte, Int.reduceLE, Int.reduceNeg, cProg]; rfl)) ?_)
  refine W.regionK tab_ok 0 (by decide) ?_
  refine runk_split 1 (by simp only [exa, beq_self_eq_true, ByteArray.size, Nat.reduceAdd, Nat.reduceLeDiff, Nat.reduceEqDiff, Nat.reduceMul, Int.reduceToNat, reduceIte, Int.reduceLE, Int.reduceNeg, cProg]; rfl) ?_
  refine runk_call rfl rfl rfl rfl rfl (by simp) (cvs_cons cv_refl cvs_nil) (hck _) ?_
  refine runk_exec (by simp only [exa, beq_self_eq_true, ByteArray.size, Nat.reduceAdd, Nat.reduceLeDiff, Nat.reduceEqDiff, Nat.reduceMul, Int.reduceToNat, reduceIte, Int.reduceLE, Int.reduceNeg]; rfl) ?_
  repeat (first | refine W.seq ?_ | refine W.block ?_ | refine W.skip ?_ | refine W.exit ?_ | refine W.region tab_ok 0 (by decide) (exec_run (by simp only [exa, beq_self_eq_true, ByteArray.size, Nat.reduceAdd, Nat.reduceLeDiff, Nat.reduceEqDiff, Nat.reduceMul, Int.reduceToNat, reduceIte, Int.reduceLE, Int.reduceNeg]; rfl)) ?_)
  refine W.cond rfl ?_ ?_
  · intro h
    have he : e ≠ 0 := by simpa using h
    repeat (first | refine W.seq ?_ | refine W.block ?_ | refine W.skip ?_ | refine W.exit ?_ | refine W.region tab_ok 0 (by decide) (exec_run (by simp only [exa, beq_self_eq_true, ByteArray.size, Nat.reduceAdd, Nat.reduceLeDiff, Nat.reduceEqDiff, Nat.reduceMul, Int.reduceToNat, reduceIte, Int.reduceLE, Int.reduceNeg]; rfl)) ?_)
    refine W.ret ⟨.inr rfl, by rfl, ?_⟩
    simp only [Try.f9, resA, resOne, toT, fin, exa, beq_self_eq_true, ByteArray.size, Nat.reduceAdd, Nat.reduceLeDiff, Nat.reduceEqDiff, Nat.reduceMul, Int.reduceToNat, reduceIte, Int.reduceLE, Int.reduceNeg]
    simp [chkErr, he]
  intro h
  have he : e = 0 := by simpa using h
  subst he
  repeat (first | refine W.seq ?_ | refine W.block ?_ | refine W.skip ?_ | refine W.exit ?_ | refine W.region tab_ok 0 (by decide) (exec_run (by simp only [exa, beq_self_eq_true, ByteArray.size, Nat.reduceAdd, Nat.reduceLeDiff, Nat.reduceEqDiff, Nat.reduceMul, Int.reduceToNat, reduceIte, Int.reduceLE, Int.reduceNeg]; rfl)) ?_)
  refine W.cond rfl ?_ ?_
  · intro h
    have hl : 16 < cs.length := by simp at h; omega
    repeat (first | refine W.seq ?_ | refine W.block ?_ | refine W.skip ?_ | refine W.exit ?_ | refine W.region tab_ok 0 (by decide) (exec_run (by simp only [exa, beq_self_eq_true, ByteArray.size, Nat.reduceAdd, Nat.reduceLeDiff, Nat.reduceEqDiff, Nat.reduceMul, Int.reduceToNat, reduceIte, Int.reduceLE, Int.reduceNeg]; rfl)) ?_)
    refine W.ret ⟨.inr rfl, by rfl, ?_⟩
    simp only [Try.f9, resA, resOne, toT, fin, exa, beq_self_eq_true, ByteArray.size, Nat.reduceAdd, Nat.reduceLeDiff, Nat.reduceEqDiff, Nat.reduceMul, Int.reduceToNat, reduceIte, Int.reduceLE, Int.reduceNeg]
    simp [chkErr, hl]
  intro h
  have hl : ¬ 16 < cs.length := by simp at h; omega
  repeat (first | refine W.seq ?_ | refine W.block ?_ | refine W.skip ?_ | refine W.exit ?_ | refine W.region tab_ok 0 (by decide) (exec_run (by simp only [exa, beq_self_eq_true, ByteArray.size, Nat.reduceAdd, Nat.reduceLeDiff, Nat.reduceEqDiff, Nat.reduceMul, Int.reduceToNat, reduceIte, Int.reduceLE, Int.reduceNeg]; rfl)) ?_)
  refine W.newArr 4 4 9 1 rfl rfl ?_
  repeat (first | refine W.seq ?_ | refine W.block ?_ | refine W.skip ?_ | refine W.exit ?_ | refine W.region tab_ok 0 (by decide) (exec_run (by simp only [exa, beq_self_eq_true, ByteArray.size, Nat.reduceAdd, Nat.reduceLeDiff, Nat.reduceEqDiff, Nat.reduceMul, Int.reduceToNat, reduceIte, Int.reduceLE, Int.reduceNeg]; rfl)) ?_)
  refine W.loop (ι := Nat) (fun k => ⟨upd (upd (upd (upd (upd (fun _ => .top) 1 (.ptr 1 0)) 4 (.own 4)) 17 (.c (.sl (cs.map cClass)))) 18 (.c (.int .i64 cs.length))) 19 (.c (.int .i64 k)),
    upd (upd Mem.nil 1 (some (.box 25 ((cProg ⟨cs, mn⟩).map A.c)))) 4 (some (.arr 9 1 (((cs.take k).map (·.name)).map cStr)))⟩) (fun k => k ≤ cs.length) (fun k => cs.length - k) 0 ?start (Nat.zero_le _) ?round
  case start =>
    refine le_mk ?sle ?mle ?swf ?mwf ?kept (by rfl)
    case kept => exact kept_not hkeep
    case swf => repeat (first | exact swf_top _ | refine swf_upd ?_ (by simp [A.ids, upd_app]))
    case mwf => repeat (first | exact mwf_nil _ | refine mwf_upd ?_ (by simp [A.ids, O.ids, upd_app]))
    case mle => repeat (first | exact mle_nil _ | exact mle_refl _ | refine mle_upd ?_ (by first | rfl | (simp only [upd_app, killM_app, Nat.reduceEqDiff, reduceIte, cProg, List.map_cons, List.map_nil, List.take_zero]; done)))
    case sle => repeat (first | exact sle_top _ | exact sle_refl _ | refine sle_upd ?_ (by first | rfl | (simp only [upd_app, entry_zero, entry_succ, Nat.reduceEqDiff, reduceIte, cProg, List.map_cons, List.map_nil, List.take_zero]; done)))
  case round =>
    intro k hk
    repeat (first | refine W.seq ?_ | refine W.block ?_ | refine W.skip ?_ | refine W.exit ?_ | refine W.region tab_ok 0 (by decide) (exec_run (by simp only [exa, beq_self_eq_true, ByteArray.size, Nat.reduceAdd, Nat.reduceLeDiff, Nat.reduceEqDiff, Nat.reduceMul, Int.reduceToNat, reduceIte, Int.reduceLE, Int.reduceNeg, cProg]; rfl)) ?_)
    refine W.cond rfl ?_ ?_
    · intro hlt
      simp only [decide_eq_true_eq, Int.ofNat_lt] at hlt
      obtain ⟨x, hx⟩ : ∃ x, cs[k]? = some x := ⟨_, List.getElem?_eq_getElem hlt⟩
      repeat (first | refine W.seq ?_ | refine W.block ?_ | refine W.skip ?_ | refine W.exit ?_ | refine W.region tab_ok 0 (by decide) (exec_run (by simp only [exa, beq_self_eq_true, ByteArray.size, Nat.reduceAdd, Nat.reduceLeDiff, Nat.reduceEqDiff, Nat.reduceMul, Int.reduceToNat, reduceIte, Int.reduceLE, Int.reduceNeg, cProg, at_map hx, cClass]; rfl)) ?_)
      refine W.regionK tab_ok 0 (by decide) ?_
      refine runk_split 4 (by simp only [exa, beq_self_eq_true, ByteArray.size, Nat.reduceAdd, Nat.reduceLeDiff, Nat.reduceEqDiff, Nat.reduceMul, Int.reduceToNat, reduceIte, Int.reduceLE, Int.reduceNeg, cProg]; rfl) ?_
      refine runk_append tab_ok 4 rfl rfl rfl rfl rfl rfl rfl rfl (by first | rfl | (simp only [exa, beq_self_eq_true, ByteArray.size, Nat.reduceAdd, Nat.reduceLeDiff, Nat.reduceEqDiff, Nat.reduceMul, Int.reduceToNat, reduceIte, Int.reduceLE, Int.reduceNeg, cProg]; rfl)) rfl rfl rfl rfl (nokeep hkeep) (by simp) (by have := List.length_take_le k cs; simp only [List.length_map, List.length_cons, List.length_nil]; omega) (by decide) ?_
      refine runk_exec (by simp only [exa, beq_self_eq_true, ByteArray.size, Nat.reduceAdd, Nat.reduceLeDiff, Nat.reduceEqDiff, Nat.reduceMul, Int.reduceToNat, reduceIte, Int.reduceLE, Int.reduceNeg, cProg]; rfl) ?_
      repeat (first | refine W.seq ?_ | refine W.block ?_ | refine W.skip ?_ | refine W.exit ?_ | refine W.region tab_ok 0 (by decide) (exec_run (by simp only [exa, beq_self_eq_true, ByteArray.size, Nat.reduceAdd, Nat.reduceLeDiff, Nat.reduceEqDiff, Nat.reduceMul, Int.reduceToNat, reduceIte, Int.reduceLE, Int.reduceNeg, cProg]; rfl)) ?_)
      refine ⟨k + 1, hlt, by omega, ?_⟩
      refine le_mk ?sle ?mle ?swf ?mwf ?kept (by rfl)
      case kept => exact kept_not hkeep
      case swf => repeat (first | exact swf_top _ | refine swf_upd ?_ (by simp [A.ids, upd_app]))
      case mwf => repeat (first | exact mwf_nil _ | refine mwf_upd ?_ (by simp [A.ids, O.ids, upd_app]))
      case mle => repeat (first | exact mle_nil _ | exact mle_refl _ | refine mle_upd ?_ (by first | rfl | (simp only [upd_app, killM_app, Nat.reduceEqDiff, reduceIte, cProg, O.kill, A.kill, Option.map_some, wrap_succ (show k + 1 < 9223372036854775808 by omega), List.take_add_one, hx, Option.toList_some, List.map_append, List.map_cons, List.map_nil, cStr]; done)))
      case sle => repeat (first | exact sle_top _ | exact sle_refl _ | refine sle_upd ?_ (by first | rfl | (simp only [upd_app, entry_zero, entry_succ, Nat.reduceEqDiff, reduceIte, cProg, O.kill, A.kill, Option.map_some, wrap_succ (show k + 1 < 9223372036854775808 by omega), List.take_add_one, hx, Option.toList_some, List.map_append, List.map_cons, List.map_nil, cStr]; done)))
    · intro hge
      simp only [decide_eq_false_iff_not, Int.ofNat_lt] at hge
      obtain rfl : k = cs.length := by omega
      repeat (first | refine W.seq ?_ | refine W.block ?_ | refine W.skip ?_ | refine W.exit ?_ | refine W.region tab_ok 0 (by decide) (exec_run (by simp only [exa, beq_self_eq_true, ByteArray.size, Nat.reduceAdd, Nat.reduceLeDiff, Nat.reduceEqDiff, Nat.reduceMul, Int.reduceToNat, reduceIte, Int.reduceLE, Int.reduceNeg, cProg]; rfl)) ?_)
      refine W.regionK tab_ok 0 (by decide) ?_
      refine runk_split 1 (by simp only [exa, beq_self_eq_true, ByteArray.size, Nat.reduceAdd, Nat.reduceLeDiff, Nat.reduceEqDiff, Nat.reduceMul, Int.reduceToNat, reduceIte, Int.reduceLE, Int.reduceNeg, cProg, List.take_length]; rfl) ?_
      refine runk_call rfl rfl rfl rfl rfl (by simp) (cvs_cons (cv_own rfl) cvs_nil) (once_ok (cs.map (·.name)) (by simp; omega) _) ?_
      cases h1 : onceB (cs.map (·.name)) with
      | false =>
        refine runk_exec (by simp only [exa, beq_self_eq_true, ByteArray.size, Nat.reduceAdd, Nat.reduceLeDiff, Nat.reduceEqDiff, Nat.reduceMul, Int.reduceToNat, reduceIte, Int.reduceLE, Int.reduceNeg, cProg]; rfl) ?_
        repeat (first | refine W.seq ?_ | refine W.block ?_ | refine W.skip ?_ | refine W.exit ?_ | refine W.region tab_ok 0 (by decide) (exec_run (by simp only [exa, beq_self_eq_true, ByteArray.size, Nat.reduceAdd, Nat.reduceLeDiff, Nat.reduceEqDiff, Nat.reduceMul, Int.reduceToNat, reduceIte, Int.reduceLE, Int.reduceNeg, cProg]; rfl)) ?_)
        refine W.cond rfl (fun _ => ?_) (fun h => by cases h)
        repeat (first | refine W.seq ?_ | refine W.block ?_ | refine W.skip ?_ | refine W.exit ?_ | refine W.region tab_ok 0 (by decide) (exec_run (by simp only [exa, beq_self_eq_true, ByteArray.size, Nat.reduceAdd, Nat.reduceLeDiff, Nat.reduceEqDiff, Nat.reduceMul, Int.reduceToNat, reduceIte, Int.reduceLE, Int.reduceNeg, cProg]; rfl)) ?_)
        refine W.ret ⟨.inr rfl, by rfl, ?_⟩
        simp only [Try.f9, resA, resOne, toT, fin, exa, beq_self_eq_true, ByteArray.size, Nat.reduceAdd, Nat.reduceLeDiff, Nat.reduceEqDiff, Nat.reduceMul, Int.reduceToNat, reduceIte, Int.reduceLE, Int.reduceNeg]
        simp [chkErr, hl, h1]
      | true =>
        refine runk_split 5 (by simp only [exa, beq_self_eq_true, ByteArray.size, Nat.reduceAdd, Nat.reduceLeDiff, Nat.reduceEqDiff, Nat.reduceMul, Int.reduceToNat, reduceIte, Int.reduceLE, Int.reduceNeg, cProg]; rfl) ?_
        refine runk_callR rfl rfl rfl rfl rfl (by simp) (cvrs_cons cvr_refl (cvrs_cons (cvr_fn (caps_one rfl rfl)) cvrs_nil)) (by rfl) (by rfl) (anyClass_ok cs 16 [[.sl (cs.map cClass), .sl (cStmts mn)]] (fun c => !okClassB cs c) (by omega) (fun x hx m => check1_ok cs (.sl (cStmts mn)) x hS (by omega) hx m)) ?_
        refine runk_exec (by simp only [exa, beq_self_eq_true, ByteArray.size, Nat.reduceAdd, Nat.reduceLeDiff, Nat.reduceEqDiff, Nat.reduceMul, Int.reduceToNat, reduceIte, Int.reduceLE, Int.reduceNeg, cProg]; rfl) ?_
        refine W.cond rfl ?_ ?_
        · intro hb
          have hb : cs.any (fun c => !okClassB cs c) = true := hb
          repeat (first | refine W.seq ?_ | refine W.block ?_ | refine W.skip ?_ | refine W.exit ?_ | refine W.region tab_ok 0 (by decide) (exec_run (by simp only [exa, beq_self_eq_true, ByteArray.size, Nat.reduceAdd, Nat.reduceLeDiff, Nat.reduceEqDiff, Nat.reduceMul, Int.reduceToNat, reduceIte, Int.reduceLE, Int.reduceNeg, cProg]; rfl)) ?_)
          refine W.ret ⟨.inr rfl, by rfl, ?_⟩
          simp only [Try.f9, resA, resOne, toT, fin, exa, beq_self_eq_true, ByteArray.size, Nat.reduceAdd, Nat.reduceLeDiff, Nat.reduceEqDiff, Nat.reduceMul, Int.reduceToNat, reduceIte, Int.reduceLE, Int.reduceNeg]
          simp only [chkErr, if_true, if_neg hl, h1, hb]; rfl
        · intro hb
          have hb : cs.any (fun c => !okClassB cs c) = false := hb
          repeat (first | refine W.seq ?_ | refine W.block ?_ | refine W.skip ?_ | refine W.exit ?_ | refine W.region tab_ok 0 (by decide) (exec_run (by simp only [exa, beq_self_eq_true, ByteArray.size, Nat.reduceAdd, Nat.reduceLeDiff, Nat.reduceEqDiff, Nat.reduceMul, Int.reduceToNat, reduceIte, Int.reduceLE, Int.reduceNeg, cProg]; rfl)) ?_)
          refine W.ret ⟨.inr rfl, by rfl, ?_⟩
          simp only [Try.f9, resA, resOne, toT, fin, exa, beq_self_eq_true, ByteArray.size, Nat.reduceAdd, Nat.reduceLeDiff, Nat.reduceEqDiff, Nat.reduceMul, Int.reduceToNat, reduceIte, Int.reduceLE, Int.reduceNeg]
          simp only [chkErr, if_true, if_neg hl, h1, hb]; rfl
def nameAt (cs : List Class) (x : Nat × Nat) : List ByteArray := match cs[x.2]? with | some k => [k.name] | none => []
def upNames (cs : List Class) (l : List (Nat × Nat)) : List ByteArray := l.flatMap (nameAt cs)
theorem upNames_len (cs : List Class) : ∀ l : List (Nat × Nat), (upNames cs l).length ≤ l.length
  | [] => by simp [upNames]
  | x :: l => by
    have ih := upNames_len cs l
    unfold upNames at *
    rw [List.flatMap_cons, List.length_append, List.length_cons]
    have : (nameAt cs x).length ≤ 1 := by unfold nameAt; split <;> simp
    omega
def chainR (E : Int) (cs : List Class) (n : ByteArray) : List ByteArray := if E = 0 then upNames cs (upX cs (cs.length + 1) 0 n) else []
def memH (cs : List Class) (mn : C) (l : List ByteArray) : Mem :=
  upd (upd (upd Mem.nil 2 (some (.box 25 [.c (.sl (cs.map cClass)), .c mn]))) 4 (some (.box 42 [.own 50]))) 50 (some (.arr 9 1 (l.map cStr)))
def slotH : Nat → A := upd (upd (fun _ => .top) 2 (.ptr 2 0)) 4 (.ptr 4 0)
theorem slotH_ids : ∀ t, ∀ j ∈ (slotH t).ids, j ≤ 5 := by
  intro t j hj
  unfold slotH upd at hj
  repeat' (split at hj)
  all_goals (simp [A.ids] at hj)
  all_goals omega
set_option maxHeartbeats 1000000 in
theorem chainP_ok (p : Program) (E : Int) (name : ByteArray) (hlen : p.classes.length ≤ 1000000000) (hchk : ∀ m, COk Try.prog 9 [.agg (cProg p)] m (.c (.int .i64 E))) (m : Mem) :
    COk Try.prog 43 [.agg (cProg p), .c (.str name)] m (.c (.sl ((chainR E p.classes name).map cStr))) := by
  obtain ⟨cs, mn'⟩ := p
  dsimp only at hlen hchk ⊢
  generalize hmn : C.sl (cStmts mn') = mn
  have hpr : cProg ⟨cs, mn'⟩ = [.sl (cs.map cClass), mn] := by rw [← hmn]; rfl
  rw [hpr] at hchk ⊢
  refine (ok_pureM tab_ok Try.func43 (by kernel_rfl) rfl rfl (by rfl) (by rfl) (by rfl) (fun R hkeep => ?_) m)
  repeat (first | refine W.seq ?_ | refine W.block ?_ | refine W.skip ?_ | refine W.exit ?_ | refine W.region tab_ok 0 (by decide) (exec_run (by simp only [exa, beq_self_eq_true, ByteArray.size, Nat.reduceAdd, Nat.reduceLeDiff, Nat.reduceEqDiff, Nat.reduceMul, Int.reduceToNat, reduceIte, Int.reduceLE, Int.reduceNeg]; rfl)) ?_)
  refine W.regionK tab_ok 0 (by decide) ?_
  refine runk_split 1 (by simp only [exa, beq_self_eq_true, ByteArray.size, Nat.reduceAdd, Nat.reduceLeDiff, Nat.reduceEqDiff, Nat.reduceMul, Int.reduceToNat, reduceIte, Int.reduceLE, Int.reduceNeg]; rfl) ?_
  refine runk_call rfl rfl rfl rfl rfl (by simp) (cvs_cons cv_refl cvs_nil) (hchk _) ?_
  refine runk_exec (by simp only [exa, beq_self_eq_true, ByteArray.size, Nat.reduceAdd, Nat.reduceLeDiff, Nat.reduceEqDiff, Nat.reduceMul, Int.reduceToNat, reduceIte, Int.reduceLE, Int.reduceNeg]; rfl) ?_
  refine W.cond rfl ?_ ?_
  · intro h
    have he : E ≠ 0 := by simpa using h
    repeat (first | refine W.seq ?_ | refine W.block ?_ | refine W.skip ?_ | refine W.exit ?_ | refine W.region tab_ok 0 (by decide) (exec_run (by simp only [exa, beq_self_eq_true, ByteArray.size, Nat.reduceAdd, Nat.reduceLeDiff, Nat.reduceEqDiff, Nat.reduceMul, Int.reduceToNat, reduceIte, Int.reduceLE, Int.reduceNeg]; rfl)) ?_)
    refine W.ret ⟨.inr rfl, .inl ⟨rfl, ?_⟩⟩
    simp only [Try.f43, resA, resOne, toT, fin, exa, beq_self_eq_true, ByteArray.size, Nat.reduceAdd, Nat.reduceLeDiff, Nat.reduceEqDiff, Nat.reduceMul, Int.reduceToNat, reduceIte, Int.reduceLE, Int.reduceNeg]
    simp [chainR, he]
  intro h
  have he : E = 0 := by simpa using h
  subst he
  repeat (first | refine W.seq ?_ | refine W.block ?_ | refine W.skip ?_ | refine W.exit ?_ | refine W.region tab_ok 0 (by decide) (exec_run (by simp only [exa, beq_self_eq_true, ByteArray.size, Nat.reduceAdd, Nat.reduceLeDiff, Nat.reduceEqDiff, Nat.reduceMul, Int.reduceToNat, reduceIte, Int.reduceLE, Int.reduceNeg]; rfl)) ?_)
  refine W.newRowBox true 4 0 50 9 1 rfl rfl rfl ?_
  repeat (first | refine W.seq ?_ | refine W.block ?_ | refine W.skip ?_ | refine W.exit ?_ | refine W.region tab_ok 0 (by decide) (exec_run (by simp only [exa, beq_self_eq_true, ByteArray.size, Nat.reduceAdd, Nat.reduceLeDiff, Nat.reduceEqDiff, Nat.reduceMul, Int.reduceToNat, reduceIte, Int.reduceLE, Int.reduceNeg]; rfl)) ?_)
  refine W.regionK tab_ok 0 (by decide) ?_
  refine runk_split 2 (by simp only [exa, beq_self_eq_true, ByteArray.size, Nat.reduceAdd, Nat.reduceLeDiff, Nat.reduceEqDiff, Nat.reduceMul, Int.reduceToNat, reduceIte, Int.reduceLE, Int.reduceNeg]; rfl) ?_
  refine runk_call0 rfl rfl rfl rfl rfl rfl (by simp) (cvs_cons cv_refl (cvs_cons cv_refl cvs_nil)) (up_ok (cs.map cClass) mn name _ 1000 1001 rfl rfl (by decide)) ?_
  refine runk_exec (by simp only [exa, beq_self_eq_true, ByteArray.size, Nat.reduceAdd, Nat.reduceLeDiff, Nat.reduceEqDiff, Nat.reduceMul, Int.reduceToNat, reduceIte, Int.reduceLE, Int.reduceNeg]; rfl) ?_
  repeat (first | refine W.seq ?_ | refine W.block ?_ | refine W.skip ?_ | refine W.exit ?_ | refine W.region tab_ok 0 (by decide) (exec_run (by simp only [exa, beq_self_eq_true, ByteArray.size, Nat.reduceAdd, Nat.reduceLeDiff, Nat.reduceEqDiff, Nat.reduceMul, Int.reduceToNat, reduceIte, Int.reduceLE, Int.reduceNeg]; rfl)) ?_)
  have hG : ∀ l, GoodM R.keep slotH 1000 1001 1002 1003 (memH cs mn l) := fun l => by
    refine ⟨?_, rfl, rfl, rfl, rfl, ?_, kept_not hkeep⟩
    · unfold memH
      show MWf _ _
      (repeat (first | exact mwf_nil _ | refine mwf_upd ?_ (by simp [A.ids, O.ids, upd_app])))
    · show SWf _ _
      unfold memH slotH
      (repeat (first | exact swf_top _ | refine swf_upd ?_ (by simp [A.ids, upd_app])))
  have hul := upX_len cs (cs.length + 1) 0 name
  refine W.rangeUp cs name mn 1000 1001 1002 1003 slotH (fun k => memH cs mn (upNames cs ((upX cs (cs.length + 1) 0 name).take k))) (fun _ => True) (by omega) rfl rfl rfl (by decide) rfl rfl (by decide) trivial rfl ?sle ?sn ?m0 (fun k _ => hG _) ?round ?done
  case sle =>
    unfold slotH
    (repeat (first | exact sle_top _ | exact sle_refl _ | refine sle_upd ?_ (by first | rfl | (simp only [upd_app, entry_zero, entry_succ, Nat.reduceEqDiff, reduceIte]; done))))
  case sn =>
    unfold slotH
    (repeat (first | exact sn_top | refine sn_upd ?_ (by decide)))
  case m0 =>
    refine mle_some ?_
    unfold memH
    (repeat (first | exact mle_nil _ | exact mle_refl _ | refine mle_upd ?_ (by first | rfl | (simp only [upd_app, killM_app, Nat.reduceEqDiff, reduceIte, List.take_zero, upNames, List.flatMap_nil, List.map_nil]; done))))
  case round =>
    intro R' l hk' k j kc x1 x2 xL _ hitem hkc
    have hn50 : ¬ R'.keep 50 := fun h => by
      rw [hk', hkeep] at h
      rcases h with h | ⟨t, h⟩ | h
      · exact h
      · have := slotH_ids t 50 h; omega
      · omega
    have hF : List.map cStr (upNames cs ((upX cs (cs.length + 1) 0 name).take k)) ++ [cStr kc.name] = List.map cStr (upNames cs ((upX cs (cs.length + 1) 0 name).take (k + 1))) := by
      rw [List.take_add_one, hitem]
      simp [upNames, nameAt, hkc]
    repeat (first | refine WI.seq ?_ | refine WI.block ?_ | refine WI.skip ?_ | refine WI.exit ?_ | refine WI.region tab_ok 0 (by decide) (by kernel_rfl) (exec_run (by simp only [exa, beq_self_eq_true, ByteArray.size, Nat.reduceAdd, Nat.reduceLeDiff, Nat.reduceEqDiff, Nat.reduceMul, Int.reduceToNat, reduceIte, Int.reduceLE, Int.reduceNeg, fullM, memH, slotH, cClass]; rfl)) ?_)
    refine ⟨rfl, fun xL' => ?_⟩
    repeat (first | refine WI.seq ?_ | refine WI.block ?_ | refine WI.skip ?_ | refine WI.exit ?_ | refine WI.region tab_ok 0 (by decide) (by kernel_rfl) (exec_run (by simp only [exa, beq_self_eq_true, ByteArray.size, Nat.reduceAdd, Nat.reduceLeDiff, Nat.reduceEqDiff, Nat.reduceMul, Int.reduceToNat, reduceIte, Int.reduceLE, Int.reduceNeg, fullM, memH, slotH, cClass]; rfl)) ?_)
    refine WI.regionK tab_ok 0 (by decide) (by kernel_rfl) ?_
    refine runk_split 4 (by simp only [exa, beq_self_eq_true, ByteArray.size, Nat.reduceAdd, Nat.reduceLeDiff, Nat.reduceEqDiff, Nat.reduceMul, Int.reduceToNat, reduceIte, Int.reduceLE, Int.reduceNeg, fullM, memH, slotH]; rfl) ?_
    refine runk_append tab_ok 50 rfl rfl rfl rfl rfl rfl rfl rfl (by first | rfl | (simp only [exa, beq_self_eq_true, ByteArray.size, Nat.reduceAdd, Nat.reduceLeDiff, Nat.reduceEqDiff, Nat.reduceMul, Int.reduceToNat, reduceIte, Int.reduceLE, Int.reduceNeg, fullM, memH, slotH]; rfl)) rfl rfl rfl rfl hn50 (by simp) (by have h1 := upNames_len cs ((upX cs (cs.length + 1) 0 name).take k); have h3 := List.length_take_le k (upX cs (cs.length + 1) 0 name); have h4 := (List.getElem?_eq_some_iff.1 hitem).1; simp only [List.length_map, List.length_cons, List.length_nil, List.length_take] at *; omega) (by decide) ?_
    refine runk_exec (by simp only [exa, beq_self_eq_true, ByteArray.size, Nat.reduceAdd, Nat.reduceLeDiff, Nat.reduceEqDiff, Nat.reduceMul, Int.reduceToNat, reduceIte, Int.reduceLE, Int.reduceNeg, fullM, memH, slotH]; rfl) ?_
    repeat (first | refine WI.seq ?_ | refine WI.block ?_ | refine WI.skip ?_ | refine WI.exit ?_ | refine WI.region tab_ok 0 (by decide) (by kernel_rfl) (exec_run (by simp only [exa, beq_self_eq_true, ByteArray.size, Nat.reduceAdd, Nat.reduceLeDiff, Nat.reduceEqDiff, Nat.reduceMul, Int.reduceToNat, reduceIte, Int.reduceLE, Int.reduceNeg, fullM, memH, slotH]; rfl)) ?_)
    refine ⟨trivial, fun j => j, Le.toT ?_⟩
    simp only [fullM, memH, ← hF]
    refine le_mk ?sle ?mle ?swf ?mwf (fun j hj => fullM_keep (hF ▸ hG _) hj) (by rfl)
    case swf => repeat (first | exact swf_top _ | refine swf_upd ?_ (by simp [A.ids, upd_app, fullM, memH, cStr]))
    case mwf => repeat (first | exact mwf_nil _ | refine mwf_upd ?_ (by simp [A.ids, O.ids, upd_app, fullM, memH, cStr]))
    case mle => repeat (first | exact mle_nil _ | exact mle_refl _ | refine mle_upd ?_ (by first | rfl | (simp only [upd_app, killM_app, O.kill, A.kill, Nat.reduceEqDiff, reduceIte, Option.map_some, Option.map_none, List.map_cons, List.map_nil, fullM, memH, cStr]; done)))
    case sle => repeat (first | exact sle_top _ | exact sle_refl _ | refine sle_upd ?_ (by first | rfl | (simp only [upd_app, killS_app, A.kill, entry_zero, entry_succ, Nat.reduceEqDiff, reduceIte, fullM, memH, cStr]; done)))
  case done =>
    intro _ b
    rw [List.take_length]
    repeat (first | refine W.seq ?_ | refine W.block ?_ | refine W.skip ?_ | refine W.exit ?_ | refine W.region tab_ok 0 (by decide) (exec_run (by simp only [exa, beq_self_eq_true, ByteArray.size, Nat.reduceAdd, Nat.reduceLeDiff, Nat.reduceEqDiff, Nat.reduceMul, Int.reduceToNat, reduceIte, Int.reduceLE, Int.reduceNeg, doneS, doneM, DID, memH, slotH]; rfl)) ?_)
    refine W.ret ⟨.inr rfl, .inr ⟨b, 1002, rfl, rfl, rfl, ?_⟩⟩
    simp only [Try.f43, resA, resOne, toT, fin, doneS, doneM, DID, exa, beq_self_eq_true, ByteArray.size, Nat.reduceAdd, Nat.reduceLeDiff, Nat.reduceEqDiff, Nat.reduceMul, Int.reduceToNat, reduceIte, Int.reduceLE, Int.reduceNeg, memH]
    simp [chainR]
theorem index_ok (l : List ByteArray) (s : ByteArray) (hlen : l.length ≤ 1000000000000) (m : Mem) : COk Try.prog 66 [.c (.sl (l.map cStr)), .c (.str s)] m (.c (.int .i64 (idxB (fun x => s.toList == x.toList) l))) := by
  refine (ok_pure tab_ok Try.func66 (by kernel_rfl) rfl rfl (by rfl) (by rfl) (by rfl) (fun R hkeep => ?_) m)
  repeat (first | refine W.seq ?_ | refine W.block ?_ | refine W.skip ?_ | refine W.exit ?_ | refine W.region tab_ok 0 (by decide) (exec_run (by simp only [exa, beq_self_eq_true, ByteArray.size, Nat.reduceAdd, Nat.reduceLeDiff, Nat.reduceEqDiff, Nat.reduceMul, Int.reduceToNat, reduceIte, Int.reduceLE, Int.reduceNeg]; rfl)) ?_)
  refine W.loop (ι := Nat) (fun k => ⟨upd (upd (upd (upd (upd (fun _ => .top) 0 (.c (.sl (l.map cStr)))) 1 (.c (.str s))) 4 (.c (.int .i64 0))) 7 (.c (.int .i64 l.length))) 8 (.c (.int .i64 k)), Mem.nil⟩) (fun k => k ≤ l.length ∧ (l.take k).any (fun x => s.toList == x.toList) = false) (fun k => l.length - k) 0 ?start ⟨Nat.zero_le _, rfl⟩ ?round
  case start =>
    refine le_mk ?sle ?mle ?swf ?mwf ?kept (by rfl)
    case kept => exact kept_not hkeep
    case swf => repeat (first | exact swf_top _ | refine swf_upd ?_ (by simp [A.ids, upd_app]))
    case mwf => repeat (first | exact mwf_nil _ | refine mwf_upd ?_ (by simp [A.ids, O.ids, upd_app]))
    case mle => repeat (first | exact mle_nil _ | exact mle_refl _ | refine mle_upd ?_ (by first | rfl | (simp only [upd_app, killM_app, Nat.reduceEqDiff, reduceIte]; done)))
    case sle => repeat (first | exact sle_top _ | exact sle_refl _ | refine sle_upd ?_ (by first | rfl | (simp only [upd_app, entry_zero, entry_succ, Nat.reduceEqDiff, reduceIte]; done)))
  case round =>
    rintro k ⟨hkl, hno⟩
    repeat (first | refine W.seq ?_ | refine W.block ?_ | refine W.skip ?_ | refine W.exit ?_ | refine W.region tab_ok 0 (by decide) (exec_run (by simp only [exa, beq_self_eq_true, ByteArray.size, Nat.reduceAdd, Nat.reduceLeDiff, Nat.reduceEqDiff, Nat.reduceMul, Int.reduceToNat, reduceIte, Int.reduceLE, Int.reduceNeg]; rfl)) ?_)
    refine W.cond rfl ?_ ?_
    · intro hlt
      simp only [decide_eq_true_eq, Int.ofNat_lt] at hlt
      obtain ⟨x, hx⟩ : ∃ x, l[k]? = some x := ⟨_, List.getElem?_eq_getElem hlt⟩
      repeat (first | refine W.seq ?_ | refine W.block ?_ | refine W.skip ?_ | refine W.exit ?_ | refine W.region tab_ok 0 (by decide) (exec_run (by simp only [exa, beq_self_eq_true, ByteArray.size, Nat.reduceAdd, Nat.reduceLeDiff, Nat.reduceEqDiff, Nat.reduceMul, Int.reduceToNat, reduceIte, Int.reduceLE, Int.reduceNeg, at_map hx, cStr]; rfl)) ?_)
      refine W.cond rfl ?_ ?_
      · intro hp
        repeat (first | refine W.seq ?_ | refine W.block ?_ | refine W.skip ?_ | refine W.exit ?_ | refine W.region tab_ok 0 (by decide) (exec_run (by simp only [exa, beq_self_eq_true, ByteArray.size, Nat.reduceAdd, Nat.reduceLeDiff, Nat.reduceEqDiff, Nat.reduceMul, Int.reduceToNat, reduceIte, Int.reduceLE, Int.reduceNeg]; rfl)) ?_)
        refine W.ret ⟨.inr rfl, by rfl, ?_⟩
        simp only [Try.f66, resA, resOne, toT, fin, exa, beq_self_eq_true, ByteArray.size, Nat.reduceAdd, Nat.reduceLeDiff, Nat.reduceEqDiff, Nat.reduceMul, Int.reduceToNat, reduceIte, Int.reduceLE, Int.reduceNeg]
        rw [idxB_at hno hx hp]
      · intro hp
        repeat (first | refine W.seq ?_ | refine W.block ?_ | refine W.skip ?_ | refine W.exit ?_ | refine W.region tab_ok 0 (by decide) (exec_run (by simp only [exa, beq_self_eq_true, ByteArray.size, Nat.reduceAdd, Nat.reduceLeDiff, Nat.reduceEqDiff, Nat.reduceMul, Int.reduceToNat, reduceIte, Int.reduceLE, Int.reduceNeg]; rfl)) ?_)
        refine ⟨k + 1, ⟨hlt, ?_⟩, by omega, ?_⟩
        · rw [List.take_add_one, hx, List.any_append, hno]; simpa using hp
        refine le_mk ?sle ?mle ?swf ?mwf ?kept (by rfl)
        case kept => exact kept_not hkeep
        case swf => repeat (first | exact swf_top _ | refine swf_upd ?_ (by simp [A.ids, upd_app]))
        case mwf => repeat (first | exact mwf_nil _ | refine mwf_upd ?_ (by simp [A.ids, O.ids, upd_app]))
        case mle => repeat (first | exact mle_nil _ | exact mle_refl _ | refine mle_upd ?_ (by first | rfl | (simp only [upd_app, killM_app, Nat.reduceEqDiff, reduceIte, wrap_succ (show k + 1 < 9223372036854775808 by omega)]; done)))
        case sle => repeat (first | exact sle_top _ | exact sle_refl _ | refine sle_upd ?_ (by first | rfl | (simp only [upd_app, entry_zero, entry_succ, Nat.reduceEqDiff, reduceIte, wrap_succ (show k + 1 < 9223372036854775808 by omega)]; done)))
    · intro hge
      simp only [decide_eq_false_iff_not, Int.ofNat_lt] at hge
      obtain rfl : k = l.length := by omega
      rw [List.take_length] at hno
      repeat (first | refine W.seq ?_ | refine W.block ?_ | refine W.skip ?_ | refine W.exit ?_ | refine W.region tab_ok 0 (by decide) (exec_run (by simp only [exa, beq_self_eq_true, ByteArray.size, Nat.reduceAdd, Nat.reduceLeDiff, Nat.reduceEqDiff, Nat.reduceMul, Int.reduceToNat, reduceIte, Int.reduceLE, Int.reduceNeg]; rfl)) ?_)
      refine W.ret ⟨.inr rfl, by rfl, ?_⟩
      simp only [Try.f66, resA, resOne, toT, fin, exa, beq_self_eq_true, ByteArray.size, Nat.reduceAdd, Nat.reduceLeDiff, Nat.reduceEqDiff, Nat.reduceMul, Int.reduceToNat, reduceIte, Int.reduceLE, Int.reduceNeg]
      rw [idxB_none hno]
theorem contains_ok (l : List ByteArray) (s : ByteArray) (hlen : l.length ≤ 1000000000000) (m : Mem) : COk Try.prog 42 [.c (.sl (l.map cStr)), .c (.str s)] m (.c (.bool (l.any (fun x => s.toList == x.toList)))) := by
  refine (ok_pure tab_ok Try.func42 (by kernel_rfl) rfl rfl (by rfl) (by rfl) (by rfl) (fun R hkeep => ?_) m)
  repeat (first | refine W.seq ?_ | refine W.block ?_ | refine W.skip ?_ | refine W.exit ?_ | refine W.region tab_ok 0 (by decide) (exec_run (by simp only [exa, beq_self_eq_true, ByteArray.size, Nat.reduceAdd, Nat.reduceLeDiff, Nat.reduceEqDiff, Nat.reduceMul, Int.reduceToNat, reduceIte, Int.reduceLE, Int.reduceNeg]; rfl)) ?_)
  refine W.regionK tab_ok 0 (by decide) ?_
  refine runk_split 2 (by simp only [exa, beq_self_eq_true, ByteArray.size, Nat.reduceAdd, Nat.reduceLeDiff, Nat.reduceEqDiff, Nat.reduceMul, Int.reduceToNat, reduceIte, Int.reduceLE, Int.reduceNeg]; rfl) ?_
  refine runk_call rfl rfl rfl rfl rfl (by simp) (cvs_cons cv_refl (cvs_cons cv_refl cvs_nil)) (index_ok l s hlen _) ?_
  refine runk_exec (by simp only [exa, beq_self_eq_true, ByteArray.size, Nat.reduceAdd, Nat.reduceLeDiff, Nat.reduceEqDiff, Nat.reduceMul, Int.reduceToNat, reduceIte, Int.reduceLE, Int.reduceNeg]; rfl) ?_
  repeat (first | refine W.seq ?_ | refine W.block ?_ | refine W.skip ?_ | refine W.exit ?_ | refine W.region tab_ok 0 (by decide) (exec_run (by simp only [exa, beq_self_eq_true, ByteArray.size, Nat.reduceAdd, Nat.reduceLeDiff, Nat.reduceEqDiff, Nat.reduceMul, Int.reduceToNat, reduceIte, Int.reduceLE, Int.reduceNeg]; rfl)) ?_)
  refine W.ret ⟨.inr rfl, by rfl, ?_⟩
  simp only [Try.f42, resA, resOne, toT, fin, exa, beq_self_eq_true, ByteArray.size, Nat.reduceAdd, Nat.reduceLeDiff, Nat.reduceEqDiff, Nat.reduceMul, Int.reduceToNat, reduceIte, Int.reduceLE, Int.reduceNeg]
  rw [idxB_any (fun x : ByteArray => s.toList == x.toList) l]
def belowR (E : Int) (cs : List Class) (a b : ByteArray) : Bool := (chainR E cs a).any (fun x => b.toList == x.toList)
theorem chainR_len (E : Int) (cs : List Class) (n : ByteArray) : (chainR E cs n).length ≤ cs.length + 1 := by
  unfold chainR
  split
  · exact Nat.le_trans (upNames_len _ _) (upX_len _ _ _ _)
  · simp
theorem below_ok (p : Program) (E : Int) (a b : ByteArray) (hlen : p.classes.length ≤ 1000000000) (hchk : ∀ m, COk Try.prog 9 [.agg (cProg p)] m (.c (.int .i64 E))) (m : Mem) :
    COk Try.prog 20 [.agg (cProg p), .c (.str a), .c (.str b)] m (.c (.bool (belowR E p.classes a b))) := by
  have hcl := chainR_len E p.classes a
  refine (ok_pure tab_ok Try.func20 (by kernel_rfl) rfl rfl (by rfl) (by rfl) (by rfl) (fun R hkeep => ?_) m)
  repeat (first | refine W.seq ?_ | refine W.block ?_ | refine W.skip ?_ | refine W.exit ?_ | refine W.region tab_ok 0 (by decide) (exec_run (by simp only [exa, beq_self_eq_true, ByteArray.size, Nat.reduceAdd, Nat.reduceLeDiff, Nat.reduceEqDiff, Nat.reduceMul, Int.reduceToNat, reduceIte, Int.reduceLE, Int.reduceNeg, cProg]; rfl)) ?_)
  refine W.regionK tab_ok 0 (by decide) ?_
  refine runk_split 2 (by simp only [exa, beq_self_eq_true, ByteArray.size, Nat.reduceAdd, Nat.reduceLeDiff, Nat.reduceEqDiff, Nat.reduceMul, Int.reduceToNat, reduceIte, Int.reduceLE, Int.reduceNeg, cProg]; rfl) ?_
  refine runk_call rfl rfl rfl rfl rfl (by simp) (cvs_cons cv_refl (cvs_cons cv_refl cvs_nil)) (chainP_ok p E a hlen hchk _) ?_
  refine runk_split 1 (by simp only [exa, beq_self_eq_true, ByteArray.size, Nat.reduceAdd, Nat.reduceLeDiff, Nat.reduceEqDiff, Nat.reduceMul, Int.reduceToNat, reduceIte, Int.reduceLE, Int.reduceNeg, cProg]; rfl) ?_
  refine runk_call rfl rfl rfl rfl rfl (by simp) (cvs_cons cv_refl (cvs_cons cv_refl cvs_nil)) (contains_ok (chainR E p.classes a) b (by omega) _) ?_
  refine runk_exec (by simp only [exa, beq_self_eq_true, ByteArray.size, Nat.reduceAdd, Nat.reduceLeDiff, Nat.reduceEqDiff, Nat.reduceMul, Int.reduceToNat, reduceIte, Int.reduceLE, Int.reduceNeg]; rfl) ?_
  refine W.ret ⟨.inr rfl, by rfl, ?_⟩
  simp only [Try.f20, resA, resOne, toT, fin, exa, beq_self_eq_true, ByteArray.size, Nat.reduceAdd, Nat.reduceLeDiff, Nat.reduceEqDiff, Nat.reduceMul, Int.reduceToNat, reduceIte, Int.reduceLE, Int.reduceNeg]
  rfl
end V
end Go.Proofs.Ythhpcjoaogmhbaa
end
section
namespace Go.Proofs.Ythhpcjoaogmhbaa
namespace V
open Go.RowKit
set_option linter.unusedSimpArgs false
def refChainF (E : Int) (cs : List Class) (n : ByteArray) : List ByteArray := if E = 0 then chainF cs (cs.length + 1) n else []
theorem refChain_ok (p : Program) (E : Int) (name : ByteArray) (hlen : p.classes.length ≤ 1000000000) (hchk : ∀ m, COk Try.prog 11 [.agg (cProg p)] m (.c (.int .i64 E))) (m : Mem) :
    COk Try.prog 51 [.agg (cProg p), .c (.str name)] m (.c (.sl ((refChainF E p.classes name).map cStr))) := by
  obtain ⟨cs, mn⟩ := p
  dsimp only at hlen hchk ⊢
  refine (ok_pure tab_ok Try.func51 (by kernel_rfl) rfl rfl (by rfl) (by rfl) (by rfl) (fun R hkeep => ?_) m)
  repeat (first | refine W.seq ?_ | refine W.block ?_ | refine W.skip ?_ | refine W.exit ?_ | refine W.region tab_ok 0 (by decide) (exec_run (by simp only [exa, beq_self_eq_true, ByteArray.size, Nat.reduceAdd, Nat.reduceLeDiff, Nat.reduceEqDiff, Nat.reduceMul, Int.reduceToNat, reduceIte, Int.reduceLE, Int.reduceNeg, cProg]; rfl)) ?_)
  refine W.regionK tab_ok 0 (by decide) ?_
  refine runk_split 1 (by simp only [exa, beq_self_eq_true, ByteArray.size, Nat.reduceAdd, Nat.reduceLeDiff, Nat.reduceEqDiff, Nat.reduceMul, Int.reduceToNat, reduceIte, Int.reduceLE, Int.reduceNeg, cProg]; rfl) ?_
  refine runk_call rfl rfl rfl rfl rfl (by simp) (cvs_cons cv_refl cvs_nil) (hchk _) ?_
  refine runk_exec (by simp only [exa, beq_self_eq_true, ByteArray.size, Nat.reduceAdd, Nat.reduceLeDiff, Nat.reduceEqDiff, Nat.reduceMul, Int.reduceToNat, reduceIte, Int.reduceLE, Int.reduceNeg]; rfl) ?_
  refine W.cond rfl ?_ ?_
  · intro h
    have he : E ≠ 0 := by simpa using h
    repeat (first | refine W.seq ?_ | refine W.block ?_ | refine W.skip ?_ | refine W.exit ?_ | refine W.region tab_ok 0 (by decide) (exec_run (by simp only [exa, beq_self_eq_true, ByteArray.size, Nat.reduceAdd, Nat.reduceLeDiff, Nat.reduceEqDiff, Nat.reduceMul, Int.reduceToNat, reduceIte, Int.reduceLE, Int.reduceNeg]; rfl)) ?_)
    refine W.ret ⟨.inr rfl, by rfl, ?_⟩
    simp only [Try.f51, resA, resOne, toT, fin, exa, beq_self_eq_true, ByteArray.size, Nat.reduceAdd, Nat.reduceLeDiff, Nat.reduceEqDiff, Nat.reduceMul, Int.reduceToNat, reduceIte, Int.reduceLE, Int.reduceNeg]
    simp [refChainF, he]
  intro h
  have he : E = 0 := by simpa using h
  repeat (first | refine W.seq ?_ | refine W.block ?_ | refine W.skip ?_ | refine W.exit ?_ | refine W.region tab_ok 0 (by decide) (exec_run (by simp only [exa, beq_self_eq_true, ByteArray.size, Nat.reduceAdd, Nat.reduceLeDiff, Nat.reduceEqDiff, Nat.reduceMul, Int.reduceToNat, reduceIte, Int.reduceLE, Int.reduceNeg]; rfl)) ?_)
  refine W.regionK tab_ok 0 (by decide) ?_
  refine runk_split 2 (by simp only [exa, beq_self_eq_true, ByteArray.size, Nat.reduceAdd, Nat.reduceLeDiff, Nat.reduceEqDiff, Nat.reduceMul, Int.reduceToNat, reduceIte, Int.reduceLE, Int.reduceNeg, cProg]; rfl) ?_
  refine runk_call rfl rfl rfl rfl rfl (by simp) (cvs_cons cv_refl (cvs_cons cv_refl cvs_nil)) (chain_ok cs (.sl (cStmts mn)) name hlen _) ?_
  refine runk_exec (by simp only [exa, beq_self_eq_true, ByteArray.size, Nat.reduceAdd, Nat.reduceLeDiff, Nat.reduceEqDiff, Nat.reduceMul, Int.reduceToNat, reduceIte, Int.reduceLE, Int.reduceNeg]; rfl) ?_
  repeat (first | refine W.seq ?_ | refine W.block ?_ | refine W.skip ?_ | refine W.exit ?_ | refine W.region tab_ok 0 (by decide) (exec_run (by simp only [exa, beq_self_eq_true, ByteArray.size, Nat.reduceAdd, Nat.reduceLeDiff, Nat.reduceEqDiff, Nat.reduceMul, Int.reduceToNat, reduceIte, Int.reduceLE, Int.reduceNeg]; rfl)) ?_)
  refine W.ret ⟨.inr rfl, by rfl, ?_⟩
  simp only [Try.f51, resA, resOne, toT, fin, exa, beq_self_eq_true, ByteArray.size, Nat.reduceAdd, Nat.reduceLeDiff, Nat.reduceEqDiff, Nat.reduceMul, Int.reduceToNat, reduceIte, Int.reduceLE, Int.reduceNeg]
  simp [refChainF, he]
theorem refBelow_ok (p : Program) (E : Int) (a b : ByteArray) (hlen : p.classes.length ≤ 1000000000) (hchk : ∀ m, COk Try.prog 11 [.agg (cProg p)] m (.c (.int .i64 E))) (m : Mem) :
    COk Try.prog 29 [.agg (cProg p), .c (.str a), .c (.str b)] m (.c (.bool ((refChainF E p.classes a).any (fun x => x.toList == b.toList)))) := by
  have hc := fun m => refChain_ok p E a hlen hchk m
  have hL : (refChainF E p.classes a).length ≤ 1000000001 := by
    unfold refChainF
    split
    · have := chainF_len p.classes (p.classes.length + 1) a; omega
    · simp
  generalize refChainF E p.classes a = L at *
  refine (ok_pure tab_ok Try.func29 (by kernel_rfl) rfl rfl (by rfl) (by rfl) (by rfl) (fun R hkeep => ?_) m)
  repeat (first | refine W.seq ?_ | refine W.block ?_ | refine W.skip ?_ | refine W.exit ?_ | refine W.region tab_ok 0 (by decide) (exec_run (by simp only [exa, beq_self_eq_true, ByteArray.size, Nat.reduceAdd, Nat.reduceLeDiff, Nat.reduceEqDiff, Nat.reduceMul, Int.reduceToNat, reduceIte, Int.reduceLE, Int.reduceNeg]; rfl)) ?_)
  refine W.regionK tab_ok 0 (by decide) ?_
  refine runk_split 2 (by simp only [exa, beq_self_eq_true, ByteArray.size, Nat.reduceAdd, Nat.reduceLeDiff, Nat.reduceEqDiff, Nat.reduceMul, Int.reduceToNat, reduceIte, Int.reduceLE, Int.reduceNeg]; rfl) ?_
  refine runk_call rfl rfl rfl rfl rfl (by simp) (cvs_cons cv_refl (cvs_cons cv_refl cvs_nil)) (hc _) ?_
  refine runk_exec (by simp only [exa, beq_self_eq_true, ByteArray.size, Nat.reduceAdd, Nat.reduceLeDiff, Nat.reduceEqDiff, Nat.reduceMul, Int.reduceToNat, reduceIte, Int.reduceLE, Int.reduceNeg]; rfl) ?_
  repeat (first | refine W.seq ?_ | refine W.block ?_ | refine W.skip ?_ | refine W.exit ?_ | refine W.region tab_ok 0 (by decide) (exec_run (by simp only [exa, beq_self_eq_true, ByteArray.size, Nat.reduceAdd, Nat.reduceLeDiff, Nat.reduceEqDiff, Nat.reduceMul, Int.reduceToNat, reduceIte, Int.reduceLE, Int.reduceNeg]; rfl)) ?_)
  refine W.loop (ι := Nat) (fun k => ⟨upd (upd (upd (upd (fun _ => .top) 2 (.c (.str b))) 11 (.c (.sl (L.map cStr)))) 12 (.c (.int .i64 L.length))) 13 (.c (.int .i64 k)), Mem.nil⟩)
    (fun k => k ≤ L.length ∧ ∀ i < k, (L[i]?).any (fun x => x.toList == b.toList) = false) (fun k => L.length - k) 0 ?start ⟨Nat.zero_le _, fun i hi => by omega⟩ ?round
  case start =>
    refine le_mk ?sle ?mle ?swf ?mwf ?kept (by rfl)
    case kept => exact kept_not hkeep
    case swf => repeat (first | exact swf_top _ | refine swf_upd ?_ (by simp [A.ids, upd_app]))
    case mwf => repeat (first | exact mwf_nil _ | refine mwf_upd ?_ (by simp [A.ids, O.ids, upd_app]))
    case mle => repeat (first | exact mle_nil _ | exact mle_refl _ | refine mle_upd ?_ (by first | rfl | (simp only [upd_app, killM_app, Nat.reduceEqDiff, reduceIte]; done)))
    case sle => repeat (first | exact sle_top _ | exact sle_refl _ | refine sle_upd ?_ (by first | rfl | (simp only [upd_app, entry_zero, entry_succ, Nat.reduceEqDiff, reduceIte]; done)))
  case round =>
    rintro k ⟨hk, hall⟩
    repeat (first | refine W.seq ?_ | refine W.block ?_ | refine W.skip ?_ | refine W.exit ?_ | refine W.region tab_ok 0 (by decide) (exec_run (by simp only [exa, beq_self_eq_true, ByteArray.size, Nat.reduceAdd, Nat.reduceLeDiff, Nat.reduceEqDiff, Nat.reduceMul, Int.reduceToNat, reduceIte, Int.reduceLE, Int.reduceNeg]; rfl)) ?_)
    refine W.cond rfl ?_ ?_
    · intro hlt
      simp only [decide_eq_true_eq, Int.ofNat_lt] at hlt
      obtain ⟨x, hx⟩ : ∃ x, L[k]? = some x := ⟨_, List.getElem?_eq_getElem hlt⟩
      repeat (first | refine W.seq ?_ | refine W.block ?_ | refine W.skip ?_ | refine W.exit ?_ | refine W.region tab_ok 0 (by decide) (exec_run (by simp only [exa, beq_self_eq_true, ByteArray.size, Nat.reduceAdd, Nat.reduceLeDiff, Nat.reduceEqDiff, Nat.reduceMul, Int.reduceToNat, reduceIte, Int.reduceLE, Int.reduceNeg, at_map hx, cStr]; rfl)) ?_)
      refine W.cond rfl ?_ ?_
      · intro h
        repeat (first | refine W.seq ?_ | refine W.block ?_ | refine W.skip ?_ | refine W.exit ?_ | refine W.region tab_ok 0 (by decide) (exec_run (by simp only [exa, beq_self_eq_true, ByteArray.size, Nat.reduceAdd, Nat.reduceLeDiff, Nat.reduceEqDiff, Nat.reduceMul, Int.reduceToNat, reduceIte, Int.reduceLE, Int.reduceNeg]; rfl)) ?_)
        refine W.ret ⟨.inr rfl, by rfl, ?_⟩
        simp only [Try.f29, resA, resOne, toT, fin, exa, beq_self_eq_true, ByteArray.size, Nat.reduceAdd, Nat.reduceLeDiff, Nat.reduceEqDiff, Nat.reduceMul, Int.reduceToNat, reduceIte, Int.reduceLE, Int.reduceNeg]
        have h' : (x.toList == b.toList) = true := by simpa using h
        rw [List.any_eq_true.2 ⟨x, List.mem_of_getElem? hx, h'⟩]
      · intro h
        repeat (first | refine W.seq ?_ | refine W.block ?_ | refine W.skip ?_ | refine W.exit ?_ | refine W.region tab_ok 0 (by decide) (exec_run (by simp only [exa, beq_self_eq_true, ByteArray.size, Nat.reduceAdd, Nat.reduceLeDiff, Nat.reduceEqDiff, Nat.reduceMul, Int.reduceToNat, reduceIte, Int.reduceLE, Int.reduceNeg]; rfl)) ?_)
        refine ⟨k + 1, ⟨hlt, fun i hi => ?_⟩, by omega, ?_⟩
        · rcases Nat.lt_succ_iff_lt_or_eq.1 hi with q | q
          · exact hall i q
          · subst q; rw [hx]; simpa using h
        refine le_mk ?sle ?mle ?swf ?mwf ?kept (by rfl)
        case kept => exact kept_not hkeep
        case swf => repeat (first | exact swf_top _ | refine swf_upd ?_ (by simp [A.ids, upd_app]))
        case mwf => repeat (first | exact mwf_nil _ | refine mwf_upd ?_ (by simp [A.ids, O.ids, upd_app]))
        case mle => repeat (first | exact mle_nil _ | exact mle_refl _ | refine mle_upd ?_ (by first | rfl | (simp only [upd_app, killM_app, Nat.reduceEqDiff, reduceIte, wrap_succ (show k + 1 < 9223372036854775808 by omega)]; done)))
        case sle => repeat (first | exact sle_top _ | exact sle_refl _ | refine sle_upd ?_ (by first | rfl | (simp only [upd_app, entry_zero, entry_succ, Nat.reduceEqDiff, reduceIte, wrap_succ (show k + 1 < 9223372036854775808 by omega)]; done)))
    · intro hge
      simp only [decide_eq_false_iff_not, Int.ofNat_lt] at hge
      obtain rfl : k = L.length := by omega
      repeat (first | refine W.seq ?_ | refine W.block ?_ | refine W.skip ?_ | refine W.exit ?_ | refine W.region tab_ok 0 (by decide) (exec_run (by simp only [exa, beq_self_eq_true, ByteArray.size, Nat.reduceAdd, Nat.reduceLeDiff, Nat.reduceEqDiff, Nat.reduceMul, Int.reduceToNat, reduceIte, Int.reduceLE, Int.reduceNeg]; rfl)) ?_)
      refine W.ret ⟨.inr rfl, by rfl, ?_⟩
      simp only [Try.f29, resA, resOne, toT, fin, exa, beq_self_eq_true, ByteArray.size, Nat.reduceAdd, Nat.reduceLeDiff, Nat.reduceEqDiff, Nat.reduceMul, Int.reduceToNat, reduceIte, Int.reduceLE, Int.reduceNeg]
      have : L.any (fun x => x.toList == b.toList) = false := List.any_eq_false.2 fun x hx => by
        obtain ⟨i, hi⟩ := List.getElem?_of_mem hx
        have := hall i (List.getElem?_eq_some_iff.1 hi).1
        rw [hi] at this
        simpa using this
      rw [this]
end V
end Go.Proofs.Ythhpcjoaogmhbaa
end
section
namespace Go.Proofs.Ythhpcjoaogmhbaa
namespace V
open Go.RowKit
theorem treeErr_wf (b : Bool) : (Lit.int .i64 (treeErr b)).wf = true := by cases b <;> decide
theorem refTree_ok (p : Program) (m : Mem) : COk Try.prog 21 [.agg (cProg p)] m (.c (.int .i64 (treeErr (checkB p)))) := by
  refine ⟨enters_of Try.func21 (by kernel_rfl) rfl, rfl, fun m' _ => ?_⟩
  intro w0 I0 B I w vals hm hv
  match vals, hv with
  | [v], ⟨h1, _⟩ =>
    obtain ⟨d, hp⟩ := rprog_of hm.there h1
    refine (refCheck_any d w v p hp).mono ?_
    rintro e w' ⟨rfl, hb⟩
    exact ⟨_, I, rfl, hb, fun _ _ k => k, fun _ _ k => .inl k, .int (treeErr_wf _)⟩
theorem tree_ok (p : Program) (m : Mem) : COk Try.prog 13 [.agg (cProg p)] m (.c (.int .i64 (treeErr (checkB p)))) := by
  refine ⟨enters_of Try.func13 (by kernel_rfl) rfl, rfl, fun m' _ => ?_⟩
  intro w0 I0 B I w vals hm hv
  match vals, hv with
  | [v], ⟨h1, _⟩ =>
    obtain ⟨d, hp⟩ := rprog_of hm.there h1
    refine (check_any d w v p hm.globNow hp).mono ?_
    rintro e w' ⟨rfl, hb⟩
    exact ⟨_, I, rfl, hb, fun _ _ k => k, fun _ _ k => .inl k, .int (treeErr_wf _)⟩
end V
end Go.Proofs.Ythhpcjoaogmhbaa
end
section
set_option linter.unusedVariables false
set_option linter.unusedSimpArgs false
namespace Go.Proofs.Ythhpcjoaogmhbaa
namespace V
theorem toList_loop (bs : ByteArray) : ∀ (n i : Nat) (r : List UInt8), bs.size - i = n → ByteArray.toList.loop bs i r = r.reverse ++ bs.data.toList.drop i := by
  intro n
  induction n with
  | zero =>
    intro i r h
    unfold ByteArray.toList.loop
    have : ¬ i < bs.size := by omega
    rw [if_neg this, List.drop_eq_nil_of_le (by rw [Array.length_toList]; show bs.size ≤ i; omega)]
    simp
  | succ n ih =>
    intro i r h
    have hi : i < bs.size := by omega
    unfold ByteArray.toList.loop
    rw [if_pos hi, ih (i + 1) _ (by omega)]
    have hl : i < bs.data.toList.length := by rw [Array.length_toList]; exact hi
    rw [List.drop_eq_getElem_cons hl]
    have : bs.get! i = bs.data.toList[i] := by
      have hi' : i < bs.data.size := hi
      show bs.data[i]! = _
      rw [getElem!_pos bs.data i hi']; simp
    rw [this]; simp
theorem toList_data (s : ByteArray) : s.toList = s.data.toList := by
  unfold ByteArray.toList
  rw [toList_loop s _ 0 [] rfl]; simp
theorem toList_inj {a b : ByteArray} : a.toList = b.toList ↔ a = b := by
  rw [toList_data, toList_data]
  refine ⟨fun h => ?_, fun h => by rw [h]⟩
  cases a; cases b
  simpa using h
theorem beq_bytes {a b : ByteArray} : (a.toList == b.toList) = true ↔ a = b := by rw [beq_iff_eq, toList_inj]
theorem onceB_iff {l : List ByteArray} : onceB l = true ↔ l.Nodup := by
  unfold onceB
  rw [decide_eq_true_eq]
  have e : (fun s : ByteArray => s.data.toList) = ByteArray.toList := funext fun s => (toList_data s).symm
  rw [e]
  exact ⟨fun h => (List.pairwise_map.1 h).imp fun hab e => hab (by rw [e]), fun h => List.Pairwise.map _ (fun a b hab hc => hab (toList_inj.1 hc)) h⟩
def chainC (cs : List Class) : Nat → ByteArray → List Class
  | 0, _ => []
  | k + 1, name => match cs.find? (nameIs name) with
    | none => []
    | some c => c :: chainC cs k c.super
theorem named_name : namedB = nameIs := rfl
theorem find_name {cs : List Class} {name : ByteArray} {c : Class} (h : cs.find? (nameIs name) = some c) : c.name = name ∧ c ∈ cs := by
  refine ⟨?_, List.mem_of_find?_eq_some h⟩
  have := List.find?_some h
  exact beq_bytes.1 this
theorem findJ_find (cs : List Class) (name : ByteArray) : (∀ j, findJ cs name = some j → cs[j]? = cs.find? (nameIs name) ∧ (cs.find? (nameIs name)).isSome = true) ∧ (findJ cs name = none → cs.find? (nameIs name) = none) := by
  obtain ⟨h1, h2⟩ := idx_find (namedB name) cs
  rw [named_name] at h1 h2
  unfold findJ
  rw [named_name]
  refine ⟨fun j hj => ?_, fun h => ?_⟩
  · split at hj
    · rename_i hi
      cases hj
      obtain ⟨x, hx, -⟩ := idxB_spec (nameIs name) cs hi
      exact ⟨h2 hi, by rw [← h2 hi, hx]; rfl⟩
    · cases hj
  · split at h
    · cases h
    · rename_i hi; exact h1 (by omega)
theorem upX_chain (cs : List Class) : ∀ (k m : Nat) (name : ByteArray), ∃ f : Nat → Nat, upX cs k m name = (List.range (chainC cs k name).length).map (fun i => (m + i, f i)) ∧ ∀ i, i < (chainC cs k name).length → cs[f i]? = (chainC cs k name)[i]?
  | 0, m, name => ⟨fun _ => 0, rfl, fun i h => by simp [chainC] at h⟩
  | k + 1, m, name => by
    obtain ⟨h1, h2⟩ := findJ_find cs name
    unfold upX
    cases hj : findJ cs name with
    | none =>
      have := h2 hj
      exact ⟨fun _ => 0, by simp [chainC, this], fun i h => by simp [chainC, this] at h⟩
    | some j =>
      obtain ⟨h3, h4⟩ := h1 j hj
      obtain ⟨c, hc⟩ := Option.isSome_iff_exists.1 h4
      rw [hc] at h3
      have hs : superOf cs j = c.super := by simp [superOf, h3]
      obtain ⟨f, h5, h6⟩ := upX_chain cs k (m + 1) c.super
      refine ⟨fun i => if i = 0 then j else f (i - 1), ?_, fun i hi => ?_⟩
      · dsimp only
        rw [hs, h5]
        simp only [chainC, hc, List.length_cons, List.range_succ_eq_map, List.map_cons, List.map_map]
        congr 1
        refine List.map_congr_left fun i _ => ?_
        simp [Nat.add_assoc, Nat.add_comm 1 i]
      · simp only [chainC, hc, List.length_cons] at hi ⊢
        cases i with
        | zero => simpa using h3
        | succ i => simpa using h6 i (by omega)
theorem chainF_chain (cs : List Class) : ∀ (k : Nat) (name : ByteArray), chainF cs k name = (chainC cs k name).map (·.name)
  | 0, _ => rfl
  | k + 1, name => by
    unfold chainF chainC
    cases h : cs.find? (nameIs name) with
    | none => rfl
    | some c => simp [chainF_chain cs k c.super, (find_name h).1]
theorem chainC_mem (cs : List Class) : ∀ (k : Nat) (name : ByteArray), ∀ d ∈ chainC cs k name, d ∈ cs ∧ cs.find? (nameIs d.name) = some d
  | 0, _, d, hd => by simp [chainC] at hd
  | k + 1, name, d, hd => by
    unfold chainC at hd
    cases h : cs.find? (nameIs name) with
    | none => rw [h] at hd; simp at hd
    | some c =>
      rw [h] at hd
      rcases List.mem_cons.1 hd with rfl | hd
      · obtain ⟨h1, h2⟩ := find_name h
        exact ⟨h2, by rw [h1]; exact h⟩
      · exact chainC_mem cs k c.super d hd
theorem chainC_more (cs : List Class) : ∀ (k a : Nat) (name : ByteArray), (chainC cs k name).length < k → chainC cs (k + a) name = chainC cs k name
  | 0, a, name, h => by omega
  | k + 1, a, name, h => by
    rw [Nat.add_right_comm]
    unfold chainC at h ⊢
    cases hf : cs.find? (nameIs name) with
    | none => rfl
    | some c =>
      rw [hf] at h
      simp only [List.length_cons] at h
      simp only
      rw [chainC_more cs k a c.super (by omega)]
theorem chainC_drop (cs : List Class) : ∀ (k i : Nat) (name : ByteArray) (d : Class), (chainC cs k name)[i]? = some d → (chainC cs k name).drop i = chainC cs (k - i) d.name
  | 0, i, name, d, h => by simp [chainC] at h
  | k + 1, 0, name, d, h => by
    rw [List.drop_zero, Nat.sub_zero]
    unfold chainC at h ⊢
    cases hf : cs.find? (nameIs name) with
    | none => rw [hf] at h; simp at h
    | some c =>
      rw [hf] at h
      simp at h; subst h
      rw [(find_name hf).1, hf]
  | k + 1, i + 1, name, d, h => by
    cases hf : cs.find? (nameIs name) with
    | none => simp [chainC, hf] at h
    | some c =>
      have e : chainC cs (k + 1) name = c :: chainC cs k c.super := by
        conv => lhs; unfold chainC
        rw [hf]
      rw [e] at h ⊢
      rw [List.getElem?_cons_succ] at h
      rw [List.drop_succ_cons, Nat.add_sub_add_right]
      exact chainC_drop cs k i c.super d h
theorem classD_of {cs : List Class} {d : Class} (h : cs.find? (nameIs d.name) = some d) : classD cs d.name = d := by unfold classD; rw [h]; rfl
theorem likeB_alike (x y : Method) : likeB x y = alikeB x y := rfl
theorem alike_refl (x : Method) : alikeB x x = true := by simp [alikeB]
theorem alike_iff {x y : Method} : alikeB x y = true ↔ x.type.toList = y.type.toList ∧ typesOf x.params = typesOf y.params := by simp [alikeB]
theorem alike_trans {x y z : Method} (h : alikeB x y = true) (k : alikeB y z = true) : alikeB x z = true := by
  rw [alike_iff] at *; exact ⟨h.1.trans k.1, h.2.trans k.2⟩
theorem upX_all {cs : List Class} {c : Class} (k m : Nat) (name : ByteArray) : (upX cs k m name).all (roundB cs c) = true ↔ ∀ i d, (chainC cs k name)[i]? = some d → topB cs c (m + i) d = true := by
  obtain ⟨f, h1, h2⟩ := upX_chain cs k m name
  rw [h1, List.all_eq_true]
  constructor
  · intro h i d hd
    have hi := (List.getElem?_eq_some_iff.1 hd).1
    have := h (m + i, f i) (List.mem_map.2 ⟨i, List.mem_range.2 hi, rfl⟩)
    rwa [roundB_at ((h2 i hi).trans hd)] at this
  · intro h x hx
    obtain ⟨i, hi, rfl⟩ := List.mem_map.1 hx
    have hi := List.mem_range.1 hi
    have hd := List.getElem?_eq_getElem hi
    rw [roundB_at ((h2 i hi).trans hd)]
    exact h i _ hd
theorem fieldsUp_chain (cs : List Class) (k m : Nat) (name : ByteArray) : fieldsUp cs (upX cs k m name) = (chainC cs k name).flatMap fun d => namesL d.fields := by
  obtain ⟨f, h1, h2⟩ := upX_chain cs k m name
  rw [h1]
  unfold fieldsUp
  have : ∀ (l : List Class), (∀ i, i < l.length → cs[f i]? = l[i]?) → ((List.range l.length).map fun i => (m + i, f i)).flatMap (fieldsAt cs) = l.flatMap fun d => namesL d.fields := by
    intro l h
    have e : (List.range l.length).map (fun i => fieldsAt cs (m + i, f i)) = l.map fun d => namesL d.fields := by
      refine List.ext_getElem? fun i => ?_
      by_cases hi : i < l.length
      · simp only [List.getElem?_map, List.getElem?_range hi, Option.map_some]
        rw [List.getElem?_eq_getElem hi]
        simp [fieldsAt, h i hi, List.getElem?_eq_getElem hi]
      · rw [List.getElem?_eq_none (by simpa using Nat.not_lt.1 hi), List.getElem?_eq_none (by simpa using Nat.not_lt.1 hi)]
    rw [List.flatMap_def, List.map_map, List.flatMap_def]
    exact congrArg List.flatten e
  exact this _ h2
theorem upNames_chain (cs : List Class) (k m : Nat) (name : ByteArray) : upNames cs (upX cs k m name) = (chainC cs k name).map (·.name) := by
  obtain ⟨f, h1, h2⟩ := upX_chain cs k m name
  rw [h1]
  unfold upNames
  have : ∀ (l : List Class), (∀ i, i < l.length → cs[f i]? = l[i]?) → ((List.range l.length).map fun i => (m + i, f i)).flatMap (nameAt cs) = l.map (·.name) := by
    intro l h
    have e : (List.range l.length).map (fun i => nameAt cs (m + i, f i)) = l.map fun d => [d.name] := by
      refine List.ext_getElem? fun i => ?_
      by_cases hi : i < l.length
      · simp only [List.getElem?_map, List.getElem?_range hi, Option.map_some]
        rw [List.getElem?_eq_getElem hi]
        simp [nameAt, h i hi, List.getElem?_eq_getElem hi]
      · rw [List.getElem?_eq_none (by simpa using Nat.not_lt.1 hi), List.getElem?_eq_none (by simpa using Nat.not_lt.1 hi)]
    rw [List.flatMap_def, List.map_map]
    have e2 := congrArg List.flatten e
    refine e2.trans ?_
    clear e e2 h
    induction l with
    | nil => rfl
    | cons x l ih => simp [ih]
  exact this _ h2
theorem twice_iff (l : List Slot) : twiceB l = false ↔ (namesL l).Nodup := by
  unfold twiceB namesL
  rw [List.any_eq_false, List.Nodup, List.pairwise_map, List.pairwise_iff_getElem]
  constructor
  · intro h i j hi hj hij e
    have h1 := h j (List.mem_range.2 hj)
    refine h1 (List.any_eq_true.2 ⟨i, List.mem_range.2 hij, ?_⟩)
    simp [eqAt, List.getElem?_eq_getElem hi, List.getElem?_eq_getElem hj, e]
  · intro h j hj hc
    have hj := List.mem_range.1 hj
    obtain ⟨i, hi, he⟩ := List.any_eq_true.1 hc
    have hij := List.mem_range.1 hi
    have hil : i < l.length := by omega
    have hne := h i j hil hj hij
    simp only [eqAt, List.getElem?_eq_getElem hil, List.getElem?_eq_getElem hj] at he
    exact hne (beq_bytes.1 he).symm
theorem nodup_rows {α : Type} (l : List α) (g : α → ByteArray) : (∀ i x, l[i]? = some x → ((l.take i).any fun o => (g o).toList == (g x).toList) = false) ↔ (l.map g).Nodup := by
  rw [List.Nodup, List.pairwise_map, List.pairwise_iff_getElem]
  constructor
  · intro h i j hi hj hij e
    have h1 := h j l[j] (List.getElem?_eq_getElem hj)
    rw [List.any_eq_false] at h1
    refine h1 l[i] ?_ (beq_bytes.2 e)
    refine List.mem_of_getElem? (i := i) ?_
    rw [List.getElem?_take, if_pos hij]
    exact List.getElem?_eq_getElem hi
  · intro h j x hx
    rw [List.any_eq_false]
    intro o ho hc
    obtain ⟨i, hi⟩ := List.getElem?_of_mem ho
    rw [List.getElem?_take] at hi
    split at hi
    · rename_i hij
      have hj := (List.getElem?_eq_some_iff.1 hx).1
      have hil := (List.getElem?_eq_some_iff.1 hi).1
      have e1 : l[i] = o := (List.getElem?_eq_some_iff.1 hi).2
      have e2 : l[j] = x := (List.getElem?_eq_some_iff.1 hx).2
      have := h i j hil hj hij
      rw [e1, e2] at this
      exact this (beq_bytes.1 hc)
    · cases hi
def nextM (name : ByteArray) : List Class → Option Method
  | [] => none
  | d :: l => match d.methods.find? (methIs name) with | some x => some x | none => nextM name l
theorem methodF_next {cs : List Class} (name : ByteArray) : ∀ l : List Class, (∀ d ∈ l, cs.find? (nameIs d.name) = some d) → (methodF cs name (l.map (·.name))).map (·.1) = nextM name l
  | [], _ => rfl
  | d :: l, h => by
    simp only [List.map_cons, methodF, nextM]
    rw [classD_of (h d (by simp))]
    cases d.methods.find? (methIs name) with
    | some x => rfl
    | none => exact methodF_next name l fun d hd => h d (List.mem_cons_of_mem _ hd)
structure Same0 (cs : List Class) : Prop where
  names : (cs.map (·.name)).Nodup
  sup : ∀ c ∈ cs, c.super.toList = [] ∨ (cs.find? (nameIs c.super)).isSome = true
  len : ∀ c ∈ cs, (chainC cs (cs.length + 1) c.name).length ≤ cs.length
  fields : ∀ c ∈ cs, ((chainC cs (cs.length + 1) c.name).flatMap fun d => namesL d.fields).Nodup
  own : ∀ c ∈ cs, (c.methods.map (·.name)).Nodup
  params : ∀ c ∈ cs, ∀ m ∈ c.methods, (namesL m.params).Nodup
def RefM (cs : List Class) : Prop := ∀ c ∈ cs, ∀ m ∈ c.methods, ∀ o, nextM m.name ((chainC cs (cs.length + 1) c.name).drop 1) = some o → alikeB m o = true
def ProgM (cs : List Class) : Prop := ∀ c ∈ cs, ∀ m ∈ c.methods, ∀ (i : Nat) d, (chainC cs (cs.length + 1) c.name)[i]? = some d → fitsB m d.methods = true
theorem find_uniq {cs : List Class} (h : (cs.map (·.name)).Nodup) {c : Class} (hc : c ∈ cs) : cs.find? (nameIs c.name) = some c := by
  obtain ⟨d, hd⟩ := find_self hc
  rw [hd]
  obtain ⟨h1, h2⟩ := find_name hd
  obtain ⟨i, hi⟩ := List.getElem?_of_mem hc
  obtain ⟨j, hj⟩ := List.getElem?_of_mem h2
  have hi' := (List.getElem?_eq_some_iff.1 hi)
  have hj' := (List.getElem?_eq_some_iff.1 hj)
  rw [List.Nodup, List.pairwise_map, List.pairwise_iff_getElem] at h
  rcases Nat.lt_trichotomy i j with hij | hij | hij
  · exact absurd (by rw [hi'.2, hj'.2]; exact h1.symm) (h i j hi'.1 hj'.1 hij)
  · subst hij; rw [hi] at hj; exact hj.symm
  · exact absurd (by rw [hi'.2, hj'.2]; exact h1) (h j i hj'.1 hi'.1 hij)
theorem next_at {name : ByteArray} : ∀ {l : List Class} {o : Method}, nextM name l = some o → ∃ (i : Nat) (d : Class), l[i]? = some d ∧ d.methods.find? (methIs name) = some o ∧ ∀ j e, j < i → l[j]? = some e → e.methods.find? (methIs name) = none
  | [], o, h => by cases h
  | d :: l, o, h => by
    simp only [nextM] at h
    cases hf : d.methods.find? (methIs name) with
    | some x => rw [hf] at h; cases h; exact ⟨0, d, rfl, hf, fun j e hj => by omega⟩
    | none =>
      rw [hf] at h
      obtain ⟨i, e, h1, h2, h3⟩ := next_at h
      refine ⟨i + 1, e, by simpa using h1, h2, fun j f hj he => ?_⟩
      cases j with
      | zero => simp at he; subst he; exact hf
      | succ j => exact h3 j f (by omega) (by simpa using he)
theorem next_some {name : ByteArray} : ∀ {l : List Class} {i : Nat} {d : Class} {o : Method}, l[i]? = some d → d.methods.find? (methIs name) = some o → ∃ o', nextM name l = some o'
  | [], i, d, o, h, _ => by simp at h
  | e :: l, 0, d, o, h, k => by simp at h; subst h; exact ⟨o, by simp [nextM, k]⟩
  | e :: l, i + 1, d, o, h, k => by
    simp only [nextM]
    cases e.methods.find? (methIs name) with
    | some x => exact ⟨x, rfl⟩
    | none => exact next_some (by simpa using h) k
theorem meth_of {l : List Method} {name : ByteArray} {o : Method} (h : l.find? (methIs name) = some o) : o ∈ l ∧ o.name = name := ⟨List.mem_of_find?_eq_some h, by have := List.find?_some h; exact beq_bytes.1 this⟩
theorem meth_uniq {l : List Method} (h : (l.map (·.name)).Nodup) {m : Method} (hm : m ∈ l) : l.find? (methIs m.name) = some m := by
  cases hf : l.find? (methIs m.name) with
  | none =>
    have := List.find?_eq_none.1 hf m hm
    simp [methIs] at this
  | some o =>
    obtain ⟨h1, h2⟩ := meth_of hf
    obtain ⟨i, hi⟩ := List.getElem?_of_mem hm
    obtain ⟨j, hj⟩ := List.getElem?_of_mem h1
    have hi' := (List.getElem?_eq_some_iff.1 hi)
    have hj' := (List.getElem?_eq_some_iff.1 hj)
    rw [List.Nodup, List.pairwise_map, List.pairwise_iff_getElem] at h
    rcases Nat.lt_trichotomy i j with hij | hij | hij
    · exact absurd (by rw [hi'.2, hj'.2]; exact h2.symm) (h i j hi'.1 hj'.1 hij)
    · subst hij; rw [hi] at hj; exact hj.symm
    · exact absurd (by rw [hi'.2, hj'.2]; exact h2) (h j i hj'.1 hi'.1 hij)
theorem fits_iff {m : Method} {l : List Method} : fitsB m l = true ↔ ∀ o, l.find? (methIs m.name) = some o → alikeB m o = true := by
  unfold fitsB
  have e : methB m.name = methIs m.name := rfl
  rw [e]
  cases l.find? (methIs m.name) with
  | none => simp
  | some o => simp
theorem refM_progM {cs : List Class} (h0 : Same0 cs) : RefM cs ↔ ProgM cs := by
  constructor
  · intro hR
    -- by how far above it stands
    have key : ∀ n, ∀ c ∈ cs, ∀ m ∈ c.methods, ∀ (i : Nat) d, i ≤ n → (chainC cs (cs.length + 1) c.name)[i]? = some d → fitsB m d.methods = true := by
      intro n
      induction n with
      | zero =>
        intro c hc m hm i d hi hd
        obtain rfl : i = 0 := by omega
        have hf := find_uniq h0.names hc
        have : d = c := by
          have h1 : chainC cs (cs.length + 1) c.name = c :: chainC cs cs.length c.super := by
            conv => lhs; unfold chainC
            rw [hf]
          rw [h1] at hd
          simpa using hd.symm
        subst this
        rw [fits_iff]
        intro o ho
        rw [meth_uniq (h0.own d hc) hm] at ho
        cases ho
        exact alike_refl m
      | succ n ih =>
        intro c hc m hm i d hi hd
        rcases Nat.lt_or_ge i (n + 1) with h1 | h1
        · exact ih c hc m hm i d (by omega) hd
        · obtain rfl : i = n + 1 := by omega
          rw [fits_iff]
          intro o ho
          have hd1 : ((chainC cs (cs.length + 1) c.name).drop 1)[n]? = some d := by rw [List.getElem?_drop, Nat.add_comm 1 n]; exact hd
          obtain ⟨o', ho'⟩ := next_some hd1 ho
          have hlike := hR c hc m hm o' ho'
          obtain ⟨q, e, he, hf, hbefore⟩ := next_at ho'
          rw [List.getElem?_drop] at he
          rcases Nat.lt_trichotomy q n with hq | hq | hq
          · -- the next one stands below: from there on
            obtain ⟨hem, hef⟩ := chainC_mem cs _ _ e (List.mem_of_getElem? he)
            obtain ⟨ho1, ho2⟩ := meth_of hf
            have hdr := chainC_drop cs (cs.length + 1) (1 + q) c.name e he
            have hlen := h0.len c hc
            have hmore : chainC cs (cs.length + 1) e.name = (chainC cs (cs.length + 1) c.name).drop (1 + q) := by
              rw [hdr]
              have hl : (chainC cs (cs.length + 1 - (1 + q)) e.name).length < cs.length + 1 - (1 + q) := by
                rw [← hdr, List.length_drop]
                have := (List.getElem?_eq_some_iff.1 he).1
                omega
              have := chainC_more cs (cs.length + 1 - (1 + q)) (1 + q) e.name hl
              rw [show cs.length + 1 - (1 + q) + (1 + q) = cs.length + 1 by have := (List.getElem?_eq_some_iff.1 he).1; omega] at this
              exact this
            have hd2 : (chainC cs (cs.length + 1) e.name)[n + 1 - (1 + q)]? = some d := by
              rw [hmore, List.getElem?_drop]
              rw [show 1 + q + (n + 1 - (1 + q)) = n + 1 by omega]
              exact hd
            have := ih e hem o' ho1 (n + 1 - (1 + q)) d (by omega) hd2
            rw [fits_iff, ho2] at this
            exact alike_trans hlike (this o ho)
          · subst hq
            rw [Nat.add_comm 1 q] at he
            rw [hd] at he
            cases he
            rw [hf] at ho
            cases ho
            exact hlike
          · have := hbefore n d hq hd1
            rw [this] at ho
            cases ho
    exact fun c hc m hm i d hd => key i c hc m hm i d (Nat.le_refl _) hd
  · intro hP c hc m hm o ho
    obtain ⟨i, d, h1, h2, -⟩ := next_at ho
    rw [List.getElem?_drop] at h1
    have := hP c hc m hm _ d h1
    rw [fits_iff] at this
    exact this o h2
end V
end Go.Proofs.Ythhpcjoaogmhbaa
end
section
set_option linter.unusedVariables false
set_option linter.unusedSimpArgs false
namespace Go.Proofs.Ythhpcjoaogmhbaa
namespace V
theorem names_iff {cs : List Class} : namesB cs = true ↔ (cs.map (·.name)).Nodup ∧ ∀ c ∈ cs, c.super.toList = [] ∨ (cs.find? (nameIs c.super)).isSome = true := by
  rw [← nodup_rows]
  unfold namesB
  rw [List.all_eq_true]
  have row : ∀ i c, cs[i]? = some c → (nameRowB cs i = true ↔ ((cs.take i).any fun o => o.name.toList == c.name.toList) = false ∧ (c.super.toList = [] ∨ (cs.find? (nameIs c.super)).isSome = true)) := by
    intro i c hc
    have e : ((cs.take i).any fun d => c.name.toList == d.name.toList) = ((cs.take i).any fun o => o.name.toList == c.name.toList) := by
      congr 1; funext d; exact BEq.comm
    unfold nameRowB
    rw [hc]
    dsimp only
    rw [e]
    simp only [Bool.and_eq_true, Bool.not_eq_true', Bool.or_eq_true, beq_iff_eq]
  constructor
  · intro h
    refine ⟨fun i c hc => ((row i c hc).1 (h i (List.mem_range.2 (List.getElem?_eq_some_iff.1 hc).1))).1, fun c hm => ?_⟩
    obtain ⟨i, hc⟩ := List.getElem?_of_mem hm
    exact ((row i c hc).1 (h i (List.mem_range.2 (List.getElem?_eq_some_iff.1 hc).1))).2
  · rintro ⟨h1, h2⟩ i hi
    have hc := List.getElem?_eq_getElem (List.mem_range.1 hi)
    exact (row i _ hc).2 ⟨h1 i _ hc, h2 _ (List.mem_of_getElem? hc)⟩
theorem fieldsF_perm {cs : List Class} (l : List Class) (h : ∀ d ∈ l, cs.find? (nameIs d.name) = some d) : (namesL (fieldsF cs (l.map (·.name)))).Nodup ↔ (l.flatMap fun d => namesL d.fields).Nodup := by
  have e : namesL (fieldsF cs (l.map (·.name))) = l.reverse.flatMap fun d => namesL d.fields := by
    unfold fieldsF namesL
    rw [← List.map_reverse, List.map_flatMap, List.flatMap_map]
    have : ∀ l' : List Class, (∀ d ∈ l', d ∈ l) → (l'.flatMap fun d => ((classD cs d.name).fields.map (·.name))) = l'.flatMap fun d => d.fields.map (·.name) := by
      intro l'
      induction l' with
      | nil => intro _; rfl
      | cons d l' ih =>
        intro hm
        rw [List.flatMap_cons, List.flatMap_cons, ih fun x hx => hm x (List.mem_cons_of_mem _ hx), classD_of (h d (hm d (by simp)))]
    exact this _ fun d hd => List.mem_reverse.1 hd
  rw [e]
  exact (List.Perm.flatMap_right _ (List.reverse_perm l)).nodup_iff
theorem methods_iff {cs : List Class} (k : Nat) (name : ByteArray) (j : Nat) (l : List Method) : methodsB cs ((chainF cs k name).drop j) l = true ↔ (l.map (·.name)).Nodup ∧ ∀ m ∈ l, (namesL m.params).Nodup ∧ ∀ o, nextM m.name ((chainC cs k name).drop j) = some o → alikeB m o = true := by
  rw [← nodup_rows, chainF_chain, ← List.map_drop]
  have hmem : ∀ d ∈ (chainC cs k name).drop j, cs.find? (nameIs d.name) = some d := fun d hd => (chainC_mem cs k name d (List.mem_of_mem_drop hd)).2
  generalize (chainC cs k name).drop j = ab at hmem ⊢
  unfold methodsB
  rw [List.all_eq_true]
  have row : ∀ i x, l[i]? = some x → (methRowB cs (ab.map (·.name)) l i = true ↔ ((l.take i).any fun o => o.name.toList == x.name.toList) = false ∧ (namesL x.params).Nodup ∧ ∀ o, nextM x.name ab = some o → alikeB x o = true) := by
    intro i x hx
    have hn := methodF_next x.name ab hmem
    unfold methRowB
    rw [hx]
    dsimp only
    rw [← twice_iff]
    cases hm : methodF cs x.name (ab.map (·.name)) with
    | none =>
      rw [hm] at hn
      rw [← hn]
      simp
    | some q =>
      rw [hm] at hn
      rw [← hn]
      obtain ⟨o, n⟩ := q
      simp only [Option.map_some, Bool.and_eq_true, Bool.not_eq_true', Bool.or_eq_false_iff, Option.some.injEq, forall_eq', Bool.not_eq_false', likeB_alike]
      constructor
      · rintro ⟨a, b, c⟩; exact ⟨a, c, b⟩
      · rintro ⟨a, b, c⟩; exact ⟨a, c, b⟩
  constructor
  · intro h
    refine ⟨fun i x hx => ((row i x hx).1 (h i (List.mem_range.2 (List.getElem?_eq_some_iff.1 hx).1))).1, fun x hm => ?_⟩
    obtain ⟨i, hx⟩ := List.getElem?_of_mem hm
    exact ((row i x hx).1 (h i (List.mem_range.2 (List.getElem?_eq_some_iff.1 hx).1))).2
  · rintro ⟨h1, h2⟩ i hi
    have hx := List.getElem?_eq_getElem (List.mem_range.1 hi)
    exact (row i _ hx).2 ⟨h1 i _ hx, h2 _ (List.mem_of_getElem? hx)⟩
theorem ref_iff {cs : List Class} : (namesB cs = true ∧ (List.range cs.length).all (classRowB cs) = true) ↔ Same0 cs ∧ RefM cs := by
  rw [names_iff, List.all_eq_true]
  have row : ∀ i c, cs[i]? = some c → (classRowB cs i = true ↔ (chainC cs (cs.length + 1) c.name).length ≤ cs.length ∧ ((chainC cs (cs.length + 1) c.name).flatMap fun d => namesL d.fields).Nodup ∧ (c.methods.map (·.name)).Nodup ∧ ∀ m ∈ c.methods, (namesL m.params).Nodup ∧ ∀ o, nextM m.name ((chainC cs (cs.length + 1) c.name).drop 1) = some o → alikeB m o = true) := by
    intro i c hc
    unfold classRowB
    rw [hc]
    dsimp only
    rw [Bool.and_eq_true, methods_iff, Bool.not_eq_true', Bool.or_eq_false_iff, twice_iff, chainF_chain, List.length_map, decide_eq_false_iff_not, Nat.not_lt,
      fieldsF_perm _ (fun d hd => (chainC_mem cs _ _ d hd).2), and_assoc]
  constructor
  · rintro ⟨⟨h1, h2⟩, h3⟩
    have R := fun c (hm : c ∈ cs) => (List.getElem?_of_mem hm).elim fun i hc => (row i c hc).1 (h3 i (List.mem_range.2 (List.getElem?_eq_some_iff.1 hc).1))
    exact ⟨⟨h1, h2, fun c hc => (R c hc).1, fun c hc => (R c hc).2.1, fun c hc => (R c hc).2.2.1, fun c hc m hm => ((R c hc).2.2.2 m hm).1⟩, fun c hc m hm => ((R c hc).2.2.2 m hm).2⟩
  · rintro ⟨h, hR⟩
    refine ⟨⟨h.names, h.sup⟩, fun i hi => ?_⟩
    have hx := List.getElem?_eq_getElem (List.mem_range.1 hi)
    have hm := List.mem_of_getElem? hx
    exact (row i _ hx).2 ⟨h.len _ hm, h.fields _ hm, h.own _ hm, fun m hmm => ⟨h.params _ hm m hmm, hR _ hm m hmm⟩⟩
theorem chainC_self {cs : List Class} {c : Class} (h : cs.find? (nameIs c.name) = some c) (k : Nat) : chainC cs (k + 1) c.name = c :: chainC cs k c.super := by
  conv => lhs; unfold chainC
  rw [h]
theorem any_named {cs : List Class} {n : ByteArray} : cs.any (namedB n) = true ↔ (cs.find? (nameIs n)).isSome = true := by
  rw [named_name, List.find?_isSome, List.any_eq_true]
theorem top_iff {cs : List Class} {c d : Class} {m : Nat} : topB cs c m d = true ↔ m ≠ cs.length ∧ (d.super.toList = [] ∨ (cs.find? (nameIs d.super)).isSome = true) ∧ ∀ y ∈ c.methods, fitsB y d.methods = true := by
  unfold topB
  rw [Bool.and_eq_true, Bool.and_eq_true, Bool.or_eq_true, any_named, List.all_eq_true, List.isEmpty_iff, Bool.not_eq_true', decide_eq_false_iff_not, and_assoc]
theorem prog_iff {cs : List Class} : (onceB (cs.map (·.name)) = true ∧ ∀ c ∈ cs, okClassB cs c = true) ↔ Same0 cs ∧ ProgM cs := by
  have row : ∀ c, okClassB cs c = true ↔ (∀ i d, (chainC cs (cs.length + 1) c.name)[i]? = some d → topB cs c (0 + i) d = true) ∧ (∀ m ∈ c.methods, (namesL m.params).Nodup) ∧ ((chainC cs (cs.length + 1) c.name).flatMap fun d => namesL d.fields).Nodup ∧ (c.methods.map (·.name)).Nodup := by
    intro c
    unfold okClassB
    rw [Bool.and_eq_true, Bool.and_eq_true, Bool.and_eq_true, upX_all, List.all_eq_true, fieldsUp_chain, onceB_iff, onceB_iff, and_assoc, and_assoc]
    simp only [onceB_iff]
  rw [onceB_iff]
  constructor
  · rintro ⟨h1, h2⟩
    have R := fun c hc => (row c).1 (h2 c hc)
    refine ⟨⟨h1, fun c hc => ?_, fun c hc => ?_, fun c hc => (R c hc).2.2.1, fun c hc => (R c hc).2.2.2, fun c hc => (R c hc).2.1⟩, fun c hc m hm i d hd => ?_⟩
    · have hf := find_uniq h1 hc
      have : (chainC cs (cs.length + 1) c.name)[0]? = some c := by rw [chainC_self hf]; rfl
      exact (top_iff.1 ((R c hc).1 0 c this)).2.1
    · rcases Nat.lt_or_ge cs.length (chainC cs (cs.length + 1) c.name).length with hl | hl
      · have := (top_iff.1 ((R c hc).1 cs.length _ (List.getElem?_eq_getElem hl))).1
        rw [Nat.zero_add] at this
        exact absurd rfl this
      · exact hl
    · exact (top_iff.1 ((R c hc).1 i d hd)).2.2 m hm
  · rintro ⟨h, hP⟩
    refine ⟨h.names, fun c hc => (row c).2 ⟨fun i d hd => ?_, h.params c hc, h.fields c hc, h.own c hc⟩⟩
    refine top_iff.2 ⟨?_, h.sup d (chainC_mem cs _ _ d (List.mem_of_getElem? hd)).1, fun y hy => hP c hc y hy i d hd⟩
    have := (List.getElem?_eq_some_iff.1 hd).1
    have := h.len c hc
    omega
theorem err_eq (e : Int) (cs : List Class) : chkErr e cs = refErr e cs := by
  have key : (onceB (cs.map (·.name)) = true ∧ ∀ c ∈ cs, okClassB cs c = true) ↔ (namesB cs = true ∧ (List.range cs.length).all (classRowB cs) = true) := by
    rw [ref_iff, prog_iff]
    exact ⟨fun h => ⟨h.1, (refM_progM h.1).2 h.2⟩, fun h => ⟨h.1, (refM_progM h.1).1 h.2⟩⟩
  have ha : (cs.any (fun c => !okClassB cs c) = true) ↔ ¬ ∀ c ∈ cs, okClassB cs c = true := by
    rw [← List.all_eq_true, List.any_eq_not_all_not]
    simp
  unfold chkErr refErr
  split
  · split
    · rfl
    · by_cases h1 : onceB (cs.map (·.name)) = true
      · rw [if_neg (by rw [h1]; decide)]
        by_cases h2 : ∀ c ∈ cs, okClassB cs c = true
        · rw [if_neg (fun h => ha.1 h h2)]
          obtain ⟨k1, k2⟩ := key.1 ⟨h1, h2⟩
          rw [if_neg (by rw [k1]; decide), if_pos k2]
        · rw [if_pos (ha.2 h2)]
          split
          · rfl
          · rename_i k1
            rw [if_neg (fun k2 => h2 (key.2 ⟨by simpa using k1, k2⟩).2)]
      · rw [if_pos (by simpa using h1)]
        split
        · rfl
        · rename_i k1
          rw [if_neg (fun k2 => h1 (key.2 ⟨by simpa using k1, k2⟩).1)]
  · rfl
theorem chain_eq (E : Int) (cs : List Class) (n : ByteArray) : chainR E cs n = refChainF E cs n := by
  unfold chainR refChainF
  rw [upNames_chain, chainF_chain]
theorem chkErr_zero {e : Int} {cs : List Class} (h : chkErr e cs = 0) : Same0 cs := by
  unfold chkErr at h
  split at h
  · split at h
    · exact absurd h (by decide)
    · split at h
      · exact absurd h (by decide)
      · split at h
        · exact absurd h (by decide)
        · rename_i h1 h2
          refine (prog_iff.1 ⟨by simpa using h1, fun c hc => ?_⟩).1
          cases hk : okClassB cs c with
          | true => rfl
          | false => exact absurd (List.any_eq_true.2 ⟨c, hc, by rw [hk]; rfl⟩) h2
  · rename_i h1; exact absurd h h1
end V
end Go.Proofs.Ythhpcjoaogmhbaa
end
section
set_option linter.unusedVariables false
set_option linter.unusedSimpArgs false
namespace Go.Proofs.Ythhpcjoaogmhbaa
namespace V
open Go.RowKit
set_option linter.unusedSimpArgs false
def errP (p : Program) : Int := treeErr (checkB p)
theorem chk_ok (p : Program) (hS : SmallC p.classes) (hlen : p.classes.length ≤ 1048576) (m : Mem) : COk Try.prog 9 [.agg (cProg p)] m (.c (.int .i64 (chkErr (errP p) p.classes))) :=
  check_ok p (errP p) hS (by omega) (fun m => tree_ok p m) m
theorem refChk_ok (p : Program) (hS : SmallC p.classes) (hlen : p.classes.length ≤ 1048576) (m : Mem) : COk Try.prog 11 [.agg (cProg p)] m (.c (.int .i64 (chkErr (errP p) p.classes))) := by
  rw [err_eq]
  exact refCheck_ok p (errP p) (treeErr_wf _) hS (by omega) (fun m => refTree_ok p m) m
end V
end Go.Proofs.Ythhpcjoaogmhbaa
end
section
set_option linter.unusedVariables false
set_option linter.unusedSimpArgs false
namespace Go.Proofs.Ythhpcjoaogmhbaa
namespace V
theorem belowR_iff {cs : List Class} {a b : ByteArray} : belowR 0 cs a b = true ↔ ∃ (i : Nat) (d : Class), (chainC cs (cs.length + 1) a)[i]? = some d ∧ d.name = b := by
  unfold belowR
  rw [chain_eq]
  unfold refChainF
  rw [if_pos rfl, chainF_chain, List.any_map, List.any_eq_true]
  constructor
  · rintro ⟨d, hd, h⟩
    obtain ⟨i, hi⟩ := List.getElem?_of_mem hd
    exact ⟨i, d, hi, (beq_bytes.1 h).symm⟩
  · rintro ⟨i, d, hi, rfl⟩
    exact ⟨d, List.mem_of_getElem? hi, beq_bytes.2 rfl⟩
theorem chain_len {cs : List Class} (h : Same0 cs) (a : ByteArray) : (chainC cs (cs.length + 1) a).length ≤ cs.length := by
  cases hf : cs.find? (nameIs a) with
  | none => simp [chainC, hf]
  | some c =>
    obtain ⟨rfl, hc⟩ := find_name hf
    exact h.len c hc
theorem chain_from {cs : List Class} (h : Same0 cs) {a : ByteArray} {i : Nat} {d : Class} (hd : (chainC cs (cs.length + 1) a)[i]? = some d) : chainC cs (cs.length + 1) d.name = (chainC cs (cs.length + 1) a).drop i := by
  have hdr := chainC_drop cs (cs.length + 1) i a d hd
  have hlen := chain_len h a
  have hi := (List.getElem?_eq_some_iff.1 hd).1
  have hl : (chainC cs (cs.length + 1 - i) d.name).length < cs.length + 1 - i := by
    rw [← hdr, List.length_drop]
    omega
  have := chainC_more cs (cs.length + 1 - i) i d.name hl
  rw [show cs.length + 1 - i + i = cs.length + 1 by omega] at this
  rw [this, hdr]
theorem below_trans {cs : List Class} {a b c : ByteArray} (h : Same0 cs) (h1 : belowR 0 cs a b = true) (h2 : belowR 0 cs b c = true) : belowR 0 cs a c = true := by
  obtain ⟨i, d, hd, rfl⟩ := belowR_iff.1 h1
  obtain ⟨j, e, he, rfl⟩ := belowR_iff.1 h2
  rw [chain_from h hd, List.getElem?_drop] at he
  exact belowR_iff.2 ⟨_, e, he, rfl⟩
theorem below_anti {cs : List Class} {a b : ByteArray} (h : Same0 cs) (h1 : belowR 0 cs a b = true) (h2 : belowR 0 cs b a = true) : a = b := by
  obtain ⟨i, d, hd, rfl⟩ := belowR_iff.1 h1
  obtain ⟨j, e, he, rfl⟩ := belowR_iff.1 h2
  have e1 := chain_from h hd
  have e2 := chain_from h he
  have hi := (List.getElem?_eq_some_iff.1 hd).1
  have l1 := congrArg List.length e1
  have l2 := congrArg List.length e2
  rw [List.length_drop] at l1 l2
  have : i = 0 := by omega
  subst this
  cases hf : cs.find? (nameIs e.name) with
  | none => rw [chainC, hf] at hd; simp at hd
  | some c =>
    rw [chainC, hf] at hd
    simp at hd
    subst hd
    exact (find_name hf).1.symm
end V
end Go.Proofs.Ythhpcjoaogmhbaa
end
section
set_option linter.unusedVariables false
set_option linter.unusedSimpArgs false
namespace Go.Proofs.Ythhpcjoaogmhbaa
namespace V
open Go.RowKit
abbrev tInt : ByteArray := ⟨#[105, 110, 116]⟩
abbrev tInts : ByteArray := ⟨#[105, 110, 116, 91, 93]⟩
abbrev tNull : ByteArray := ⟨#[110, 117, 108, 108]⟩
def isNm (t : ByteArray) (d : Class) : Bool := d.name.toList == t.toList
def knownR (cs : List Class) (t : ByteArray) : Bool := t.toList == tInt.toList || (t.toList == tInts.toList || cs.any (isNm t))
def fitR (E : Int) (cs : List Class) (a b : ByteArray) : Bool :=
  knownR cs b && (a.toList == b.toList || (if (a.toList == tNull.toList) = true then !(b.toList == tInt.toList) else cs.any (isNm a) && belowR E cs a b))
def fitD (E : Int) (cs : List Class) (a b : ByteArray) : Bool :=
  knownR cs b && (a.toList == b.toList || (a.toList == tNull.toList && !(b.toList == tInt.toList)) || (cs.any (isNm a) && cs.any (isNm b) && (refChainF E cs a).any (fun x => x.toList == b.toList)))
theorem isNm_ok (d : Class) (t : ByteArray) (m : Mem) : COk Try.prog 41 [.agg (cClass d), .rptr [.str t]] m (.c (.bool (isNm t d))) := by
  refine (ok_pure tab_ok Try.func41 (by kernel_rfl) rfl rfl (by rfl) (by rfl) (by rfl) (fun R hkeep => ?_) m)
  repeat (first | refine W.seq ?_ | refine W.block ?_ | refine W.skip ?_ | refine W.exit ?_ | refine W.region tab_ok 0 (by decide) (exec_run (by simp only [exa, beq_self_eq_true, ByteArray.size, Nat.reduceAdd, Nat.reduceLeDiff, Nat.reduceEqDiff, Nat.reduceMul, Int.reduceToNat, reduceIte, Int.reduceLE, Int.reduceNeg, cClass]; rfl)) ?_)
  refine W.ret ⟨.inr rfl, by rfl, ?_⟩
  simp only [Try.f41, resA, resOne, toT, fin, exa, beq_self_eq_true, ByteArray.size, Nat.reduceAdd, Nat.reduceLeDiff, Nat.reduceEqDiff, Nat.reduceMul, Int.reduceToNat, reduceIte, Int.reduceLE, Int.reduceNeg, cClass]
  rfl
theorem isClass_ok (cs : List Class) (r : List C) (t : ByteArray) (hlen : cs.length ≤ 1000000000) (m : Mem) : COk Try.prog 19 [.rptr (.sl (cs.map cClass) :: r), .c (.str t)] m (.c (.bool (cs.any (isNm t)))) := by
  refine (ok_pure tab_ok Try.func19 (by kernel_rfl) rfl rfl (by rfl) (by rfl) (by rfl) (fun R hkeep => ?_) m)
  repeat (first | refine W.seq ?_ | refine W.block ?_ | refine W.skip ?_ | refine W.exit ?_ | refine W.region tab_ok 0 (by decide) (exec_run (by simp only [exa, beq_self_eq_true, ByteArray.size, Nat.reduceAdd, Nat.reduceLeDiff, Nat.reduceEqDiff, Nat.reduceMul, Int.reduceToNat, reduceIte, Int.reduceLE, Int.reduceNeg]; rfl)) ?_)
  refine W.regionK tab_ok 0 (by decide) ?_
  refine runk_split 6 (by simp only [exa, beq_self_eq_true, ByteArray.size, Nat.reduceAdd, Nat.reduceLeDiff, Nat.reduceEqDiff, Nat.reduceMul, Int.reduceToNat, reduceIte, Int.reduceLE, Int.reduceNeg]; rfl) ?_
  refine runk_callR rfl rfl rfl rfl rfl (by simp) (cvrs_cons cvr_refl (cvrs_cons (cvr_fn (caps_one rfl rfl)) cvrs_nil)) (by rfl) (by rfl) (anyClass_ok cs 41 [[.str t]] (isNm t) (by omega) (fun x _ m => isNm_ok x t m)) ?_
  refine runk_exec (by simp only [exa, beq_self_eq_true, ByteArray.size, Nat.reduceAdd, Nat.reduceLeDiff, Nat.reduceEqDiff, Nat.reduceMul, Int.reduceToNat, reduceIte, Int.reduceLE, Int.reduceNeg]; rfl) ?_
  refine W.ret ⟨.inr rfl, by rfl, ?_⟩
  simp only [Try.f19, resA, resOne, toT, fin, exa, beq_self_eq_true, ByteArray.size, Nat.reduceAdd, Nat.reduceLeDiff, Nat.reduceEqDiff, Nat.reduceMul, Int.reduceToNat, reduceIte, Int.reduceLE, Int.reduceNeg]
theorem known_ok (cs : List Class) (r : List C) (t : ByteArray) (hlen : cs.length ≤ 1000000000) (m : Mem) : COk Try.prog 18 [.rptr (.sl (cs.map cClass) :: r), .c (.str t)] m (.c (.bool (knownR cs t))) := by
  have hk := isClass_ok cs r t hlen
  unfold knownR
  refine (ok_pure tab_ok Try.func18 (by kernel_rfl) rfl rfl (by rfl) (by rfl) (by rfl) (fun R hkeep => ?_) m)
  repeat (first | refine W.seq ?_ | refine W.block ?_ | refine W.skip ?_ | refine W.exit ?_ | refine W.region tab_ok 0 (by decide) (exec_run (by simp only [exa, beq_self_eq_true, ByteArray.size, Nat.reduceAdd, Nat.reduceLeDiff, Nat.reduceEqDiff, Nat.reduceMul, Int.reduceToNat, reduceIte, Int.reduceLE, Int.reduceNeg]; rfl)) ?_)
  cases h1 : (t.toList == tInt.toList) with
  | true =>
    refine W.regionK tab_ok 0 (by decide) ?_
    refine runk_exec (by simp only [exa, beq_self_eq_true, ByteArray.size, Nat.reduceAdd, Nat.reduceLeDiff, Nat.reduceEqDiff, Nat.reduceMul, Int.reduceToNat, reduceIte, Int.reduceLE, Int.reduceNeg, h1]; rfl) ?_
    refine W.ret ⟨.inr rfl, by rfl, ?_⟩
    simp only [Try.f18, resA, resOne, toT, fin, exa, beq_self_eq_true, ByteArray.size, Nat.reduceAdd, Nat.reduceLeDiff, Nat.reduceEqDiff, Nat.reduceMul, Int.reduceToNat, reduceIte, Int.reduceLE, Int.reduceNeg, h1]
    rfl
  | false =>
    cases h2 : (t.toList == tInts.toList) with
    | true =>
      refine W.regionK tab_ok 0 (by decide) ?_
      refine runk_exec (by simp only [exa, beq_self_eq_true, ByteArray.size, Nat.reduceAdd, Nat.reduceLeDiff, Nat.reduceEqDiff, Nat.reduceMul, Int.reduceToNat, reduceIte, Int.reduceLE, Int.reduceNeg, h1, h2]; rfl) ?_
      refine W.ret ⟨.inr rfl, by rfl, ?_⟩
      simp only [Try.f18, resA, resOne, toT, fin, exa, beq_self_eq_true, ByteArray.size, Nat.reduceAdd, Nat.reduceLeDiff, Nat.reduceEqDiff, Nat.reduceMul, Int.reduceToNat, reduceIte, Int.reduceLE, Int.reduceNeg, h1, h2]
      rfl
    | false =>
      refine W.regionK tab_ok 0 (by decide) ?_
      refine runk_split 9 (by simp only [exa, beq_self_eq_true, ByteArray.size, Nat.reduceAdd, Nat.reduceLeDiff, Nat.reduceEqDiff, Nat.reduceMul, Int.reduceToNat, reduceIte, Int.reduceLE, Int.reduceNeg, h1, h2]; rfl) ?_
      refine runk_call rfl rfl rfl rfl rfl (by simp) (cvs_cons cv_refl (cvs_cons cv_refl cvs_nil)) (hk _) ?_
      refine runk_exec (by simp only [exa, beq_self_eq_true, ByteArray.size, Nat.reduceAdd, Nat.reduceLeDiff, Nat.reduceEqDiff, Nat.reduceMul, Int.reduceToNat, reduceIte, Int.reduceLE, Int.reduceNeg, h1, h2]; rfl) ?_
      refine W.ret ⟨.inr rfl, by rfl, ?_⟩
      simp only [Try.f18, resA, resOne, toT, fin, exa, beq_self_eq_true, ByteArray.size, Nat.reduceAdd, Nat.reduceLeDiff, Nat.reduceEqDiff, Nat.reduceMul, Int.reduceToNat, reduceIte, Int.reduceLE, Int.reduceNeg]
      rfl
theorem refClass_ok (cs : List Class) (mn : C) (t : ByteArray) (hlen : cs.length ≤ 1000000000) (m : Mem) : COk Try.prog 28 [.agg [.sl (cs.map cClass), mn], .c (.str t)] m (.c (.bool (cs.any (isNm t)))) := by
  refine (ok_pure tab_ok Try.func28 (by kernel_rfl) rfl rfl (by rfl) (by rfl) (by rfl) (fun R hkeep => ?_) m)
  repeat (first | refine W.seq ?_ | refine W.block ?_ | refine W.skip ?_ | refine W.exit ?_ | refine W.region tab_ok 0 (by decide) (exec_run (by simp only [exa, beq_self_eq_true, ByteArray.size, Nat.reduceAdd, Nat.reduceLeDiff, Nat.reduceEqDiff, Nat.reduceMul, Int.reduceToNat, reduceIte, Int.reduceLE, Int.reduceNeg]; rfl)) ?_)
  refine W.loop (ι := Nat) (fun k => ⟨upd (upd (upd (upd (fun _ => .top) 1 (.c (.str t))) 8 (.c (.sl (cs.map cClass)))) 9 (.c (.int .i64 cs.length))) 10 (.c (.int .i64 k)), Mem.nil⟩) (fun k => k ≤ cs.length ∧ (cs.take k).any (isNm t) = false) (fun k => cs.length - k) 0 ?start ⟨Nat.zero_le _, rfl⟩ ?round
  case start =>
    refine le_mk ?sle ?mle ?swf ?mwf ?kept (by rfl)
    case kept => exact kept_not hkeep
    case swf => repeat (first | exact swf_top _ | refine swf_upd ?_ (by simp [A.ids, upd_app]))
    case mwf => repeat (first | exact mwf_nil _ | refine mwf_upd ?_ (by simp [A.ids, O.ids, upd_app]))
    case mle => repeat (first | exact mle_nil _ | exact mle_refl _ | refine mle_upd ?_ (by first | rfl | (simp only [upd_app, killM_app, Nat.reduceEqDiff, reduceIte]; done)))
    case sle => repeat (first | exact sle_top _ | exact sle_refl _ | refine sle_upd ?_ (by first | rfl | (simp only [upd_app, entry_zero, entry_succ, Nat.reduceEqDiff, reduceIte]; done)))
  case round =>
    rintro k ⟨hk, hall⟩
    repeat (first | refine W.seq ?_ | refine W.block ?_ | refine W.skip ?_ | refine W.exit ?_ | refine W.region tab_ok 0 (by decide) (exec_run (by simp only [exa, beq_self_eq_true, ByteArray.size, Nat.reduceAdd, Nat.reduceLeDiff, Nat.reduceEqDiff, Nat.reduceMul, Int.reduceToNat, reduceIte, Int.reduceLE, Int.reduceNeg]; rfl)) ?_)
    refine W.cond rfl ?_ ?_
    · intro hlt
      simp only [decide_eq_true_eq, Int.ofNat_lt] at hlt
      obtain ⟨x, hx⟩ : ∃ x, cs[k]? = some x := ⟨_, List.getElem?_eq_getElem hlt⟩
      have hs : (cs.take (k + 1)).any (isNm t) = isNm t x := by
        rw [List.take_add_one, hx, List.any_append, hall]; simp
      repeat (first | refine W.seq ?_ | refine W.block ?_ | refine W.skip ?_ | refine W.exit ?_ | refine W.region tab_ok 0 (by decide) (exec_run (by simp only [exa, beq_self_eq_true, ByteArray.size, Nat.reduceAdd, Nat.reduceLeDiff, Nat.reduceEqDiff, Nat.reduceMul, Int.reduceToNat, reduceIte, Int.reduceLE, Int.reduceNeg, at_map hx, cClass]; rfl)) ?_)
      refine W.cond rfl ?_ ?_
      · intro heq
        repeat (first | refine W.seq ?_ | refine W.block ?_ | refine W.skip ?_ | refine W.exit ?_ | refine W.region tab_ok 0 (by decide) (exec_run (by simp only [exa, beq_self_eq_true, ByteArray.size, Nat.reduceAdd, Nat.reduceLeDiff, Nat.reduceEqDiff, Nat.reduceMul, Int.reduceToNat, reduceIte, Int.reduceLE, Int.reduceNeg]; rfl)) ?_)
        refine W.ret ⟨.inr rfl, by rfl, ?_⟩
        simp only [Try.f28, resA, resOne, toT, fin, exa, beq_self_eq_true, ByteArray.size, Nat.reduceAdd, Nat.reduceLeDiff, Nat.reduceEqDiff, Nat.reduceMul, Int.reduceToNat, reduceIte, Int.reduceLE, Int.reduceNeg]
        rw [show cs.any (isNm t) = true from List.any_eq_true.2 ⟨x, List.mem_of_getElem? hx, heq⟩]
      · intro hne
        repeat (first | refine W.seq ?_ | refine W.block ?_ | refine W.skip ?_ | refine W.exit ?_ | refine W.region tab_ok 0 (by decide) (exec_run (by simp only [exa, beq_self_eq_true, ByteArray.size, Nat.reduceAdd, Nat.reduceLeDiff, Nat.reduceEqDiff, Nat.reduceMul, Int.reduceToNat, reduceIte, Int.reduceLE, Int.reduceNeg]; rfl)) ?_)
        refine ⟨k + 1, ⟨hlt, by rw [hs]; exact hne⟩, by omega, ?_⟩
        refine le_mk ?sle ?mle ?swf ?mwf ?kept (by rfl)
        case kept => exact kept_not hkeep
        case swf => repeat (first | exact swf_top _ | refine swf_upd ?_ (by simp [A.ids, upd_app]))
        case mwf => repeat (first | exact mwf_nil _ | refine mwf_upd ?_ (by simp [A.ids, O.ids, upd_app]))
        case mle => repeat (first | exact mle_nil _ | exact mle_refl _ | refine mle_upd ?_ (by first | rfl | (simp only [upd_app, killM_app, Nat.reduceEqDiff, reduceIte, wrap_succ (show k + 1 < 9223372036854775808 by omega)]; done)))
        case sle => repeat (first | exact sle_top _ | exact sle_refl _ | refine sle_upd ?_ (by first | rfl | (simp only [upd_app, entry_zero, entry_succ, Nat.reduceEqDiff, reduceIte, wrap_succ (show k + 1 < 9223372036854775808 by omega)]; done)))
    · intro hge
      simp only [decide_eq_false_iff_not, Int.ofNat_lt] at hge
      obtain rfl : k = cs.length := by omega
      rw [List.take_length] at hall
      repeat (first | refine W.seq ?_ | refine W.block ?_ | refine W.skip ?_ | refine W.exit ?_ | refine W.region tab_ok 0 (by decide) (exec_run (by simp only [exa, beq_self_eq_true, ByteArray.size, Nat.reduceAdd, Nat.reduceLeDiff, Nat.reduceEqDiff, Nat.reduceMul, Int.reduceToNat, reduceIte, Int.reduceLE, Int.reduceNeg]; rfl)) ?_)
      refine W.ret ⟨.inr rfl, by rfl, ?_⟩
      simp only [Try.f28, resA, resOne, toT, fin, exa, beq_self_eq_true, ByteArray.size, Nat.reduceAdd, Nat.reduceLeDiff, Nat.reduceEqDiff, Nat.reduceMul, Int.reduceToNat, reduceIte, Int.reduceLE, Int.reduceNeg]
      rw [hall]
theorem refKnown_ok (cs : List Class) (mn : C) (t : ByteArray) (hlen : cs.length ≤ 1000000000) (m : Mem) : COk Try.prog 27 [.agg [.sl (cs.map cClass), mn], .c (.str t)] m (.c (.bool (knownR cs t))) := by
  have hk := refClass_ok cs mn t hlen
  unfold knownR
  refine (ok_pure tab_ok Try.func27 (by kernel_rfl) rfl rfl (by rfl) (by rfl) (by rfl) (fun R hkeep => ?_) m)
  repeat (first | refine W.seq ?_ | refine W.block ?_ | refine W.skip ?_ | refine W.exit ?_ | refine W.region tab_ok 0 (by decide) (exec_run (by simp only [exa, beq_self_eq_true, ByteArray.size, Nat.reduceAdd, Nat.reduceLeDiff, Nat.reduceEqDiff, Nat.reduceMul, Int.reduceToNat, reduceIte, Int.reduceLE, Int.reduceNeg]; rfl)) ?_)
  cases h1 : (t.toList == tInt.toList) with
  | true =>
    refine W.regionK tab_ok 0 (by decide) ?_
    refine runk_exec (by simp only [exa, beq_self_eq_true, ByteArray.size, Nat.reduceAdd, Nat.reduceLeDiff, Nat.reduceEqDiff, Nat.reduceMul, Int.reduceToNat, reduceIte, Int.reduceLE, Int.reduceNeg, h1]; rfl) ?_
    refine W.ret ⟨.inr rfl, by rfl, ?_⟩
    simp only [Try.f27, resA, resOne, toT, fin, exa, beq_self_eq_true, ByteArray.size, Nat.reduceAdd, Nat.reduceLeDiff, Nat.reduceEqDiff, Nat.reduceMul, Int.reduceToNat, reduceIte, Int.reduceLE, Int.reduceNeg, h1]
    rfl
  | false =>
    cases h2 : (t.toList == tInts.toList) with
    | true =>
      refine W.regionK tab_ok 0 (by decide) ?_
      refine runk_exec (by simp only [exa, beq_self_eq_true, ByteArray.size, Nat.reduceAdd, Nat.reduceLeDiff, Nat.reduceEqDiff, Nat.reduceMul, Int.reduceToNat, reduceIte, Int.reduceLE, Int.reduceNeg, h1, h2]; rfl) ?_
      refine W.ret ⟨.inr rfl, by rfl, ?_⟩
      simp only [Try.f27, resA, resOne, toT, fin, exa, beq_self_eq_true, ByteArray.size, Nat.reduceAdd, Nat.reduceLeDiff, Nat.reduceEqDiff, Nat.reduceMul, Int.reduceToNat, reduceIte, Int.reduceLE, Int.reduceNeg, h1, h2]
      rfl
    | false =>
      refine W.regionK tab_ok 0 (by decide) ?_
      refine runk_split 9 (by simp only [exa, beq_self_eq_true, ByteArray.size, Nat.reduceAdd, Nat.reduceLeDiff, Nat.reduceEqDiff, Nat.reduceMul, Int.reduceToNat, reduceIte, Int.reduceLE, Int.reduceNeg, h1, h2]; rfl) ?_
      refine runk_call rfl rfl rfl rfl rfl (by simp) (cvs_cons cv_refl (cvs_cons cv_refl cvs_nil)) (hk _) ?_
      refine runk_exec (by simp only [exa, beq_self_eq_true, ByteArray.size, Nat.reduceAdd, Nat.reduceLeDiff, Nat.reduceEqDiff, Nat.reduceMul, Int.reduceToNat, reduceIte, Int.reduceLE, Int.reduceNeg, h1, h2]; rfl) ?_
      refine W.ret ⟨.inr rfl, by rfl, ?_⟩
      simp only [Try.f27, resA, resOne, toT, fin, exa, beq_self_eq_true, ByteArray.size, Nat.reduceAdd, Nat.reduceLeDiff, Nat.reduceEqDiff, Nat.reduceMul, Int.reduceToNat, reduceIte, Int.reduceLE, Int.reduceNeg]
      rfl
theorem fits_ok (p : Program) (E : Int) (r : List C) (a b : ByteArray) (hlen : p.classes.length ≤ 1000000000) (hchk : ∀ m, COk Try.prog 9 [.agg (cProg p)] m (.c (.int .i64 E))) (m : Mem) :
    COk Try.prog 10 [.rptr (.sl (p.classes.map cClass) :: .sl (cStmts p.main) :: r), .c (.str a), .c (.str b)] m (.c (.bool (fitR E p.classes a b))) := by
  have hkn := known_ok p.classes (.sl (cStmts p.main) :: r) b hlen
  have hcl := isClass_ok p.classes (.sl (cStmts p.main) :: r) a hlen
  have hbe := fun m => below_ok p E a b (by omega) hchk m
  unfold fitR
  generalize knownR p.classes b = K at hkn
  generalize p.classes.any (isNm a) = L at hcl
  generalize belowR E p.classes a b = B at hbe
  refine (ok_pure tab_ok Try.func10 (by kernel_rfl) rfl rfl (by rfl) (by rfl) (by rfl) (fun R hkeep => ?_) m)
  repeat (first | refine W.seq ?_ | refine W.block ?_ | refine W.skip ?_ | refine W.exit ?_ | refine W.region tab_ok 0 (by decide) (exec_run (by simp only [exa, beq_self_eq_true, ByteArray.size, Nat.reduceAdd, Nat.reduceLeDiff, Nat.reduceEqDiff, Nat.reduceMul, Int.reduceToNat, reduceIte, Int.reduceLE, Int.reduceNeg]; rfl)) ?_)
  refine W.regionK tab_ok 0 (by decide) ?_
  refine runk_split 2 (by simp only [exa, beq_self_eq_true, ByteArray.size, Nat.reduceAdd, Nat.reduceLeDiff, Nat.reduceEqDiff, Nat.reduceMul, Int.reduceToNat, reduceIte, Int.reduceLE, Int.reduceNeg]; rfl) ?_
  refine runk_call rfl rfl rfl rfl rfl (by simp) (cvs_cons cv_refl (cvs_cons cv_refl cvs_nil)) (hkn _) ?_
  refine runk_exec (by simp only [exa, beq_self_eq_true, ByteArray.size, Nat.reduceAdd, Nat.reduceLeDiff, Nat.reduceEqDiff, Nat.reduceMul, Int.reduceToNat, reduceIte, Int.reduceLE, Int.reduceNeg]; rfl) ?_
  refine W.cond rfl ?_ ?_
  · intro h
    obtain rfl : K = false := by simpa using h
    repeat (first | refine W.seq ?_ | refine W.block ?_ | refine W.skip ?_ | refine W.exit ?_ | refine W.region tab_ok 0 (by decide) (exec_run (by simp only [exa, beq_self_eq_true, ByteArray.size, Nat.reduceAdd, Nat.reduceLeDiff, Nat.reduceEqDiff, Nat.reduceMul, Int.reduceToNat, reduceIte, Int.reduceLE, Int.reduceNeg]; rfl)) ?_)
    refine W.ret ⟨.inr rfl, by rfl, ?_⟩
    simp only [Try.f10, resA, resOne, toT, fin, exa, beq_self_eq_true, ByteArray.size, Nat.reduceAdd, Nat.reduceLeDiff, Nat.reduceEqDiff, Nat.reduceMul, Int.reduceToNat, reduceIte, Int.reduceLE, Int.reduceNeg]
    rfl
  intro h
  obtain rfl : K = true := by simpa using h
  repeat (first | refine W.seq ?_ | refine W.block ?_ | refine W.skip ?_ | refine W.exit ?_ | refine W.region tab_ok 0 (by decide) (exec_run (by simp only [exa, beq_self_eq_true, ByteArray.size, Nat.reduceAdd, Nat.reduceLeDiff, Nat.reduceEqDiff, Nat.reduceMul, Int.reduceToNat, reduceIte, Int.reduceLE, Int.reduceNeg]; rfl)) ?_)
  refine W.cond rfl ?_ ?_
  · intro h
    have h : (a.toList == b.toList) = true := h
    repeat (first | refine W.seq ?_ | refine W.block ?_ | refine W.skip ?_ | refine W.exit ?_ | refine W.region tab_ok 0 (by decide) (exec_run (by simp only [exa, beq_self_eq_true, ByteArray.size, Nat.reduceAdd, Nat.reduceLeDiff, Nat.reduceEqDiff, Nat.reduceMul, Int.reduceToNat, reduceIte, Int.reduceLE, Int.reduceNeg]; rfl)) ?_)
    refine W.ret ⟨.inr rfl, by rfl, ?_⟩
    simp only [Try.f10, resA, resOne, toT, fin, exa, beq_self_eq_true, ByteArray.size, Nat.reduceAdd, Nat.reduceLeDiff, Nat.reduceEqDiff, Nat.reduceMul, Int.reduceToNat, reduceIte, Int.reduceLE, Int.reduceNeg, h]
    rfl
  intro h1
  have h1 : (a.toList == b.toList) = false := h1
  repeat (first | refine W.seq ?_ | refine W.block ?_ | refine W.skip ?_ | refine W.exit ?_ | refine W.region tab_ok 0 (by decide) (exec_run (by simp only [exa, beq_self_eq_true, ByteArray.size, Nat.reduceAdd, Nat.reduceLeDiff, Nat.reduceEqDiff, Nat.reduceMul, Int.reduceToNat, reduceIte, Int.reduceLE, Int.reduceNeg]; rfl)) ?_)
  refine W.cond rfl ?_ ?_
  · intro h
    have h : (a.toList == tNull.toList) = true := h
    repeat (first | refine W.seq ?_ | refine W.block ?_ | refine W.skip ?_ | refine W.exit ?_ | refine W.region tab_ok 0 (by decide) (exec_run (by simp only [exa, beq_self_eq_true, ByteArray.size, Nat.reduceAdd, Nat.reduceLeDiff, Nat.reduceEqDiff, Nat.reduceMul, Int.reduceToNat, reduceIte, Int.reduceLE, Int.reduceNeg]; rfl)) ?_)
    refine W.ret ⟨.inr rfl, by rfl, ?_⟩
    simp only [Try.f10, resA, resOne, toT, fin, exa, beq_self_eq_true, ByteArray.size, Nat.reduceAdd, Nat.reduceLeDiff, Nat.reduceEqDiff, Nat.reduceMul, Int.reduceToNat, reduceIte, Int.reduceLE, Int.reduceNeg, h, h1]
    rfl
  intro h2
  have h2 : (a.toList == tNull.toList) = false := h2
  repeat (first | refine W.seq ?_ | refine W.block ?_ | refine W.skip ?_ | refine W.exit ?_ | refine W.region tab_ok 0 (by decide) (exec_run (by simp only [exa, beq_self_eq_true, ByteArray.size, Nat.reduceAdd, Nat.reduceLeDiff, Nat.reduceEqDiff, Nat.reduceMul, Int.reduceToNat, reduceIte, Int.reduceLE, Int.reduceNeg]; rfl)) ?_)
  cases L with
  | false =>
    refine W.regionK tab_ok 0 (by decide) ?_
    refine runk_split 2 (by simp only [exa, beq_self_eq_true, ByteArray.size, Nat.reduceAdd, Nat.reduceLeDiff, Nat.reduceEqDiff, Nat.reduceMul, Int.reduceToNat, reduceIte, Int.reduceLE, Int.reduceNeg]; rfl) ?_
    refine runk_call rfl rfl rfl rfl rfl (by simp) (cvs_cons cv_refl (cvs_cons cv_refl cvs_nil)) (hcl _) ?_
    refine runk_exec (by simp only [exa, beq_self_eq_true, ByteArray.size, Nat.reduceAdd, Nat.reduceLeDiff, Nat.reduceEqDiff, Nat.reduceMul, Int.reduceToNat, reduceIte, Int.reduceLE, Int.reduceNeg]; rfl) ?_
    refine W.ret ⟨.inr rfl, by rfl, ?_⟩
    simp only [Try.f10, resA, resOne, toT, fin, exa, beq_self_eq_true, ByteArray.size, Nat.reduceAdd, Nat.reduceLeDiff, Nat.reduceEqDiff, Nat.reduceMul, Int.reduceToNat, reduceIte, Int.reduceLE, Int.reduceNeg, h1, h2]
    rfl
  | true =>
    refine W.regionK tab_ok 0 (by decide) ?_
    refine runk_split 2 (by simp only [exa, beq_self_eq_true, ByteArray.size, Nat.reduceAdd, Nat.reduceLeDiff, Nat.reduceEqDiff, Nat.reduceMul, Int.reduceToNat, reduceIte, Int.reduceLE, Int.reduceNeg]; rfl) ?_
    refine runk_call rfl rfl rfl rfl rfl (by simp) (cvs_cons cv_refl (cvs_cons cv_refl cvs_nil)) (hcl _) ?_
    refine runk_split 7 (by simp only [exa, beq_self_eq_true, ByteArray.size, Nat.reduceAdd, Nat.reduceLeDiff, Nat.reduceEqDiff, Nat.reduceMul, Int.reduceToNat, reduceIte, Int.reduceLE, Int.reduceNeg, cProg]; rfl) ?_
    refine runk_call rfl rfl rfl rfl rfl (by simp) (cvs_cons cv_refl (cvs_cons cv_refl (cvs_cons cv_refl cvs_nil))) (hbe _) ?_
    refine runk_exec (by simp only [exa, beq_self_eq_true, ByteArray.size, Nat.reduceAdd, Nat.reduceLeDiff, Nat.reduceEqDiff, Nat.reduceMul, Int.reduceToNat, reduceIte, Int.reduceLE, Int.reduceNeg]; rfl) ?_
    refine W.ret ⟨.inr rfl, by rfl, ?_⟩
    simp only [Try.f10, resA, resOne, toT, fin, exa, beq_self_eq_true, ByteArray.size, Nat.reduceAdd, Nat.reduceLeDiff, Nat.reduceEqDiff, Nat.reduceMul, Int.reduceToNat, reduceIte, Int.reduceLE, Int.reduceNeg, h1, h2]
    rfl
theorem refFits_ok (p : Program) (E : Int) (a b : ByteArray) (hlen : p.classes.length ≤ 1000000000) (hchk : ∀ m, COk Try.prog 11 [.agg (cProg p)] m (.c (.int .i64 E))) (m : Mem) :
    COk Try.prog 12 [.agg (cProg p), .c (.str a), .c (.str b)] m (.c (.bool (fitD E p.classes a b))) := by
  have hkn := refKnown_ok p.classes (.sl (cStmts p.main)) b hlen
  have hca := refClass_ok p.classes (.sl (cStmts p.main)) a hlen
  have hcb := refClass_ok p.classes (.sl (cStmts p.main)) b hlen
  have hbe := fun m => refBelow_ok p E a b (by omega) hchk m
  unfold fitD
  generalize knownR p.classes b = K at hkn
  generalize p.classes.any (isNm a) = La at hca
  generalize p.classes.any (isNm b) = Lb at hcb
  generalize ((refChainF E p.classes a).any (fun x => x.toList == b.toList)) = B at hbe
  have hcp : cProg p = [.sl (p.classes.map cClass), .sl (cStmts p.main)] := rfl
  refine (ok_pure tab_ok Try.func12 (by kernel_rfl) rfl rfl (by rfl) (by rfl) (by rfl) (fun R hkeep => ?_) m)
  repeat (first | refine W.seq ?_ | refine W.block ?_ | refine W.skip ?_ | refine W.exit ?_ | refine W.region tab_ok 0 (by decide) (exec_run (by simp only [exa, beq_self_eq_true, ByteArray.size, Nat.reduceAdd, Nat.reduceLeDiff, Nat.reduceEqDiff, Nat.reduceMul, Int.reduceToNat, reduceIte, Int.reduceLE, Int.reduceNeg, hcp]; rfl)) ?_)
  refine W.regionK tab_ok 0 (by decide) ?_
  cases K with
  | false =>
    refine runk_split 2 (by simp only [exa, beq_self_eq_true, ByteArray.size, Nat.reduceAdd, Nat.reduceLeDiff, Nat.reduceEqDiff, Nat.reduceMul, Int.reduceToNat, reduceIte, Int.reduceLE, Int.reduceNeg, hcp]; rfl) ?_
    refine runk_call rfl rfl rfl rfl rfl (by simp) (cvs_cons cv_refl (cvs_cons cv_refl cvs_nil)) (hkn _) ?_
    refine runk_exec (by simp only [exa, beq_self_eq_true, ByteArray.size, Nat.reduceAdd, Nat.reduceLeDiff, Nat.reduceEqDiff, Nat.reduceMul, Int.reduceToNat, reduceIte, Int.reduceLE, Int.reduceNeg]; rfl) ?_
    refine W.ret ⟨.inr rfl, by rfl, ?_⟩
    simp only [Try.f12, resA, resOne, toT, fin, exa, beq_self_eq_true, ByteArray.size, Nat.reduceAdd, Nat.reduceLeDiff, Nat.reduceEqDiff, Nat.reduceMul, Int.reduceToNat, reduceIte, Int.reduceLE, Int.reduceNeg]
    rfl
  | true =>
    refine runk_split 2 (by simp only [exa, beq_self_eq_true, ByteArray.size, Nat.reduceAdd, Nat.reduceLeDiff, Nat.reduceEqDiff, Nat.reduceMul, Int.reduceToNat, reduceIte, Int.reduceLE, Int.reduceNeg, hcp]; rfl) ?_
    refine runk_call rfl rfl rfl rfl rfl (by simp) (cvs_cons cv_refl (cvs_cons cv_refl cvs_nil)) (hkn _) ?_
    cases h1 : (a.toList == b.toList) with
    | true =>
      refine runk_exec (by simp only [exa, beq_self_eq_true, ByteArray.size, Nat.reduceAdd, Nat.reduceLeDiff, Nat.reduceEqDiff, Nat.reduceMul, Int.reduceToNat, reduceIte, Int.reduceLE, Int.reduceNeg, h1]; rfl) ?_
      refine W.ret ⟨.inr rfl, by rfl, ?_⟩
      simp only [Try.f12, resA, resOne, toT, fin, exa, beq_self_eq_true, ByteArray.size, Nat.reduceAdd, Nat.reduceLeDiff, Nat.reduceEqDiff, Nat.reduceMul, Int.reduceToNat, reduceIte, Int.reduceLE, Int.reduceNeg, h1]
      rfl
    | false =>
      cases h2 : (a.toList == tNull.toList && !(b.toList == tInt.toList)) with
      | true =>
        rw [Bool.and_eq_true] at h2
        have h3 : (b.toList == tInt.toList) = false := by simpa using h2.2
        have h2 := h2.1
        refine runk_exec (by simp only [exa, beq_self_eq_true, ByteArray.size, Nat.reduceAdd, Nat.reduceLeDiff, Nat.reduceEqDiff, Nat.reduceMul, Int.reduceToNat, reduceIte, Int.reduceLE, Int.reduceNeg, h1, h2, h3]; rfl) ?_
        refine W.ret ⟨.inr rfl, by rfl, ?_⟩
        simp only [Try.f12, resA, resOne, toT, fin, exa, beq_self_eq_true, ByteArray.size, Nat.reduceAdd, Nat.reduceLeDiff, Nat.reduceEqDiff, Nat.reduceMul, Int.reduceToNat, reduceIte, Int.reduceLE, Int.reduceNeg, h1, h2, h3]
        rfl
      | false =>
        cases La with
        | false =>
          cases h3 : (a.toList == tNull.toList) with
          | true =>
            have h4 : (b.toList == tInt.toList) = true := by rw [h3] at h2; simpa using h2
            refine runk_split 15 (by simp only [exa, beq_self_eq_true, ByteArray.size, Nat.reduceAdd, Nat.reduceLeDiff, Nat.reduceEqDiff, Nat.reduceMul, Int.reduceToNat, reduceIte, Int.reduceLE, Int.reduceNeg, hcp, h1, h3, h4]; rfl) ?_
            refine runk_call rfl rfl rfl rfl rfl (by simp) (cvs_cons cv_refl (cvs_cons cv_refl cvs_nil)) (hca _) ?_
            refine runk_exec (by simp only [exa, beq_self_eq_true, ByteArray.size, Nat.reduceAdd, Nat.reduceLeDiff, Nat.reduceEqDiff, Nat.reduceMul, Int.reduceToNat, reduceIte, Int.reduceLE, Int.reduceNeg, h1, h3, h4]; rfl) ?_
            refine W.ret ⟨.inr rfl, by rfl, ?_⟩
            simp only [Try.f12, resA, resOne, toT, fin, exa, beq_self_eq_true, ByteArray.size, Nat.reduceAdd, Nat.reduceLeDiff, Nat.reduceEqDiff, Nat.reduceMul, Int.reduceToNat, reduceIte, Int.reduceLE, Int.reduceNeg, h1, h3, h4]
            rfl
          | false =>
            refine runk_split 15 (by simp only [exa, beq_self_eq_true, ByteArray.size, Nat.reduceAdd, Nat.reduceLeDiff, Nat.reduceEqDiff, Nat.reduceMul, Int.reduceToNat, reduceIte, Int.reduceLE, Int.reduceNeg, hcp, h1, h3]; rfl) ?_
            refine runk_call rfl rfl rfl rfl rfl (by simp) (cvs_cons cv_refl (cvs_cons cv_refl cvs_nil)) (hca _) ?_
            refine runk_exec (by simp only [exa, beq_self_eq_true, ByteArray.size, Nat.reduceAdd, Nat.reduceLeDiff, Nat.reduceEqDiff, Nat.reduceMul, Int.reduceToNat, reduceIte, Int.reduceLE, Int.reduceNeg, h1, h3]; rfl) ?_
            refine W.ret ⟨.inr rfl, by rfl, ?_⟩
            simp only [Try.f12, resA, resOne, toT, fin, exa, beq_self_eq_true, ByteArray.size, Nat.reduceAdd, Nat.reduceLeDiff, Nat.reduceEqDiff, Nat.reduceMul, Int.reduceToNat, reduceIte, Int.reduceLE, Int.reduceNeg, h1, h3]
            rfl
        | true =>
          cases Lb with
          | false =>
            cases h3 : (a.toList == tNull.toList) with
            | true =>
              have h4 : (b.toList == tInt.toList) = true := by rw [h3] at h2; simpa using h2
              refine runk_split 15 (by simp only [exa, beq_self_eq_true, ByteArray.size, Nat.reduceAdd, Nat.reduceLeDiff, Nat.reduceEqDiff, Nat.reduceMul, Int.reduceToNat, reduceIte, Int.reduceLE, Int.reduceNeg, hcp, h1, h3, h4]; rfl) ?_
              refine runk_call rfl rfl rfl rfl rfl (by simp) (cvs_cons cv_refl (cvs_cons cv_refl cvs_nil)) (hca _) ?_
              refine runk_split 3 (by simp only [exa, beq_self_eq_true, ByteArray.size, Nat.reduceAdd, Nat.reduceLeDiff, Nat.reduceEqDiff, Nat.reduceMul, Int.reduceToNat, reduceIte, Int.reduceLE, Int.reduceNeg, hcp]; rfl) ?_
              refine runk_call rfl rfl rfl rfl rfl (by simp) (cvs_cons cv_refl (cvs_cons cv_refl cvs_nil)) (hcb _) ?_
              refine runk_exec (by simp only [exa, beq_self_eq_true, ByteArray.size, Nat.reduceAdd, Nat.reduceLeDiff, Nat.reduceEqDiff, Nat.reduceMul, Int.reduceToNat, reduceIte, Int.reduceLE, Int.reduceNeg, h1, h3, h4]; rfl) ?_
              refine W.ret ⟨.inr rfl, by rfl, ?_⟩
              simp only [Try.f12, resA, resOne, toT, fin, exa, beq_self_eq_true, ByteArray.size, Nat.reduceAdd, Nat.reduceLeDiff, Nat.reduceEqDiff, Nat.reduceMul, Int.reduceToNat, reduceIte, Int.reduceLE, Int.reduceNeg, h1, h3, h4]
              rfl
            | false =>
              refine runk_split 15 (by simp only [exa, beq_self_eq_true, ByteArray.size, Nat.reduceAdd, Nat.reduceLeDiff, Nat.reduceEqDiff, Nat.reduceMul, Int.reduceToNat, reduceIte, Int.reduceLE, Int.reduceNeg, hcp, h1, h3]; rfl) ?_
              refine runk_call rfl rfl rfl rfl rfl (by simp) (cvs_cons cv_refl (cvs_cons cv_refl cvs_nil)) (hca _) ?_
              refine runk_split 3 (by simp only [exa, beq_self_eq_true, ByteArray.size, Nat.reduceAdd, Nat.reduceLeDiff, Nat.reduceEqDiff, Nat.reduceMul, Int.reduceToNat, reduceIte, Int.reduceLE, Int.reduceNeg, hcp]; rfl) ?_
              refine runk_call rfl rfl rfl rfl rfl (by simp) (cvs_cons cv_refl (cvs_cons cv_refl cvs_nil)) (hcb _) ?_
              refine runk_exec (by simp only [exa, beq_self_eq_true, ByteArray.size, Nat.reduceAdd, Nat.reduceLeDiff, Nat.reduceEqDiff, Nat.reduceMul, Int.reduceToNat, reduceIte, Int.reduceLE, Int.reduceNeg, h1, h3]; rfl) ?_
              refine W.ret ⟨.inr rfl, by rfl, ?_⟩
              simp only [Try.f12, resA, resOne, toT, fin, exa, beq_self_eq_true, ByteArray.size, Nat.reduceAdd, Nat.reduceLeDiff, Nat.reduceEqDiff, Nat.reduceMul, Int.reduceToNat, reduceIte, Int.reduceLE, Int.reduceNeg, h1, h3]
              rfl
          | true =>
            cases h3 : (a.toList == tNull.toList) with
            | true =>
              have h4 : (b.toList == tInt.toList) = true := by rw [h3] at h2; simpa using h2
              refine runk_split 15 (by simp only [exa, beq_self_eq_true, ByteArray.size, Nat.reduceAdd, Nat.reduceLeDiff, Nat.reduceEqDiff, Nat.reduceMul, Int.reduceToNat, reduceIte, Int.reduceLE, Int.reduceNeg, hcp, h1, h3, h4]; rfl) ?_
              refine runk_call rfl rfl rfl rfl rfl (by simp) (cvs_cons cv_refl (cvs_cons cv_refl cvs_nil)) (hca _) ?_
              refine runk_split 3 (by simp only [exa, beq_self_eq_true, ByteArray.size, Nat.reduceAdd, Nat.reduceLeDiff, Nat.reduceEqDiff, Nat.reduceMul, Int.reduceToNat, reduceIte, Int.reduceLE, Int.reduceNeg, hcp]; rfl) ?_
              refine runk_call rfl rfl rfl rfl rfl (by simp) (cvs_cons cv_refl (cvs_cons cv_refl cvs_nil)) (hcb _) ?_
              refine runk_split 5 (by simp only [exa, beq_self_eq_true, ByteArray.size, Nat.reduceAdd, Nat.reduceLeDiff, Nat.reduceEqDiff, Nat.reduceMul, Int.reduceToNat, reduceIte, Int.reduceLE, Int.reduceNeg, hcp]; rfl) ?_
              refine runk_call rfl rfl rfl rfl rfl (by simp) (cvs_cons cv_refl (cvs_cons cv_refl (cvs_cons cv_refl cvs_nil))) (hbe _) ?_
              refine runk_exec (by simp only [exa, beq_self_eq_true, ByteArray.size, Nat.reduceAdd, Nat.reduceLeDiff, Nat.reduceEqDiff, Nat.reduceMul, Int.reduceToNat, reduceIte, Int.reduceLE, Int.reduceNeg, h1, h3, h4]; rfl) ?_
              refine W.ret ⟨.inr rfl, by rfl, ?_⟩
              simp only [Try.f12, resA, resOne, toT, fin, exa, beq_self_eq_true, ByteArray.size, Nat.reduceAdd, Nat.reduceLeDiff, Nat.reduceEqDiff, Nat.reduceMul, Int.reduceToNat, reduceIte, Int.reduceLE, Int.reduceNeg, h1, h3, h4]
              rfl
            | false =>
              refine runk_split 15 (by simp only [exa, beq_self_eq_true, ByteArray.size, Nat.reduceAdd, Nat.reduceLeDiff, Nat.reduceEqDiff, Nat.reduceMul, Int.reduceToNat, reduceIte, Int.reduceLE, Int.reduceNeg, hcp, h1, h3]; rfl) ?_
              refine runk_call rfl rfl rfl rfl rfl (by simp) (cvs_cons cv_refl (cvs_cons cv_refl cvs_nil)) (hca _) ?_
              refine runk_split 3 (by simp only [exa, beq_self_eq_true, ByteArray.size, Nat.reduceAdd, Nat.reduceLeDiff, Nat.reduceEqDiff, Nat.reduceMul, Int.reduceToNat, reduceIte, Int.reduceLE, Int.reduceNeg, hcp]; rfl) ?_
              refine runk_call rfl rfl rfl rfl rfl (by simp) (cvs_cons cv_refl (cvs_cons cv_refl cvs_nil)) (hcb _) ?_
              refine runk_split 5 (by simp only [exa, beq_self_eq_true, ByteArray.size, Nat.reduceAdd, Nat.reduceLeDiff, Nat.reduceEqDiff, Nat.reduceMul, Int.reduceToNat, reduceIte, Int.reduceLE, Int.reduceNeg, hcp]; rfl) ?_
              refine runk_call rfl rfl rfl rfl rfl (by simp) (cvs_cons cv_refl (cvs_cons cv_refl (cvs_cons cv_refl cvs_nil))) (hbe _) ?_
              refine runk_exec (by simp only [exa, beq_self_eq_true, ByteArray.size, Nat.reduceAdd, Nat.reduceLeDiff, Nat.reduceEqDiff, Nat.reduceMul, Int.reduceToNat, reduceIte, Int.reduceLE, Int.reduceNeg, h1, h3]; rfl) ?_
              refine W.ret ⟨.inr rfl, by rfl, ?_⟩
              simp only [Try.f12, resA, resOne, toT, fin, exa, beq_self_eq_true, ByteArray.size, Nat.reduceAdd, Nat.reduceLeDiff, Nat.reduceEqDiff, Nat.reduceMul, Int.reduceToNat, reduceIte, Int.reduceLE, Int.reduceNeg, h1, h3]
              rfl
theorem fitsP_ok' (p : Program) (E : Int) (a b : ByteArray) (hlen : p.classes.length ≤ 1000000000) (hchk : ∀ m, COk Try.prog 9 [.agg (cProg p)] m (.c (.int .i64 E))) (m : Mem) :
    COk Try.prog 6 [.agg (cProg p), .c (.str a), .c (.str b)] m (.c (.bool (decide (E = 0) && fitR E p.classes a b))) := by
  have hf := fun m => fits_ok p E [.str ⟨#[]⟩, .str ⟨#[]⟩, .sl []] a b hlen hchk m
  have hcp : cProg p = [.sl (p.classes.map cClass), .sl (cStmts p.main)] := rfl
  refine (ok_pure tab_ok Try.func6 (by kernel_rfl) rfl rfl (by rfl) (by rfl) (by rfl) (fun R hkeep => ?_) m)
  repeat (first | refine W.seq ?_ | refine W.block ?_ | refine W.skip ?_ | refine W.exit ?_ | refine W.region tab_ok 0 (by decide) (exec_run (by simp only [exa, beq_self_eq_true, ByteArray.size, Nat.reduceAdd, Nat.reduceLeDiff, Nat.reduceEqDiff, Nat.reduceMul, Int.reduceToNat, reduceIte, Int.reduceLE, Int.reduceNeg, hcp]; rfl)) ?_)
  refine W.regionK tab_ok 0 (by decide) ?_
  refine runk_split 1 (by simp only [exa, beq_self_eq_true, ByteArray.size, Nat.reduceAdd, Nat.reduceLeDiff, Nat.reduceEqDiff, Nat.reduceMul, Int.reduceToNat, reduceIte, Int.reduceLE, Int.reduceNeg, hcp]; rfl) ?_
  refine runk_call rfl rfl rfl rfl rfl (by simp) (cvs_cons cv_refl cvs_nil) (hchk _) ?_
  by_cases hE : E = 0
  · subst hE
    refine runk_split 5 (by simp only [exa, beq_self_eq_true, ByteArray.size, Nat.reduceAdd, Nat.reduceLeDiff, Nat.reduceEqDiff, Nat.reduceMul, Int.reduceToNat, reduceIte, Int.reduceLE, Int.reduceNeg, hcp]; rfl) ?_
    refine runk_callR rfl rfl rfl rfl rfl (by simp) (cvrs_cons (cvr_ptr rfl rfl) (cvrs_cons cvr_refl (cvrs_cons cvr_refl cvrs_nil))) (by rfl) (by rfl) hf ?_
    refine runk_exec (by simp only [exa, beq_self_eq_true, ByteArray.size, Nat.reduceAdd, Nat.reduceLeDiff, Nat.reduceEqDiff, Nat.reduceMul, Int.reduceToNat, reduceIte, Int.reduceLE, Int.reduceNeg]; rfl) ?_
    refine W.ret ⟨.inr rfl, by rfl, ?_⟩
    simp only [Try.f6, resA, resOne, toT, fin, exa, beq_self_eq_true, ByteArray.size, Nat.reduceAdd, Nat.reduceLeDiff, Nat.reduceEqDiff, Nat.reduceMul, Int.reduceToNat, reduceIte, Int.reduceLE, Int.reduceNeg]
    simp
  · have hd : decide (E = 0) = false := decide_eq_false hE
    refine runk_exec (by simp only [exa, beq_self_eq_true, ByteArray.size, Nat.reduceAdd, Nat.reduceLeDiff, Nat.reduceEqDiff, Nat.reduceMul, Int.reduceToNat, reduceIte, Int.reduceLE, Int.reduceNeg, hd]; rfl) ?_
    refine W.ret ⟨.inr rfl, by rfl, ?_⟩
    simp only [Try.f6, resA, resOne, toT, fin, exa, beq_self_eq_true, ByteArray.size, Nat.reduceAdd, Nat.reduceLeDiff, Nat.reduceEqDiff, Nat.reduceMul, Int.reduceToNat, reduceIte, Int.reduceLE, Int.reduceNeg, hd]
    rfl
theorem refFitsP_ok (p : Program) (E : Int) (a b : ByteArray) (hlen : p.classes.length ≤ 1000000000) (hchk : ∀ m, COk Try.prog 11 [.agg (cProg p)] m (.c (.int .i64 E))) (m : Mem) :
    COk Try.prog 7 [.agg (cProg p), .c (.str a), .c (.str b)] m (.c (.bool (decide (E = 0) && fitD E p.classes a b))) := by
  have hf := fun m => refFits_ok p E a b hlen hchk m
  have hcp : cProg p = [.sl (p.classes.map cClass), .sl (cStmts p.main)] := rfl
  refine (ok_pure tab_ok Try.func7 (by kernel_rfl) rfl rfl (by rfl) (by rfl) (by rfl) (fun R hkeep => ?_) m)
  repeat (first | refine W.seq ?_ | refine W.block ?_ | refine W.skip ?_ | refine W.exit ?_ | refine W.region tab_ok 0 (by decide) (exec_run (by simp only [exa, beq_self_eq_true, ByteArray.size, Nat.reduceAdd, Nat.reduceLeDiff, Nat.reduceEqDiff, Nat.reduceMul, Int.reduceToNat, reduceIte, Int.reduceLE, Int.reduceNeg, hcp]; rfl)) ?_)
  refine W.regionK tab_ok 0 (by decide) ?_
  refine runk_split 1 (by simp only [exa, beq_self_eq_true, ByteArray.size, Nat.reduceAdd, Nat.reduceLeDiff, Nat.reduceEqDiff, Nat.reduceMul, Int.reduceToNat, reduceIte, Int.reduceLE, Int.reduceNeg, hcp]; rfl) ?_
  refine runk_call rfl rfl rfl rfl rfl (by simp) (cvs_cons cv_refl cvs_nil) (hchk _) ?_
  by_cases hE : E = 0
  · subst hE
    refine runk_split 5 (by simp only [exa, beq_self_eq_true, ByteArray.size, Nat.reduceAdd, Nat.reduceLeDiff, Nat.reduceEqDiff, Nat.reduceMul, Int.reduceToNat, reduceIte, Int.reduceLE, Int.reduceNeg, hcp]; rfl) ?_
    refine runk_call rfl rfl rfl rfl rfl (by simp) (cvs_cons cv_refl (cvs_cons cv_refl (cvs_cons cv_refl cvs_nil))) (hf _) ?_
    refine runk_exec (by simp only [exa, beq_self_eq_true, ByteArray.size, Nat.reduceAdd, Nat.reduceLeDiff, Nat.reduceEqDiff, Nat.reduceMul, Int.reduceToNat, reduceIte, Int.reduceLE, Int.reduceNeg]; rfl) ?_
    refine W.ret ⟨.inr rfl, by rfl, ?_⟩
    simp only [Try.f7, resA, resOne, toT, fin, exa, beq_self_eq_true, ByteArray.size, Nat.reduceAdd, Nat.reduceLeDiff, Nat.reduceEqDiff, Nat.reduceMul, Int.reduceToNat, reduceIte, Int.reduceLE, Int.reduceNeg]
    simp
  · have hd : decide (E = 0) = false := decide_eq_false hE
    refine runk_exec (by simp only [exa, beq_self_eq_true, ByteArray.size, Nat.reduceAdd, Nat.reduceLeDiff, Nat.reduceEqDiff, Nat.reduceMul, Int.reduceToNat, reduceIte, Int.reduceLE, Int.reduceNeg, hd]; rfl) ?_
    refine W.ret ⟨.inr rfl, by rfl, ?_⟩
    simp only [Try.f7, resA, resOne, toT, fin, exa, beq_self_eq_true, ByteArray.size, Nat.reduceAdd, Nat.reduceLeDiff, Nat.reduceEqDiff, Nat.reduceMul, Int.reduceToNat, reduceIte, Int.reduceLE, Int.reduceNeg, hd]
    rfl
end V
end Go.Proofs.Ythhpcjoaogmhbaa
end
section
set_option linter.unusedVariables false
set_option linter.unusedSimpArgs false
namespace Go.Proofs.Ythhpcjoaogmhbaa
namespace V
def Named (cs : List Class) : Prop := ∀ c ∈ cs, isNameB c.name = true
theorem named_of {p : Program} (h : chkErr (errP p) p.classes = 0) : Named p.classes := by
  intro c hc
  have hb : checkB p = true := by
    cases hk : checkB p with
    | true => rfl
    | false =>
      unfold chkErr errP at h
      rw [hk] at h
      simp [treeErr] at h
  unfold checkB at hb
  rw [Bool.and_eq_true] at hb
  have := List.all_eq_true.1 hb.2 c hc
  simp only [classB, classTop, Bool.and_eq_true] at this
  first | exact this.1.1.1 | exact this.1.1
theorem isNm_iff {cs : List Class} {t : ByteArray} : cs.any (isNm t) = true ↔ ∃ c ∈ cs, c.name = t := by
  rw [List.any_eq_true]
  exact ⟨fun ⟨c, hc, h⟩ => ⟨c, hc, beq_bytes.1 h⟩, fun ⟨c, hc, h⟩ => ⟨c, hc, beq_bytes.2 h⟩⟩
theorem noNull : isNameB tNull = false := by decide +kernel
theorem noInt : isNameB tInt = false := by decide +kernel
theorem null_not {cs : List Class} (h : Named cs) : cs.any (isNm tNull) = false := by
  cases hk : cs.any (isNm tNull) with
  | false => rfl
  | true =>
    obtain ⟨c, hc, e⟩ := isNm_iff.1 hk
    have := h c hc
    rw [e, noNull] at this; cases this
theorem int_not {cs : List Class} (h : Named cs) : cs.any (isNm tInt) = false := by
  cases hk : cs.any (isNm tInt) with
  | false => rfl
  | true =>
    obtain ⟨c, hc, e⟩ := isNm_iff.1 hk
    have := h c hc
    rw [e, noInt] at this; cases this
theorem null_known {cs : List Class} (h : Named cs) : knownR cs tNull = false := by
  unfold knownR
  rw [null_not h]
  decide +kernel
theorem below_class {cs : List Class} {a b : ByteArray} (h : belowR 0 cs a b = true) : cs.any (isNm b) = true := by
  obtain ⟨i, d, hd, e⟩ := belowR_iff.1 h
  exact isNm_iff.2 ⟨d, (chainC_mem cs _ a d (List.mem_of_getElem? hd)).1, e⟩
theorem fit_eq {cs : List Class} {a b : ByteArray} (h : Named cs) : fitR 0 cs a b = fitD 0 cs a b := by
  have e : belowR 0 cs a b = (refChainF 0 cs a).any (fun x => x.toList == b.toList) := by
    unfold belowR
    rw [chain_eq]
    congr 1; funext x; exact BEq.comm
  unfold fitR fitD
  rw [← e]
  have hb := below_class (cs := cs) (a := a) (b := b)
  by_cases hn : (a.toList == tNull.toList) = true
  · obtain rfl := beq_bytes.1 hn
    rw [null_not h, if_pos hn, hn]
    simp
  · rw [if_neg hn]
    have hn : (a.toList == tNull.toList) = false := by simpa using hn
    rw [hn]
    cases hB : belowR 0 cs a b with
    | false => simp
    | true => rw [hb hB]; simp
theorem fit_iff {cs : List Class} {a b : ByteArray} : fitR 0 cs a b = true ↔ knownR cs b = true ∧ (a = b ∨ (a = tNull ∧ b ≠ tInt) ∨ (a ≠ tNull ∧ cs.any (isNm a) = true ∧ belowR 0 cs a b = true)) := by
  have e1 : (a.toList == b.toList) = decide (a = b) := by rw [Bool.eq_iff_iff, beq_bytes]; simp
  have e2 : (a.toList == tNull.toList) = decide (a = tNull) := by rw [Bool.eq_iff_iff, beq_bytes]; simp
  have e3 : (b.toList == tInt.toList) = decide (b = tInt) := by rw [Bool.eq_iff_iff, beq_bytes]; simp
  unfold fitR
  rw [e1, e2, e3]
  by_cases h : a = tNull
  · simp [h]
  · simp [h]
theorem fit_anti {cs : List Class} {a b : ByteArray} (h0 : Same0 cs) (hab : a ≠ b) (ha : a ≠ tNull) (hb : b ≠ tNull) (h1 : fitR 0 cs a b = true) (h2 : fitR 0 cs b a = true) : False := by
  obtain ⟨-, h1⟩ := fit_iff.1 h1
  obtain ⟨-, h2⟩ := fit_iff.1 h2
  rcases h1 with e | ⟨e, -⟩ | ⟨-, -, h1⟩
  · exact hab e
  · exact ha e
  rcases h2 with e | ⟨e, -⟩ | ⟨-, -, h2⟩
  · exact hab e.symm
  · exact hb e
  exact hab (below_anti h0 h1 h2)
theorem fit_trans {cs : List Class} {a b c : ByteArray} (hn : Named cs) (h0 : Same0 cs) (h1 : fitR 0 cs a b = true) (h2 : fitR 0 cs b c = true) : fitR 0 cs a c = true := by
  obtain ⟨k1, q1⟩ := fit_iff.1 h1
  obtain ⟨k2, q2⟩ := fit_iff.1 h2
  rcases q1 with rfl | q1
  · exact h2
  rcases q2 with rfl | q2
  · exact h1
  have hb : b ≠ tNull := fun e => by subst e; rw [null_known hn] at k1; cases k1
  obtain ⟨-, -, hbc⟩ := q2.resolve_left (fun q => hb q.1)
  refine fit_iff.2 ⟨k2, ?_⟩
  rcases q1 with ⟨rfl, -⟩ | ⟨ha, hA, hab⟩
  · refine .inr (.inl ⟨rfl, fun e => ?_⟩)
    subst e
    have := below_class hbc
    rw [int_not hn] at this; cases this
  · exact .inr (.inr ⟨ha, hA, below_trans h0 hab hbc⟩)
end V
end Go.Proofs.Ythhpcjoaogmhbaa
end
section
set_option linter.unusedVariables false
set_option linter.unusedSimpArgs false
namespace Go.Proofs.Ythhpcjoaogmhbaa
namespace V
open Go.RowKit
def b1 (n : UInt8) : ByteArray := ⟨#[n]⟩
def oneP : Program := ⟨[⟨b1 65, ⟨#[]⟩, [⟨tInt, b1 102⟩], []⟩, ⟨b1 66, b1 65, [], []⟩], []⟩
set_option maxHeartbeats 1000000 in
theorem one_ok (m : Mem) : COk Try.prog 8 [] m (.agg (cProg oneP)) := by
  refine (ok_pure tab_ok Try.func8 (by kernel_rfl) rfl rfl (by rfl) (by rfl) (by rfl) (fun R hkeep => ?_) m)
  repeat (first | refine W.seq ?_ | refine W.block ?_ | refine W.skip ?_ | refine W.exit ?_ | refine W.region tab_ok 0 (by decide) (exec_run (by simp only [exa, beq_self_eq_true, ByteArray.size, Nat.reduceAdd, Nat.reduceLeDiff, Nat.reduceEqDiff, Nat.reduceMul, Int.reduceToNat, reduceIte, Int.reduceLE, Int.reduceNeg]; rfl)) ?_)
  refine W.ret ⟨.inr rfl, by rfl, ?_⟩
  simp only [Try.f8, resA, resOne, toT, fin, exa, beq_self_eq_true, ByteArray.size, Nat.reduceAdd, Nat.reduceLeDiff, Nat.reduceEqDiff, Nat.reduceMul, Int.reduceToNat, reduceIte, Int.reduceLE, Int.reduceNeg]
  simp [cProg, oneP, cClass, cSlot, cMethod, cStmts, b1, tInt]
theorem one_tree : checkB oneP = true := by decide +kernel
theorem one_zero : chkErr (errP oneP) oneP.classes = 0 := by
  unfold errP; rw [one_tree]; decide +kernel
theorem small_one : SmallC oneP.classes := by
  intro c hc
  simp only [oneP, List.mem_cons, List.not_mem_nil, or_false] at hc
  rcases hc with rfl | rfl <;> exact ⟨by decide, by decide, fun m hm => by simp at hm⟩
theorem one_fit (a b : ByteArray) (m : Mem) : COk Try.prog 6 [.agg (cProg oneP), .c (.str a), .c (.str b)] m (.c (.bool (fitR 0 oneP.classes a b))) := by
  have h := fitsP_ok' oneP 0 a b (by decide) (fun m => by have := chk_ok oneP small_one (by decide) m; rw [one_zero] at this; exact this) m
  simpa using h
set_option maxHeartbeats 1000000 in
theorem live7_ok (m : Mem) : COk Try.prog 5 [] m (.c (.bool true)) := by
  have h1 := one_fit (b1 66) (b1 65)
  have h2 := one_fit (b1 65) (b1 66)
  rw [show fitR 0 oneP.classes (b1 66) (b1 65) = true by decide +kernel] at h1
  rw [show fitR 0 oneP.classes (b1 65) (b1 66) = false by decide +kernel] at h2
  refine (ok_pure tab_ok Try.func5 (by kernel_rfl) rfl rfl (by rfl) (by rfl) (by rfl) (fun R hkeep => ?_) m)
  repeat (first | refine W.seq ?_ | refine W.block ?_ | refine W.skip ?_ | refine W.exit ?_ | refine W.region tab_ok 0 (by decide) (exec_run (by simp only [exa, beq_self_eq_true, ByteArray.size, Nat.reduceAdd, Nat.reduceLeDiff, Nat.reduceEqDiff, Nat.reduceMul, Int.reduceToNat, reduceIte, Int.reduceLE, Int.reduceNeg]; rfl)) ?_)
  refine W.regionK tab_ok 0 (by decide) ?_
  refine runk_split 0 (by simp only [exa, beq_self_eq_true, ByteArray.size, Nat.reduceAdd, Nat.reduceLeDiff, Nat.reduceEqDiff, Nat.reduceMul, Int.reduceToNat, reduceIte, Int.reduceLE, Int.reduceNeg]; rfl) ?_
  refine runk_call rfl rfl rfl rfl rfl (by simp) cvs_nil (one_ok _) ?_
  refine runk_split 0 (by simp only [exa, beq_self_eq_true, ByteArray.size, Nat.reduceAdd, Nat.reduceLeDiff, Nat.reduceEqDiff, Nat.reduceMul, Int.reduceToNat, reduceIte, Int.reduceLE, Int.reduceNeg, b1]; rfl) ?_
  refine runk_call rfl rfl rfl rfl rfl (by simp) (cvs_cons cv_refl (cvs_cons cv_refl (cvs_cons cv_refl cvs_nil))) (h1 _) ?_
  refine runk_split 1 (by simp only [exa, beq_self_eq_true, ByteArray.size, Nat.reduceAdd, Nat.reduceLeDiff, Nat.reduceEqDiff, Nat.reduceMul, Int.reduceToNat, reduceIte, Int.reduceLE, Int.reduceNeg]; rfl) ?_
  refine runk_call rfl rfl rfl rfl rfl (by simp) cvs_nil (one_ok _) ?_
  refine runk_split 0 (by simp only [exa, beq_self_eq_true, ByteArray.size, Nat.reduceAdd, Nat.reduceLeDiff, Nat.reduceEqDiff, Nat.reduceMul, Int.reduceToNat, reduceIte, Int.reduceLE, Int.reduceNeg, b1]; rfl) ?_
  refine runk_call rfl rfl rfl rfl rfl (by simp) (cvs_cons cv_refl (cvs_cons cv_refl (cvs_cons cv_refl cvs_nil))) (h2 _) ?_
  refine runk_exec (by simp only [exa, beq_self_eq_true, ByteArray.size, Nat.reduceAdd, Nat.reduceLeDiff, Nat.reduceEqDiff, Nat.reduceMul, Int.reduceToNat, reduceIte, Int.reduceLE, Int.reduceNeg]; rfl) ?_
  refine W.ret ⟨.inr rfl, by rfl, ?_⟩
  simp only [Try.f5, resA, resOne, toT, fin, exa, beq_self_eq_true, ByteArray.size, Nat.reduceAdd, Nat.reduceLeDiff, Nat.reduceEqDiff, Nat.reduceMul, Int.reduceToNat, reduceIte, Int.reduceLE, Int.reduceNeg]
set_option maxHeartbeats 1000000 in
theorem lawFits_ok (p : Program) (a b : ByteArray) (hS : SmallC p.classes) (hlen : p.classes.length ≤ 1048576) (m : Mem) : COk Try.prog 3 [.agg (cProg p), .c (.str a), .c (.str b)] m (.c (.bool true)) := by
  have h1 := fun m => fitsP_ok' p _ a b (by omega) (chk_ok p hS hlen) m
  have h2 := fun m => refFitsP_ok p _ a b (by omega) (refChk_ok p hS hlen) m
  have he : (decide (chkErr (errP p) p.classes = 0) && fitD (chkErr (errP p) p.classes) p.classes a b) = (decide (chkErr (errP p) p.classes = 0) && fitR (chkErr (errP p) p.classes) p.classes a b) := by
    by_cases h : chkErr (errP p) p.classes = 0
    · have := fit_eq (a := a) (b := b) (named_of h)
      rw [h, this]
    · simp [h]
  rw [he] at h2
  generalize (decide (chkErr (errP p) p.classes = 0) && fitR (chkErr (errP p) p.classes) p.classes a b) = B at h1 h2
  refine (ok_pure tab_ok Try.func3 (by kernel_rfl) rfl rfl (by rfl) (by rfl) (by rfl) (fun R hkeep => ?_) m)
  repeat (first | refine W.seq ?_ | refine W.block ?_ | refine W.skip ?_ | refine W.exit ?_ | refine W.region tab_ok 0 (by decide) (exec_run (by simp only [exa, beq_self_eq_true, ByteArray.size, Nat.reduceAdd, Nat.reduceLeDiff, Nat.reduceEqDiff, Nat.reduceMul, Int.reduceToNat, reduceIte, Int.reduceLE, Int.reduceNeg, cProg]; rfl)) ?_)
  refine W.regionDK tab_ok 0 follows_mixed (by kernel_rfl) (by decide) ?_
  refine runk_split 0 (by simp only [exa, beq_self_eq_true, ByteArray.size, Nat.reduceAdd, Nat.reduceLeDiff, Nat.reduceEqDiff, Nat.reduceMul, Int.reduceToNat, reduceIte, Int.reduceLE, Int.reduceNeg]; rfl) ?_
  refine runk_call rfl rfl rfl rfl rfl (by simp) cvs_nil (live7_ok _) ?_
  refine runk_split 4 (by simp only [exa, beq_self_eq_true, ByteArray.size, Nat.reduceAdd, Nat.reduceLeDiff, Nat.reduceEqDiff, Nat.reduceMul, Int.reduceToNat, reduceIte, Int.reduceLE, Int.reduceNeg, cProg]; rfl) ?_
  refine runk_call rfl rfl rfl rfl rfl (by simp) (cvs_cons cv_refl (cvs_cons cv_refl (cvs_cons cv_refl cvs_nil))) (h1 _) ?_
  refine runk_split 3 (by simp only [exa, beq_self_eq_true, ByteArray.size, Nat.reduceAdd, Nat.reduceLeDiff, Nat.reduceEqDiff, Nat.reduceMul, Int.reduceToNat, reduceIte, Int.reduceLE, Int.reduceNeg, cProg]; rfl) ?_
  refine runk_call rfl rfl rfl rfl rfl (by simp) (cvs_cons cv_refl (cvs_cons cv_refl (cvs_cons cv_refl cvs_nil))) (h2 _) ?_
  refine runk_exec (by simp only [exa, beq_self_eq_true, ByteArray.size, Nat.reduceAdd, Nat.reduceLeDiff, Nat.reduceEqDiff, Nat.reduceMul, Int.reduceToNat, reduceIte, Int.reduceLE, Int.reduceNeg]; rfl) ?_
  refine W.ret ⟨.inr rfl, by rfl, ?_⟩
  simp only [Try.f3, resA, resOne, toT, fin, exa, beq_self_eq_true, ByteArray.size, Nat.reduceAdd, Nat.reduceLeDiff, Nat.reduceEqDiff, Nat.reduceMul, Int.reduceToNat, reduceIte, Int.reduceLE, Int.reduceNeg]
set_option maxHeartbeats 4000000 in
theorem lawFitOrder_ok (p : Program) (a b c : ByteArray) (hS : SmallC p.classes) (hlen : p.classes.length ≤ 1048576) (m : Mem) : COk Try.prog 4 [.agg (cProg p), .c (.str a), .c (.str b), .c (.str c)] m (.c (.bool true)) := by
  have hB := fun (x y : ByteArray) m => fitsP_ok' p _ x y (by omega) (chk_ok p hS hlen) m
  have hab := hB a b
  have hba := hB b a
  have hbc := hB b c
  have hac := hB a c
  have hT : (decide (chkErr (errP p) p.classes = 0) && fitR (chkErr (errP p) p.classes) p.classes a b) = true → (decide (chkErr (errP p) p.classes = 0) && fitR (chkErr (errP p) p.classes) p.classes b c) = true → (decide (chkErr (errP p) p.classes = 0) && fitR (chkErr (errP p) p.classes) p.classes a c) = true := by
    intro h1 h2
    rw [Bool.and_eq_true] at h1 h2
    have h0 : chkErr (errP p) p.classes = 0 := of_decide_eq_true h1.1
    have hn := named_of h0
    have hs := chkErr_zero h0
    rw [h0] at h1 h2 ⊢
    simp only [decide_true, Bool.true_and]
    exact fit_trans hn hs h1.2 h2.2
  have hA : (a.toList == b.toList) = false → (a.toList == tNull.toList) = false → (b.toList == tNull.toList) = false → (decide (chkErr (errP p) p.classes = 0) && fitR (chkErr (errP p) p.classes) p.classes a b) = true → (decide (chkErr (errP p) p.classes = 0) && fitR (chkErr (errP p) p.classes) p.classes b a) = true → False := by
    intro e1 e2 e3 h1 h2
    rw [Bool.and_eq_true] at h1 h2
    have h0 : chkErr (errP p) p.classes = 0 := of_decide_eq_true h1.1
    have hs := chkErr_zero h0
    rw [h0] at h1 h2
    have ne : ∀ {x y : ByteArray}, (x.toList == y.toList) = false → x ≠ y := fun h e => by subst e; simp at h
    exact fit_anti hs (ne e1) (ne e2) (ne e3) h1.2 h2.2
  clear hB
  generalize (decide (chkErr (errP p) p.classes = 0) && fitR (chkErr (errP p) p.classes) p.classes a b) = B1 at hab hT hA
  generalize (decide (chkErr (errP p) p.classes = 0) && fitR (chkErr (errP p) p.classes) p.classes b a) = B2 at hba hA
  generalize (decide (chkErr (errP p) p.classes = 0) && fitR (chkErr (errP p) p.classes) p.classes b c) = B3 at hbc hT
  generalize (decide (chkErr (errP p) p.classes = 0) && fitR (chkErr (errP p) p.classes) p.classes a c) = B4 at hac hT
  refine (ok_pure tab_ok Try.func4 (by kernel_rfl) rfl rfl (by rfl) (by rfl) (by rfl) (fun R hkeep => ?_) m)
  repeat (first | refine W.seq ?_ | refine W.block ?_ | refine W.skip ?_ | refine W.exit ?_ | refine W.region tab_ok 0 (by decide) (exec_run (by simp only [exa, beq_self_eq_true, ByteArray.size, Nat.reduceAdd, Nat.reduceLeDiff, Nat.reduceEqDiff, Nat.reduceMul, Int.reduceToNat, reduceIte, Int.reduceLE, Int.reduceNeg, cProg]; rfl)) ?_)
  refine W.regionK tab_ok 0 (by decide) ?_
  refine runk_split 0 (by simp only [exa, beq_self_eq_true, ByteArray.size, Nat.reduceAdd, Nat.reduceLeDiff, Nat.reduceEqDiff, Nat.reduceMul, Int.reduceToNat, reduceIte, Int.reduceLE, Int.reduceNeg]; rfl) ?_
  refine runk_call rfl rfl rfl rfl rfl (by simp) cvs_nil (live7_ok _) ?_
  refine runk_exec (by simp only [exa, beq_self_eq_true, ByteArray.size, Nat.reduceAdd, Nat.reduceLeDiff, Nat.reduceEqDiff, Nat.reduceMul, Int.reduceToNat, reduceIte, Int.reduceLE, Int.reduceNeg]; rfl) ?_
  cases h1 : (a.toList == b.toList) with
  | true =>
    repeat (first | refine W.seq ?_ | refine W.block ?_ | refine W.skip ?_ | refine W.exit ?_ | refine W.region tab_ok 0 (by decide) (exec_run (by simp only [exa, beq_self_eq_true, ByteArray.size, Nat.reduceAdd, Nat.reduceLeDiff, Nat.reduceEqDiff, Nat.reduceMul, Int.reduceToNat, reduceIte, Int.reduceLE, Int.reduceNeg, h1]; rfl)) ?_)
    refine W.cond rfl (fun h => by simp at h) (fun _ => ?_)
    repeat (first | refine W.seq ?_ | refine W.block ?_ | refine W.skip ?_ | refine W.exit ?_ | refine W.region tab_ok 0 (by decide) (exec_run (by simp only [exa, beq_self_eq_true, ByteArray.size, Nat.reduceAdd, Nat.reduceLeDiff, Nat.reduceEqDiff, Nat.reduceMul, Int.reduceToNat, reduceIte, Int.reduceLE, Int.reduceNeg]; rfl)) ?_)
    cases B1
    · refine id ?_
      refine W.regionK tab_ok 0 (by decide) ?_
      refine runk_split 5 (by simp only [exa, beq_self_eq_true, ByteArray.size, Nat.reduceAdd, Nat.reduceLeDiff, Nat.reduceEqDiff, Nat.reduceMul, Int.reduceToNat, reduceIte, Int.reduceLE, Int.reduceNeg, cProg]; rfl) ?_
      refine runk_call rfl rfl rfl rfl rfl (by simp) (cvs_cons cv_refl (cvs_cons cv_refl (cvs_cons cv_refl cvs_nil))) (hab _) ?_
      refine runk_exec (by simp only [exa, beq_self_eq_true, ByteArray.size, Nat.reduceAdd, Nat.reduceLeDiff, Nat.reduceEqDiff, Nat.reduceMul, Int.reduceToNat, reduceIte, Int.reduceLE, Int.reduceNeg]; rfl) ?_
      refine W.ret ⟨.inr rfl, by rfl, ?_⟩
      simp only [Try.f4, resA, resOne, toT, fin, exa, beq_self_eq_true, ByteArray.size, Nat.reduceAdd, Nat.reduceLeDiff, Nat.reduceEqDiff, Nat.reduceMul, Int.reduceToNat, reduceIte, Int.reduceLE, Int.reduceNeg]
    · refine id ?_
      cases B3
      · refine id ?_
        refine W.regionK tab_ok 0 (by decide) ?_
        refine runk_split 5 (by simp only [exa, beq_self_eq_true, ByteArray.size, Nat.reduceAdd, Nat.reduceLeDiff, Nat.reduceEqDiff, Nat.reduceMul, Int.reduceToNat, reduceIte, Int.reduceLE, Int.reduceNeg, cProg]; rfl) ?_
        refine runk_call rfl rfl rfl rfl rfl (by simp) (cvs_cons cv_refl (cvs_cons cv_refl (cvs_cons cv_refl cvs_nil))) (hab _) ?_
        refine runk_split 5 (by simp only [exa, beq_self_eq_true, ByteArray.size, Nat.reduceAdd, Nat.reduceLeDiff, Nat.reduceEqDiff, Nat.reduceMul, Int.reduceToNat, reduceIte, Int.reduceLE, Int.reduceNeg, cProg]; rfl) ?_
        refine runk_call rfl rfl rfl rfl rfl (by simp) (cvs_cons cv_refl (cvs_cons cv_refl (cvs_cons cv_refl cvs_nil))) (hbc _) ?_
        refine runk_exec (by simp only [exa, beq_self_eq_true, ByteArray.size, Nat.reduceAdd, Nat.reduceLeDiff, Nat.reduceEqDiff, Nat.reduceMul, Int.reduceToNat, reduceIte, Int.reduceLE, Int.reduceNeg]; rfl) ?_
        refine W.ret ⟨.inr rfl, by rfl, ?_⟩
        simp only [Try.f4, resA, resOne, toT, fin, exa, beq_self_eq_true, ByteArray.size, Nat.reduceAdd, Nat.reduceLeDiff, Nat.reduceEqDiff, Nat.reduceMul, Int.reduceToNat, reduceIte, Int.reduceLE, Int.reduceNeg]
      · obtain rfl : B4 = true := hT rfl rfl
        refine W.regionK tab_ok 0 (by decide) ?_
        refine runk_split 5 (by simp only [exa, beq_self_eq_true, ByteArray.size, Nat.reduceAdd, Nat.reduceLeDiff, Nat.reduceEqDiff, Nat.reduceMul, Int.reduceToNat, reduceIte, Int.reduceLE, Int.reduceNeg, cProg]; rfl) ?_
        refine runk_call rfl rfl rfl rfl rfl (by simp) (cvs_cons cv_refl (cvs_cons cv_refl (cvs_cons cv_refl cvs_nil))) (hab _) ?_
        refine runk_split 5 (by simp only [exa, beq_self_eq_true, ByteArray.size, Nat.reduceAdd, Nat.reduceLeDiff, Nat.reduceEqDiff, Nat.reduceMul, Int.reduceToNat, reduceIte, Int.reduceLE, Int.reduceNeg, cProg]; rfl) ?_
        refine runk_call rfl rfl rfl rfl rfl (by simp) (cvs_cons cv_refl (cvs_cons cv_refl (cvs_cons cv_refl cvs_nil))) (hbc _) ?_
        refine runk_split 6 (by simp only [exa, beq_self_eq_true, ByteArray.size, Nat.reduceAdd, Nat.reduceLeDiff, Nat.reduceEqDiff, Nat.reduceMul, Int.reduceToNat, reduceIte, Int.reduceLE, Int.reduceNeg, cProg]; rfl) ?_
        refine runk_call rfl rfl rfl rfl rfl (by simp) (cvs_cons cv_refl (cvs_cons cv_refl (cvs_cons cv_refl cvs_nil))) (hac _) ?_
        refine runk_exec (by simp only [exa, beq_self_eq_true, ByteArray.size, Nat.reduceAdd, Nat.reduceLeDiff, Nat.reduceEqDiff, Nat.reduceMul, Int.reduceToNat, reduceIte, Int.reduceLE, Int.reduceNeg]; rfl) ?_
        refine W.ret ⟨.inr rfl, by rfl, ?_⟩
        simp only [Try.f4, resA, resOne, toT, fin, exa, beq_self_eq_true, ByteArray.size, Nat.reduceAdd, Nat.reduceLeDiff, Nat.reduceEqDiff, Nat.reduceMul, Int.reduceToNat, reduceIte, Int.reduceLE, Int.reduceNeg]
  | false =>
    cases h2 : (a.toList == tNull.toList) with
    | true =>
      repeat (first | refine W.seq ?_ | refine W.block ?_ | refine W.skip ?_ | refine W.exit ?_ | refine W.region tab_ok 0 (by decide) (exec_run (by simp only [exa, beq_self_eq_true, ByteArray.size, Nat.reduceAdd, Nat.reduceLeDiff, Nat.reduceEqDiff, Nat.reduceMul, Int.reduceToNat, reduceIte, Int.reduceLE, Int.reduceNeg, h1, h2]; rfl)) ?_)
      refine W.cond rfl (fun h => by simp at h) (fun _ => ?_)
      repeat (first | refine W.seq ?_ | refine W.block ?_ | refine W.skip ?_ | refine W.exit ?_ | refine W.region tab_ok 0 (by decide) (exec_run (by simp only [exa, beq_self_eq_true, ByteArray.size, Nat.reduceAdd, Nat.reduceLeDiff, Nat.reduceEqDiff, Nat.reduceMul, Int.reduceToNat, reduceIte, Int.reduceLE, Int.reduceNeg]; rfl)) ?_)
      cases B1
      · refine id ?_
        refine W.regionK tab_ok 0 (by decide) ?_
        refine runk_split 5 (by simp only [exa, beq_self_eq_true, ByteArray.size, Nat.reduceAdd, Nat.reduceLeDiff, Nat.reduceEqDiff, Nat.reduceMul, Int.reduceToNat, reduceIte, Int.reduceLE, Int.reduceNeg, cProg]; rfl) ?_
        refine runk_call rfl rfl rfl rfl rfl (by simp) (cvs_cons cv_refl (cvs_cons cv_refl (cvs_cons cv_refl cvs_nil))) (hab _) ?_
        refine runk_exec (by simp only [exa, beq_self_eq_true, ByteArray.size, Nat.reduceAdd, Nat.reduceLeDiff, Nat.reduceEqDiff, Nat.reduceMul, Int.reduceToNat, reduceIte, Int.reduceLE, Int.reduceNeg]; rfl) ?_
        refine W.ret ⟨.inr rfl, by rfl, ?_⟩
        simp only [Try.f4, resA, resOne, toT, fin, exa, beq_self_eq_true, ByteArray.size, Nat.reduceAdd, Nat.reduceLeDiff, Nat.reduceEqDiff, Nat.reduceMul, Int.reduceToNat, reduceIte, Int.reduceLE, Int.reduceNeg]
      · refine id ?_
        cases B3
        · refine id ?_
          refine W.regionK tab_ok 0 (by decide) ?_
          refine runk_split 5 (by simp only [exa, beq_self_eq_true, ByteArray.size, Nat.reduceAdd, Nat.reduceLeDiff, Nat.reduceEqDiff, Nat.reduceMul, Int.reduceToNat, reduceIte, Int.reduceLE, Int.reduceNeg, cProg]; rfl) ?_
          refine runk_call rfl rfl rfl rfl rfl (by simp) (cvs_cons cv_refl (cvs_cons cv_refl (cvs_cons cv_refl cvs_nil))) (hab _) ?_
          refine runk_split 5 (by simp only [exa, beq_self_eq_true, ByteArray.size, Nat.reduceAdd, Nat.reduceLeDiff, Nat.reduceEqDiff, Nat.reduceMul, Int.reduceToNat, reduceIte, Int.reduceLE, Int.reduceNeg, cProg]; rfl) ?_
          refine runk_call rfl rfl rfl rfl rfl (by simp) (cvs_cons cv_refl (cvs_cons cv_refl (cvs_cons cv_refl cvs_nil))) (hbc _) ?_
          refine runk_exec (by simp only [exa, beq_self_eq_true, ByteArray.size, Nat.reduceAdd, Nat.reduceLeDiff, Nat.reduceEqDiff, Nat.reduceMul, Int.reduceToNat, reduceIte, Int.reduceLE, Int.reduceNeg]; rfl) ?_
          refine W.ret ⟨.inr rfl, by rfl, ?_⟩
          simp only [Try.f4, resA, resOne, toT, fin, exa, beq_self_eq_true, ByteArray.size, Nat.reduceAdd, Nat.reduceLeDiff, Nat.reduceEqDiff, Nat.reduceMul, Int.reduceToNat, reduceIte, Int.reduceLE, Int.reduceNeg]
        · obtain rfl : B4 = true := hT rfl rfl
          refine W.regionK tab_ok 0 (by decide) ?_
          refine runk_split 5 (by simp only [exa, beq_self_eq_true, ByteArray.size, Nat.reduceAdd, Nat.reduceLeDiff, Nat.reduceEqDiff, Nat.reduceMul, Int.reduceToNat, reduceIte, Int.reduceLE, Int.reduceNeg, cProg]; rfl) ?_
          refine runk_call rfl rfl rfl rfl rfl (by simp) (cvs_cons cv_refl (cvs_cons cv_refl (cvs_cons cv_refl cvs_nil))) (hab _) ?_
          refine runk_split 5 (by simp only [exa, beq_self_eq_true, ByteArray.size, Nat.reduceAdd, Nat.reduceLeDiff, Nat.reduceEqDiff, Nat.reduceMul, Int.reduceToNat, reduceIte, Int.reduceLE, Int.reduceNeg, cProg]; rfl) ?_
          refine runk_call rfl rfl rfl rfl rfl (by simp) (cvs_cons cv_refl (cvs_cons cv_refl (cvs_cons cv_refl cvs_nil))) (hbc _) ?_
          refine runk_split 6 (by simp only [exa, beq_self_eq_true, ByteArray.size, Nat.reduceAdd, Nat.reduceLeDiff, Nat.reduceEqDiff, Nat.reduceMul, Int.reduceToNat, reduceIte, Int.reduceLE, Int.reduceNeg, cProg]; rfl) ?_
          refine runk_call rfl rfl rfl rfl rfl (by simp) (cvs_cons cv_refl (cvs_cons cv_refl (cvs_cons cv_refl cvs_nil))) (hac _) ?_
          refine runk_exec (by simp only [exa, beq_self_eq_true, ByteArray.size, Nat.reduceAdd, Nat.reduceLeDiff, Nat.reduceEqDiff, Nat.reduceMul, Int.reduceToNat, reduceIte, Int.reduceLE, Int.reduceNeg]; rfl) ?_
          refine W.ret ⟨.inr rfl, by rfl, ?_⟩
          simp only [Try.f4, resA, resOne, toT, fin, exa, beq_self_eq_true, ByteArray.size, Nat.reduceAdd, Nat.reduceLeDiff, Nat.reduceEqDiff, Nat.reduceMul, Int.reduceToNat, reduceIte, Int.reduceLE, Int.reduceNeg]
    | false =>
      cases h3 : (b.toList == tNull.toList) with
      | true =>
        repeat (first | refine W.seq ?_ | refine W.block ?_ | refine W.skip ?_ | refine W.exit ?_ | refine W.region tab_ok 0 (by decide) (exec_run (by simp only [exa, beq_self_eq_true, ByteArray.size, Nat.reduceAdd, Nat.reduceLeDiff, Nat.reduceEqDiff, Nat.reduceMul, Int.reduceToNat, reduceIte, Int.reduceLE, Int.reduceNeg, h1, h2, h3]; rfl)) ?_)
        refine W.cond rfl (fun h => by simp at h) (fun _ => ?_)
        repeat (first | refine W.seq ?_ | refine W.block ?_ | refine W.skip ?_ | refine W.exit ?_ | refine W.region tab_ok 0 (by decide) (exec_run (by simp only [exa, beq_self_eq_true, ByteArray.size, Nat.reduceAdd, Nat.reduceLeDiff, Nat.reduceEqDiff, Nat.reduceMul, Int.reduceToNat, reduceIte, Int.reduceLE, Int.reduceNeg]; rfl)) ?_)
        cases B1
        · refine id ?_
          refine W.regionK tab_ok 0 (by decide) ?_
          refine runk_split 5 (by simp only [exa, beq_self_eq_true, ByteArray.size, Nat.reduceAdd, Nat.reduceLeDiff, Nat.reduceEqDiff, Nat.reduceMul, Int.reduceToNat, reduceIte, Int.reduceLE, Int.reduceNeg, cProg]; rfl) ?_
          refine runk_call rfl rfl rfl rfl rfl (by simp) (cvs_cons cv_refl (cvs_cons cv_refl (cvs_cons cv_refl cvs_nil))) (hab _) ?_
          refine runk_exec (by simp only [exa, beq_self_eq_true, ByteArray.size, Nat.reduceAdd, Nat.reduceLeDiff, Nat.reduceEqDiff, Nat.reduceMul, Int.reduceToNat, reduceIte, Int.reduceLE, Int.reduceNeg]; rfl) ?_
          refine W.ret ⟨.inr rfl, by rfl, ?_⟩
          simp only [Try.f4, resA, resOne, toT, fin, exa, beq_self_eq_true, ByteArray.size, Nat.reduceAdd, Nat.reduceLeDiff, Nat.reduceEqDiff, Nat.reduceMul, Int.reduceToNat, reduceIte, Int.reduceLE, Int.reduceNeg]
        · refine id ?_
          cases B3
          · refine id ?_
            refine W.regionK tab_ok 0 (by decide) ?_
            refine runk_split 5 (by simp only [exa, beq_self_eq_true, ByteArray.size, Nat.reduceAdd, Nat.reduceLeDiff, Nat.reduceEqDiff, Nat.reduceMul, Int.reduceToNat, reduceIte, Int.reduceLE, Int.reduceNeg, cProg]; rfl) ?_
            refine runk_call rfl rfl rfl rfl rfl (by simp) (cvs_cons cv_refl (cvs_cons cv_refl (cvs_cons cv_refl cvs_nil))) (hab _) ?_
            refine runk_split 5 (by simp only [exa, beq_self_eq_true, ByteArray.size, Nat.reduceAdd, Nat.reduceLeDiff, Nat.reduceEqDiff, Nat.reduceMul, Int.reduceToNat, reduceIte, Int.reduceLE, Int.reduceNeg, cProg]; rfl) ?_
            refine runk_call rfl rfl rfl rfl rfl (by simp) (cvs_cons cv_refl (cvs_cons cv_refl (cvs_cons cv_refl cvs_nil))) (hbc _) ?_
            refine runk_exec (by simp only [exa, beq_self_eq_true, ByteArray.size, Nat.reduceAdd, Nat.reduceLeDiff, Nat.reduceEqDiff, Nat.reduceMul, Int.reduceToNat, reduceIte, Int.reduceLE, Int.reduceNeg]; rfl) ?_
            refine W.ret ⟨.inr rfl, by rfl, ?_⟩
            simp only [Try.f4, resA, resOne, toT, fin, exa, beq_self_eq_true, ByteArray.size, Nat.reduceAdd, Nat.reduceLeDiff, Nat.reduceEqDiff, Nat.reduceMul, Int.reduceToNat, reduceIte, Int.reduceLE, Int.reduceNeg]
          · obtain rfl : B4 = true := hT rfl rfl
            refine W.regionK tab_ok 0 (by decide) ?_
            refine runk_split 5 (by simp only [exa, beq_self_eq_true, ByteArray.size, Nat.reduceAdd, Nat.reduceLeDiff, Nat.reduceEqDiff, Nat.reduceMul, Int.reduceToNat, reduceIte, Int.reduceLE, Int.reduceNeg, cProg]; rfl) ?_
            refine runk_call rfl rfl rfl rfl rfl (by simp) (cvs_cons cv_refl (cvs_cons cv_refl (cvs_cons cv_refl cvs_nil))) (hab _) ?_
            refine runk_split 5 (by simp only [exa, beq_self_eq_true, ByteArray.size, Nat.reduceAdd, Nat.reduceLeDiff, Nat.reduceEqDiff, Nat.reduceMul, Int.reduceToNat, reduceIte, Int.reduceLE, Int.reduceNeg, cProg]; rfl) ?_
            refine runk_call rfl rfl rfl rfl rfl (by simp) (cvs_cons cv_refl (cvs_cons cv_refl (cvs_cons cv_refl cvs_nil))) (hbc _) ?_
            refine runk_split 6 (by simp only [exa, beq_self_eq_true, ByteArray.size, Nat.reduceAdd, Nat.reduceLeDiff, Nat.reduceEqDiff, Nat.reduceMul, Int.reduceToNat, reduceIte, Int.reduceLE, Int.reduceNeg, cProg]; rfl) ?_
            refine runk_call rfl rfl rfl rfl rfl (by simp) (cvs_cons cv_refl (cvs_cons cv_refl (cvs_cons cv_refl cvs_nil))) (hac _) ?_
            refine runk_exec (by simp only [exa, beq_self_eq_true, ByteArray.size, Nat.reduceAdd, Nat.reduceLeDiff, Nat.reduceEqDiff, Nat.reduceMul, Int.reduceToNat, reduceIte, Int.reduceLE, Int.reduceNeg]; rfl) ?_
            refine W.ret ⟨.inr rfl, by rfl, ?_⟩
            simp only [Try.f4, resA, resOne, toT, fin, exa, beq_self_eq_true, ByteArray.size, Nat.reduceAdd, Nat.reduceLeDiff, Nat.reduceEqDiff, Nat.reduceMul, Int.reduceToNat, reduceIte, Int.reduceLE, Int.reduceNeg]
      | false =>
        cases B1 with
        | false =>
          repeat (first | refine W.seq ?_ | refine W.block ?_ | refine W.skip ?_ | refine W.exit ?_ | refine W.region tab_ok 0 (by decide) (exec_run (by simp only [exa, beq_self_eq_true, ByteArray.size, Nat.reduceAdd, Nat.reduceLeDiff, Nat.reduceEqDiff, Nat.reduceMul, Int.reduceToNat, reduceIte, Int.reduceLE, Int.reduceNeg]; rfl)) ?_)
          refine W.regionK tab_ok 0 (by decide) ?_
          refine runk_split 15 (by simp only [exa, beq_self_eq_true, ByteArray.size, Nat.reduceAdd, Nat.reduceLeDiff, Nat.reduceEqDiff, Nat.reduceMul, Int.reduceToNat, reduceIte, Int.reduceLE, Int.reduceNeg, cProg, h1, h2, h3]; rfl) ?_
          refine runk_call rfl rfl rfl rfl rfl (by simp) (cvs_cons cv_refl (cvs_cons cv_refl (cvs_cons cv_refl cvs_nil))) (hab _) ?_
          refine runk_exec (by simp only [exa, beq_self_eq_true, ByteArray.size, Nat.reduceAdd, Nat.reduceLeDiff, Nat.reduceEqDiff, Nat.reduceMul, Int.reduceToNat, reduceIte, Int.reduceLE, Int.reduceNeg]; rfl) ?_
          refine W.cond rfl (fun h => by simp at h) (fun _ => ?_)
          repeat (first | refine W.seq ?_ | refine W.block ?_ | refine W.skip ?_ | refine W.exit ?_ | refine W.region tab_ok 0 (by decide) (exec_run (by simp only [exa, beq_self_eq_true, ByteArray.size, Nat.reduceAdd, Nat.reduceLeDiff, Nat.reduceEqDiff, Nat.reduceMul, Int.reduceToNat, reduceIte, Int.reduceLE, Int.reduceNeg]; rfl)) ?_)
          refine W.regionK tab_ok 0 (by decide) ?_
          refine runk_split 5 (by simp only [exa, beq_self_eq_true, ByteArray.size, Nat.reduceAdd, Nat.reduceLeDiff, Nat.reduceEqDiff, Nat.reduceMul, Int.reduceToNat, reduceIte, Int.reduceLE, Int.reduceNeg, cProg]; rfl) ?_
          refine runk_call rfl rfl rfl rfl rfl (by simp) (cvs_cons cv_refl (cvs_cons cv_refl (cvs_cons cv_refl cvs_nil))) (hab _) ?_
          refine runk_exec (by simp only [exa, beq_self_eq_true, ByteArray.size, Nat.reduceAdd, Nat.reduceLeDiff, Nat.reduceEqDiff, Nat.reduceMul, Int.reduceToNat, reduceIte, Int.reduceLE, Int.reduceNeg]; rfl) ?_
          refine W.ret ⟨.inr rfl, by rfl, ?_⟩
          simp only [Try.f4, resA, resOne, toT, fin, exa, beq_self_eq_true, ByteArray.size, Nat.reduceAdd, Nat.reduceLeDiff, Nat.reduceEqDiff, Nat.reduceMul, Int.reduceToNat, reduceIte, Int.reduceLE, Int.reduceNeg]
        | true =>
          obtain rfl : B2 = false := by
            cases B2 with
            | false => rfl
            | true => exact (hA h1 h2 h3 rfl rfl).elim
          repeat (first | refine W.seq ?_ | refine W.block ?_ | refine W.skip ?_ | refine W.exit ?_ | refine W.region tab_ok 0 (by decide) (exec_run (by simp only [exa, beq_self_eq_true, ByteArray.size, Nat.reduceAdd, Nat.reduceLeDiff, Nat.reduceEqDiff, Nat.reduceMul, Int.reduceToNat, reduceIte, Int.reduceLE, Int.reduceNeg]; rfl)) ?_)
          refine W.regionK tab_ok 0 (by decide) ?_
          refine runk_split 15 (by simp only [exa, beq_self_eq_true, ByteArray.size, Nat.reduceAdd, Nat.reduceLeDiff, Nat.reduceEqDiff, Nat.reduceMul, Int.reduceToNat, reduceIte, Int.reduceLE, Int.reduceNeg, cProg, h1, h2, h3]; rfl) ?_
          refine runk_call rfl rfl rfl rfl rfl (by simp) (cvs_cons cv_refl (cvs_cons cv_refl (cvs_cons cv_refl cvs_nil))) (hab _) ?_
          refine runk_split 5 (by simp only [exa, beq_self_eq_true, ByteArray.size, Nat.reduceAdd, Nat.reduceLeDiff, Nat.reduceEqDiff, Nat.reduceMul, Int.reduceToNat, reduceIte, Int.reduceLE, Int.reduceNeg, cProg]; rfl) ?_
          refine runk_call rfl rfl rfl rfl rfl (by simp) (cvs_cons cv_refl (cvs_cons cv_refl (cvs_cons cv_refl cvs_nil))) (hba _) ?_
          refine runk_exec (by simp only [exa, beq_self_eq_true, ByteArray.size, Nat.reduceAdd, Nat.reduceLeDiff, Nat.reduceEqDiff, Nat.reduceMul, Int.reduceToNat, reduceIte, Int.reduceLE, Int.reduceNeg]; rfl) ?_
          refine W.cond rfl (fun h => by simp at h) (fun _ => ?_)
          repeat (first | refine W.seq ?_ | refine W.block ?_ | refine W.skip ?_ | refine W.exit ?_ | refine W.region tab_ok 0 (by decide) (exec_run (by simp only [exa, beq_self_eq_true, ByteArray.size, Nat.reduceAdd, Nat.reduceLeDiff, Nat.reduceEqDiff, Nat.reduceMul, Int.reduceToNat, reduceIte, Int.reduceLE, Int.reduceNeg]; rfl)) ?_)
          cases B3
          · refine id ?_
            refine W.regionK tab_ok 0 (by decide) ?_
            refine runk_split 5 (by simp only [exa, beq_self_eq_true, ByteArray.size, Nat.reduceAdd, Nat.reduceLeDiff, Nat.reduceEqDiff, Nat.reduceMul, Int.reduceToNat, reduceIte, Int.reduceLE, Int.reduceNeg, cProg]; rfl) ?_
            refine runk_call rfl rfl rfl rfl rfl (by simp) (cvs_cons cv_refl (cvs_cons cv_refl (cvs_cons cv_refl cvs_nil))) (hab _) ?_
            refine runk_split 5 (by simp only [exa, beq_self_eq_true, ByteArray.size, Nat.reduceAdd, Nat.reduceLeDiff, Nat.reduceEqDiff, Nat.reduceMul, Int.reduceToNat, reduceIte, Int.reduceLE, Int.reduceNeg, cProg]; rfl) ?_
            refine runk_call rfl rfl rfl rfl rfl (by simp) (cvs_cons cv_refl (cvs_cons cv_refl (cvs_cons cv_refl cvs_nil))) (hbc _) ?_
            refine runk_exec (by simp only [exa, beq_self_eq_true, ByteArray.size, Nat.reduceAdd, Nat.reduceLeDiff, Nat.reduceEqDiff, Nat.reduceMul, Int.reduceToNat, reduceIte, Int.reduceLE, Int.reduceNeg]; rfl) ?_
            refine W.ret ⟨.inr rfl, by rfl, ?_⟩
            simp only [Try.f4, resA, resOne, toT, fin, exa, beq_self_eq_true, ByteArray.size, Nat.reduceAdd, Nat.reduceLeDiff, Nat.reduceEqDiff, Nat.reduceMul, Int.reduceToNat, reduceIte, Int.reduceLE, Int.reduceNeg]
          · obtain rfl : B4 = true := hT rfl rfl
            refine W.regionK tab_ok 0 (by decide) ?_
            refine runk_split 5 (by simp only [exa, beq_self_eq_true, ByteArray.size, Nat.reduceAdd, Nat.reduceLeDiff, Nat.reduceEqDiff, Nat.reduceMul, Int.reduceToNat, reduceIte, Int.reduceLE, Int.reduceNeg, cProg]; rfl) ?_
            refine runk_call rfl rfl rfl rfl rfl (by simp) (cvs_cons cv_refl (cvs_cons cv_refl (cvs_cons cv_refl cvs_nil))) (hab _) ?_
            refine runk_split 5 (by simp only [exa, beq_self_eq_true, ByteArray.size, Nat.reduceAdd, Nat.reduceLeDiff, Nat.reduceEqDiff, Nat.reduceMul, Int.reduceToNat, reduceIte, Int.reduceLE, Int.reduceNeg, cProg]; rfl) ?_
            refine runk_call rfl rfl rfl rfl rfl (by simp) (cvs_cons cv_refl (cvs_cons cv_refl (cvs_cons cv_refl cvs_nil))) (hbc _) ?_
            refine runk_split 6 (by simp only [exa, beq_self_eq_true, ByteArray.size, Nat.reduceAdd, Nat.reduceLeDiff, Nat.reduceEqDiff, Nat.reduceMul, Int.reduceToNat, reduceIte, Int.reduceLE, Int.reduceNeg, cProg]; rfl) ?_
            refine runk_call rfl rfl rfl rfl rfl (by simp) (cvs_cons cv_refl (cvs_cons cv_refl (cvs_cons cv_refl cvs_nil))) (hac _) ?_
            refine runk_exec (by simp only [exa, beq_self_eq_true, ByteArray.size, Nat.reduceAdd, Nat.reduceLeDiff, Nat.reduceEqDiff, Nat.reduceMul, Int.reduceToNat, reduceIte, Int.reduceLE, Int.reduceNeg]; rfl) ?_
            refine W.ret ⟨.inr rfl, by rfl, ?_⟩
            simp only [Try.f4, resA, resOne, toT, fin, exa, beq_self_eq_true, ByteArray.size, Nat.reduceAdd, Nat.reduceLeDiff, Nat.reduceEqDiff, Nat.reduceMul, Int.reduceToNat, reduceIte, Int.reduceLE, Int.reduceNeg]
end V
end Go.Proofs.Ythhpcjoaogmhbaa
end
section
set_option linter.unusedVariables false
set_option linter.unusedSimpArgs false
namespace Go.Proofs.Ythhpcjoaogmhbaa
open Go.ChangeShapes Go.WideShapes Go.ChangeAt Go.RowKit
open Go.ChangeMaps (open_string shut_string)
open V
theorem checkFits_met (os : Os) : laidMet Try.prog Rows.checkFitsUptoRow.laid ((World.holding Try.prog os ⟨#[], #[], []⟩).forCall (fun _ _ => 0) ⟨#[], #[.agg #[.slice none 0 0, .slice none 0 0], .string ⟨#[]⟩, .string ⟨#[]⟩], []⟩).memory :=
  laidMet_of_run' 8 (by kernel_rfl) (by kernel_rfl)
theorem checkFits_reads (os : Os) {H : Type} (enc : TypeId × Value → H) : ∃ places, DataW.whole enc Try.prog ((World.holding Try.prog os ⟨#[], #[], []⟩).forCall (fun _ _ => 0) ⟨#[], #[.agg #[.slice none 0 0, .slice none 0 0], .string ⟨#[]⟩, .string ⟨#[]⟩], []⟩).memory Try.f3.params.toList Rows.checkFitsSpec.vars false (#[.agg #[.slice none 0 0, .slice none 0 0], .string ⟨#[]⟩, .string ⟨#[]⟩] : Array Value).toList 8 = some ([.agg [.nil, .nil], .lit (.string []), .lit (.string [])], [], places) :=
  ⟨[], by kernel_rfl⟩
set_option maxRecDepth 100000 in
set_option maxHeartbeats 2000000 in
theorem checkFits_lifted (os : Os) (started : os.Started) (H : Type) (enc : TypeId × Value → H) (F : Stop.Interp) :
    ReturnsInHanded {} Try.checked os 3 .any ((Rows.OpenSpec.upto Rows.checkFitsSpec).preRow enc Try.prog Try.f3 Rows.checkFitsUptoRow.domain false Rows.checkFitsUptoRow.laid) (((Rows.OpenSpec.upto Rows.checkFitsSpec).at F).post enc Try.prog Try.f3 false true false false) := by
  obtain ⟨places, hx⟩ := checkFits_reads os enc
  refine returnsInHanded_of_row (C := Try.checked) (s := Rows.OpenSpec.upto Rows.checkFitsSpec) own started (by kernel_rfl) Try.func3
    (witness_row_at (enc := enc) (C := Try.checked) false (World.holding Try.prog os ⟨#[], #[], []⟩) #[.agg #[.slice none 0 0, .slice none 0 0], .string ⟨#[]⟩, .string ⟨#[]⟩] rfl (by kernel_rfl) (by kernel_rfl) (by kernel_rfl)
      (OpenSpec.preRow_of_cond 8 hx (by kernel_rfl) (fun k hk => by cases hk; rfl) (by kernel_rfl) (checkFits_met os))) ?_
  intro W base args ds gs before hval0 hW _ hcond hsz0 _ hsh _
  have hbulk : Rows.uptoBulkAll (ds ++ gs) ≤ 1048576 := of_decide_eq_true (hcond _ rfl)
  clear hcond
  have hval : ∀ (j : Nat) t v, Try.f3.params[j]? = some t → args[j]? = some v → Value.okWide Try.prog W .any base t v := hval0
  have hW' := hW
  obtain ⟨p, q, hA0, hV, rfl, hfz, hnd⟩ := hW
  have hA : DataW.TrodAll enc Try.prog W 0 (fun _ => true) true Try.f3.params.toList args.toList ds p := hA0
  have hsz : ∀ n ∈ DataW.weightsEach Try.prog (Try.f3.params.toList ++ Rows.checkFitsSpec.plain.varTypes Try.prog) (ds ++ gs), n ≤ reachBytes := fun n hn => of_decide_eq_true (List.all_eq_true.1 hsz0 n hn)
  rw [Try.params3] at hA hval hsz
  clear hsz0
  obtain ⟨v0, vs0, d0, ds0, p0, q0, hargs, rfl, rfl, h0, r0⟩ := trodAll_cons hA
  obtain ⟨v1, vs1, d1, ds1, p1, q1, rfl, rfl, rfl, h1, r1⟩ := trodAll_cons r0
  obtain ⟨v2, vs2, d2, ds2, p2, q2, rfl, rfl, rfl, h2, r2⟩ := trodAll_cons r1
  obtain ⟨rfl, rfl, rfl⟩ := trodAll_nil r2
  obtain rfl : args = #[v0, v1, v2] := by cases args; simp_all
  obtain ⟨rfl, rfl⟩ := trodVars_none hV
  clear hA0 hval0
  simp only [List.append_nil] at hW'
  have k0 := h0
  have lt0 : ∀ x ∈ p0, x.block < W.heap.size := by obtain ⟨m, hm⟩ := k0; exact DataW.trod_lt m _ _ _ hm
  have k1 := h1
  have lt1 : ∀ x ∈ p1, x.block < W.heap.size := by obtain ⟨m, hm⟩ := k1; exact DataW.trod_lt m _ _ _ hm
  have k2 := h2
  have lt2 : ∀ x ∈ p2, x.block < W.heap.size := by obtain ⟨m, hm⟩ := k2; exact DataW.trod_lt m _ _ _ hm
  have fit0 : Fits Try.prog 25 d0 := fun n hn => hsz n (DataW.weights_mem_each (j := 0) rfl rfl n hn)
  have hG : GlobOk W := cell_of_shapedOpen_int (zero := #[.int .i64 0]) (t := 3) hsh (of_decide_eq_true (by kernel_rfl)) (by kernel_rfl) rfl (by kernel_rfl) (by kernel_rfl) Try.underlying3
  obtain ⟨cs0, rfl, -⟩ := okWide_struct Try.underlying25 (hval 0 25 v0 rfl rfl)
  obtain ⟨e0, g0, w0⟩ := read_program fit0 h0 ⟨cs0, rfl⟩
  obtain ⟨n0, hn0⟩ := h0
  obtain ⟨hlen, hS⟩ := small_of (cs := cs0.toList) (N := 1048576) (x := (d0, p0)) (by simpa using w0) hn0 (Nat.le_trans (bulk_mem (by simp)) hbulk)
  have fit1 : Fits Try.prog 9 d1 := fun n hn => hsz n (DataW.weights_mem_each (j := 1) rfl rfl n hn)
  obtain ⟨m1, h11⟩ := h1
  obtain ⟨s1, es1, gs1, -⟩ := DataW.trod_string Try.underlying9 h11
  have ls1 : s1.size ≤ maxS := fit_string gs1 fit1
  obtain ⟨u1, rfl⟩ := okWide_string Try.underlying9 (hval 1 9 v1 rfl rfl)
  obtain rfl : u1 = s1 := by simpa [Value.cells] using es1
  have fit2 : Fits Try.prog 9 d2 := fun n hn => hsz n (DataW.weights_mem_each (j := 2) rfl rfl n hn)
  obtain ⟨m2, h22⟩ := h2
  obtain ⟨s2, es2, gs2, -⟩ := DataW.trod_string Try.underlying9 h22
  have ls2 : s2.size ≤ maxS := fit_string gs2 fit2
  obtain ⟨u2, rfl⟩ := okWide_string Try.underlying9 (hval 2 9 v2 rfl rfl)
  obtain rfl : u2 = s2 := by simpa [Value.cells] using es2
  refine (cok_true (vals := [_, _, _]) (lawFits_ok g0 u1 u2 hS hlen _) hG (fun B => ⟨rv_prog w0, rv_str ls1, rv_str ls2, trivial⟩)).mono fun e W' ⟨he, bel⟩ => ?_
  subst he
  exact ⟨_, rfl, _, _, _, [], _, [], hW', trodAll_mk1 (shut_bool Try.underlying4 _), trodAll_cons_mk (Below.trod laidOut (by kernel_rfl) (of_decide_eq_true (by kernel_rfl)) k0 bel lt0) (trodAll_cons_mk (Below.trod laidOut (by kernel_rfl) (of_decide_eq_true (by kernel_rfl)) k1 bel lt1) (trodAll_cons_mk (Below.trod laidOut (by kernel_rfl) (of_decide_eq_true (by kernel_rfl)) k2 bel lt2) trodAll_mk0)), rfl, bel.frame _, fun h => by cases h⟩
theorem checkFits_holds : Rows.CheckFitsUptoSaid :=
  OpenClaim.holds_of_cond 3 Try.f3 rfl rfl rfl rfl rfl rfl rfl ⟨rfl, rfl, rfl, rfl, rfl⟩ rfl rfl rfl rfl rfl (by kernel_rfl) Try.func3 (by kernel_rfl)
    (of_decide_eq_true (by kernel_rfl)) (by unfold Func.isWrapper; first | (rw [if_pos (by decide +kernel)]; kernel_rfl) | (rw [if_neg (by decide +kernel)]; exact ⟨rfl, rfl⟩))
    (fun os started H enc _ F => by rw [OpenClaim.pre_eq_preRow]; exact checkFits_lifted os started H enc F)
theorem checkOrder_met (os : Os) : laidMet Try.prog Rows.checkOrderUptoRow.laid ((World.holding Try.prog os ⟨#[], #[], []⟩).forCall (fun _ _ => 0) ⟨#[], #[.agg #[.slice none 0 0, .slice none 0 0], .string ⟨#[]⟩, .string ⟨#[]⟩, .string ⟨#[]⟩], []⟩).memory :=
  laidMet_of_run' 8 (by kernel_rfl) (by kernel_rfl)
theorem checkOrder_reads (os : Os) {H : Type} (enc : TypeId × Value → H) : ∃ places, DataW.whole enc Try.prog ((World.holding Try.prog os ⟨#[], #[], []⟩).forCall (fun _ _ => 0) ⟨#[], #[.agg #[.slice none 0 0, .slice none 0 0], .string ⟨#[]⟩, .string ⟨#[]⟩, .string ⟨#[]⟩], []⟩).memory Try.f4.params.toList Rows.checkOrderSpec.vars false (#[.agg #[.slice none 0 0, .slice none 0 0], .string ⟨#[]⟩, .string ⟨#[]⟩, .string ⟨#[]⟩] : Array Value).toList 8 = some ([.agg [.nil, .nil], .lit (.string []), .lit (.string []), .lit (.string [])], [], places) :=
  ⟨[], by kernel_rfl⟩
set_option maxRecDepth 100000 in
set_option maxHeartbeats 2000000 in
theorem checkOrder_lifted (os : Os) (started : os.Started) (H : Type) (enc : TypeId × Value → H) (F : Stop.Interp) :
    ReturnsInHanded {} Try.checked os 4 .any ((Rows.OpenSpec.upto Rows.checkOrderSpec).preRow enc Try.prog Try.f4 Rows.checkOrderUptoRow.domain false Rows.checkOrderUptoRow.laid) (((Rows.OpenSpec.upto Rows.checkOrderSpec).at F).post enc Try.prog Try.f4 false true false false) := by
  obtain ⟨places, hx⟩ := checkOrder_reads os enc
  refine returnsInHanded_of_row (C := Try.checked) (s := Rows.OpenSpec.upto Rows.checkOrderSpec) own started (by kernel_rfl) Try.func4
    (witness_row_at (enc := enc) (C := Try.checked) false (World.holding Try.prog os ⟨#[], #[], []⟩) #[.agg #[.slice none 0 0, .slice none 0 0], .string ⟨#[]⟩, .string ⟨#[]⟩, .string ⟨#[]⟩] rfl (by kernel_rfl) (by kernel_rfl) (by kernel_rfl)
      (OpenSpec.preRow_of_cond 8 hx (by kernel_rfl) (fun k hk => by cases hk; rfl) (by kernel_rfl) (checkOrder_met os))) ?_
  intro W base args ds gs before hval0 hW _ hcond hsz0 _ hsh _
  have hbulk : Rows.uptoBulkAll (ds ++ gs) ≤ 1048576 := of_decide_eq_true (hcond _ rfl)
  clear hcond
  have hval : ∀ (j : Nat) t v, Try.f4.params[j]? = some t → args[j]? = some v → Value.okWide Try.prog W .any base t v := hval0
  have hW' := hW
  obtain ⟨p, q, hA0, hV, rfl, hfz, hnd⟩ := hW
  have hA : DataW.TrodAll enc Try.prog W 0 (fun _ => true) true Try.f4.params.toList args.toList ds p := hA0
  have hsz : ∀ n ∈ DataW.weightsEach Try.prog (Try.f4.params.toList ++ Rows.checkOrderSpec.plain.varTypes Try.prog) (ds ++ gs), n ≤ reachBytes := fun n hn => of_decide_eq_true (List.all_eq_true.1 hsz0 n hn)
  rw [Try.params4] at hA hval hsz
  clear hsz0
  obtain ⟨v0, vs0, d0, ds0, p0, q0, hargs, rfl, rfl, h0, r0⟩ := trodAll_cons hA
  obtain ⟨v1, vs1, d1, ds1, p1, q1, rfl, rfl, rfl, h1, r1⟩ := trodAll_cons r0
  obtain ⟨v2, vs2, d2, ds2, p2, q2, rfl, rfl, rfl, h2, r2⟩ := trodAll_cons r1
  obtain ⟨v3, vs3, d3, ds3, p3, q3, rfl, rfl, rfl, h3, r3⟩ := trodAll_cons r2
  obtain ⟨rfl, rfl, rfl⟩ := trodAll_nil r3
  obtain rfl : args = #[v0, v1, v2, v3] := by cases args; simp_all
  obtain ⟨rfl, rfl⟩ := trodVars_none hV
  clear hA0 hval0
  simp only [List.append_nil] at hW'
  have k0 := h0
  have lt0 : ∀ x ∈ p0, x.block < W.heap.size := by obtain ⟨m, hm⟩ := k0; exact DataW.trod_lt m _ _ _ hm
  have k1 := h1
  have lt1 : ∀ x ∈ p1, x.block < W.heap.size := by obtain ⟨m, hm⟩ := k1; exact DataW.trod_lt m _ _ _ hm
  have k2 := h2
  have lt2 : ∀ x ∈ p2, x.block < W.heap.size := by obtain ⟨m, hm⟩ := k2; exact DataW.trod_lt m _ _ _ hm
  have k3 := h3
  have lt3 : ∀ x ∈ p3, x.block < W.heap.size := by obtain ⟨m, hm⟩ := k3; exact DataW.trod_lt m _ _ _ hm
  have fit0 : Fits Try.prog 25 d0 := fun n hn => hsz n (DataW.weights_mem_each (j := 0) rfl rfl n hn)
  have hG : GlobOk W := cell_of_shapedOpen_int (zero := #[.int .i64 0]) (t := 3) hsh (of_decide_eq_true (by kernel_rfl)) (by kernel_rfl) rfl (by kernel_rfl) (by kernel_rfl) Try.underlying3
  obtain ⟨cs0, rfl, -⟩ := okWide_struct Try.underlying25 (hval 0 25 v0 rfl rfl)
  obtain ⟨e0, g0, w0⟩ := read_program fit0 h0 ⟨cs0, rfl⟩
  obtain ⟨n0, hn0⟩ := h0
  obtain ⟨hlen, hS⟩ := small_of (cs := cs0.toList) (N := 1048576) (x := (d0, p0)) (by simpa using w0) hn0 (Nat.le_trans (bulk_mem (by simp)) hbulk)
  have fit1 : Fits Try.prog 9 d1 := fun n hn => hsz n (DataW.weights_mem_each (j := 1) rfl rfl n hn)
  obtain ⟨m1, h11⟩ := h1
  obtain ⟨s1, es1, gs1, -⟩ := DataW.trod_string Try.underlying9 h11
  have ls1 : s1.size ≤ maxS := fit_string gs1 fit1
  obtain ⟨u1, rfl⟩ := okWide_string Try.underlying9 (hval 1 9 v1 rfl rfl)
  obtain rfl : u1 = s1 := by simpa [Value.cells] using es1
  have fit2 : Fits Try.prog 9 d2 := fun n hn => hsz n (DataW.weights_mem_each (j := 2) rfl rfl n hn)
  obtain ⟨m2, h22⟩ := h2
  obtain ⟨s2, es2, gs2, -⟩ := DataW.trod_string Try.underlying9 h22
  have ls2 : s2.size ≤ maxS := fit_string gs2 fit2
  obtain ⟨u2, rfl⟩ := okWide_string Try.underlying9 (hval 2 9 v2 rfl rfl)
  obtain rfl : u2 = s2 := by simpa [Value.cells] using es2
  have fit3 : Fits Try.prog 9 d3 := fun n hn => hsz n (DataW.weights_mem_each (j := 3) rfl rfl n hn)
  obtain ⟨m3, h33⟩ := h3
  obtain ⟨s3, es3, gs3, -⟩ := DataW.trod_string Try.underlying9 h33
  have ls3 : s3.size ≤ maxS := fit_string gs3 fit3
  obtain ⟨u3, rfl⟩ := okWide_string Try.underlying9 (hval 3 9 v3 rfl rfl)
  obtain rfl : u3 = s3 := by simpa [Value.cells] using es3
  refine (cok_true (vals := [_, _, _, _]) (lawFitOrder_ok g0 u1 u2 u3 hS hlen _) hG (fun B => ⟨rv_prog w0, rv_str ls1, rv_str ls2, rv_str ls3, trivial⟩)).mono fun e W' ⟨he, bel⟩ => ?_
  subst he
  exact ⟨_, rfl, _, _, _, [], _, [], hW', trodAll_mk1 (shut_bool Try.underlying4 _), trodAll_cons_mk (Below.trod laidOut (by kernel_rfl) (of_decide_eq_true (by kernel_rfl)) k0 bel lt0) (trodAll_cons_mk (Below.trod laidOut (by kernel_rfl) (of_decide_eq_true (by kernel_rfl)) k1 bel lt1) (trodAll_cons_mk (Below.trod laidOut (by kernel_rfl) (of_decide_eq_true (by kernel_rfl)) k2 bel lt2) (trodAll_cons_mk (Below.trod laidOut (by kernel_rfl) (of_decide_eq_true (by kernel_rfl)) k3 bel lt3) trodAll_mk0))), rfl, bel.frame _, fun h => by cases h⟩
theorem checkOrder_holds : Rows.CheckOrderUptoSaid :=
  OpenClaim.holds_of_cond 4 Try.f4 rfl rfl rfl rfl rfl rfl rfl ⟨rfl, rfl, rfl, rfl, rfl⟩ rfl rfl rfl rfl rfl (by kernel_rfl) Try.func4 (by kernel_rfl)
    (of_decide_eq_true (by kernel_rfl)) (by unfold Func.isWrapper; first | (rw [if_pos (by decide +kernel)]; kernel_rfl) | (rw [if_neg (by decide +kernel)]; exact ⟨rfl, rfl⟩))
    (fun os started H enc _ F => by rw [OpenClaim.pre_eq_preRow]; exact checkOrder_lifted os started H enc F)
end Go.Proofs.Ythhpcjoaogmhbaa
end
