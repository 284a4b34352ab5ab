/- Joined by my own program, in build order: Heads, Rc. -/
import Derived.Test.YtnmfbaahabcocaaDoorY40
import Derived.Test.YtnmfbaahabcocaaDoorY5
set_option linter.unusedVariables false
set_option linter.unusedSimpArgs false
section
namespace Go.Proofs.YtnmfbaahabcocaaDoor
namespace V
open Go.RowKit G
def cEd (e : Nat × Nat) : List C := [.int .i64 (e.1 : Int), .int .i64 (e.2 : Int)]
def zN (l : List Nat) : List Int := l.map fun i : Nat => (i : Int)
theorem cI_zN (l : List Nat) : (zN l).map cI = l.map cN := by simp [zN, cI, cN, Function.comp_def]
def adjL (E : List (Nat × Nat)) (i : Nat) : List (List C) := (zN (outs E i)).map cI
theorem adjL_next {E : List (Nat × Nat)} {k f t : Nat} (h : E[k]? = some (f, t)) (i : Nat) : adjL (E.take (k + 1)) i = if i = f then adjL (E.take k) i ++ [cN t] else adjL (E.take k) i := by
 unfold adjL zN
 rw [List.take_add_one, h, Option.toList_some, outs_snoc]
 split <;> simp [cI, cN]
theorem adjL_len (E : List (Nat × Nat)) (k i : Nat) : (adjL (E.take k) i).length ≤ E.length := by
 have := outs_len (E.take k) i; have := List.length_take_le' k E; simp only [adjL, zN, List.length_map]; omega
def sortL (E : List (Nat × Nat)) (i : Nat) : List Int := (zN (outs E i)).mergeSort leI
def tabC (E : List (Nat × Nat)) (n : Nat) : List (List C) := (List.range n).map fun i => [.sl ((sortL E i).map cI)]
theorem tabC_at {E : List (Nat × Nat)} {n i : Nat} (h : i < n) : (tabC E n)[i]? = some [.sl ((sortL E i).map cI)] := by simp [tabC, h]
theorem tabC_len (E : List (Nat × Nat)) (n : Nat) : (tabC E n).length = n := by simp [tabC]
set_option maxHeartbeats 4000000 in
theorem heads_ok (n : Nat) (hn : n ≤ 100000) (E : List (Nat × Nat)) (hlen : E.length ≤ 1000000) (hE : ∀ e ∈ E, e.1 < n ∧ e.2 < n) (m : Mem) :
  COk Tryd.prog 46 [.c (.int .i64 n), .c (.sl (E.map cEd))] m (.c (.sl (tabC E n))) := by
 have hm1 : n * 24 ≤ 140737488355328 := by omega
 have hm2 : (n : Int) ≤ 9223372036854775807 := by omega
 have hn0 : (0 : Int) ≤ (n : Int) := by omega
 refine (ok_pure tab_ok Tryd.func46 (by kernel_rfl) rfl rfl (by rfl) (by rfl) (by rfl) (fun R hkeep => ?_) m)
 repeat (first | refine W.seq ?_ | refine W.block ?_ | refine W.skip ?_ | refine W.exit ?_ | refine W.region tab_ok 0 (by decide) (exec_run (by simp only [exa, beq_self_eq_true, ByteArray.size, Nat.reduceAdd, Nat.reduceLeDiff, Nat.reduceEqDiff, Nat.reduceMul, Int.reduceToNat, reduceIte, Int.reduceLE, Int.reduceNeg, Int.toNat_natCast, hm1, hm2, hn0, and_self]; rfl)) ?_)
 refine W.famStart false 11 1000 n 26 3 1 rfl (by decide) (fun i _ => ?_) ?_
 ·simp only [upd_app, mem_nil_app, Nat.reduceEqDiff, reduceIte]
 refine W.loop (ι := Nat) (fun k => ⟨upd (upd (upd (upd (upd (fun _ => .top) 0 (.c (.int .i64 n))) 5 (.own 11)) 12 (.c (.sl (E.map cEd)))) 13 (.c (.int .i64 E.length))) 14 (.c (.int .i64 k)),
  upd (famM 1000 n (fun i => rowO false 3 1 (adjL (E.take k) i)) Mem.nil) 11 (some (.rows 26 (tabR 1000 n)))⟩) (fun k => k ≤ E.length) (fun k => E.length - k) 0 ?start (Nat.zero_le _) ?round
 case start =>
  refine le_mk ?sle ?_ ?swf ?mwf (kept_not hkeep) (by rfl)
  case swf => repeat (first | exact swf_top _ | refine swf_upd ?_ (by simp [A.ids, upd_app]))
  case sle => repeat (first | exact sle_top _ | exact sle_refl _ | refine sle_upd ?_ (by first | rfl | (simp only [upd_app, killS_app, A.kill, entry_zero, entry_succ, Nat.reduceEqDiff, reduceIte]; done)))
  case mwf =>
   refine mwf_upd (mwf_fam (mwf_nil _) (fun i hi => by first | exact rowO_ids | rfl)) (fun j hj => ?_)
   obtain ⟨q, hq, rfl⟩ := tabR_ids.1 hj
   simp only [upd_app, Nat.reduceEqDiff, reduceIte, fam_at hq, Option.isSome_some]
  refine mle_upd (mle_fam fun i hi => ?_) (by simp only [exa, beq_self_eq_true, ByteArray.size, Nat.reduceAdd, Nat.reduceLeDiff, Nat.reduceEqDiff, Nat.reduceMul, Int.reduceToNat, reduceIte, Int.reduceLE, Int.reduceNeg]; done)
  simp only [exa, beq_self_eq_true, ByteArray.size, Nat.reduceAdd, Nat.reduceLeDiff, Nat.reduceEqDiff, Nat.reduceMul, Int.reduceToNat, reduceIte, Int.reduceLE, Int.reduceNeg, fam_at hi, adjL]
  rfl
 case round =>
  intro k hk
  repeat (first | refine W.seq ?_ | refine W.block ?_ | refine W.skip ?_ | refine W.exit ?_ | refine W.region tab_ok 0 (by decide) (exec_run (by simp only [exa, beq_self_eq_true, ByteArray.size, Nat.reduceAdd, Nat.reduceLeDiff, Nat.reduceEqDiff, Nat.reduceMul, Int.reduceToNat, reduceIte, Int.reduceLE, Int.reduceNeg]; rfl)) ?_)
  refine W.cond rfl ?_ ?_
  ·intro hlt
   simp only [decide_eq_true_eq, Int.ofNat_lt] at hlt
   obtain ⟨⟨f, t⟩, hx⟩ : ∃ x, E[k]? = some x := ⟨_, List.getElem?_eq_getElem hlt⟩
   obtain ⟨hf, ht⟩ := hE _ (List.mem_of_getElem? hx)
   replace hf : f < n := hf
   replace ht : t < n := ht
   have hf0 : (0 : Int) ≤ (f : Int) := by omega
   repeat (first | refine W.seq ?_ | refine W.block ?_ | refine W.skip ?_ | refine W.exit ?_ | refine W.region tab_ok 0 (by decide) (exec_run (by simp only [exa, beq_self_eq_true, ByteArray.size, Nat.reduceAdd, Nat.reduceLeDiff, Nat.reduceEqDiff, Nat.reduceMul, Int.reduceToNat, reduceIte, Int.reduceLE, Int.reduceNeg, at_map hx, cEd]; rfl)) ?_)
   refine W.regionPC tab_ok 0 follows_mixed (by decide) ⟨upd (upd (upd (upd (upd (fun _ => .top) 0 (.c (.int .i64 n))) 5 (.own 11)) 12 (.c (.sl (E.map cEd)))) 13 (.c (.int .i64 E.length))) 14 (.c (.int .i64 k)),
    upd (famM 1000 n (fun i => rowO false 3 1 (adjL (E.take (k + 1)) i)) Mem.nil) 11 (some (.rows 26 (tabR 1000 n)))⟩ ?_ ?_
   ·refine first_exec 3 (by decide +kernel) ⟨_, by simp only [exec1, exa, beq_self_eq_true, ByteArray.size, Nat.reduceAdd, Nat.reduceLeDiff, Nat.reduceEqDiff, Nat.reduceMul, Int.reduceToNat, reduceIte, Int.reduceLE, Int.reduceNeg, hf0, hf, Int.toNat_natCast, tabR_len, and_self]; rfl, ?_⟩
    refine first_exec 4 (by decide +kernel) ⟨_, by simp only [exec1, exa, beq_self_eq_true, ByteArray.size, Nat.reduceAdd, Nat.reduceLeDiff, Nat.reduceEqDiff, Nat.reduceMul, Int.reduceToNat, reduceIte, Int.reduceLE, Int.reduceNeg, hf0, hf, Int.toNat_natCast, tabR_len, and_self]; rfl, ?_⟩
    refine first_exec 5 (by decide +kernel) ⟨_, by simp only [exec1, exa, beq_self_eq_true, ByteArray.size, Nat.reduceAdd, Nat.reduceLeDiff, Nat.reduceEqDiff, Nat.reduceMul, Int.reduceToNat, reduceIte, Int.reduceLE, Int.reduceNeg, hf0, hf, Int.toNat_natCast, tabR_len, and_self]; rfl, ?_⟩
    refine first_exec 6 (by decide +kernel) ⟨_, by simp only [exec1, exa, beq_self_eq_true, ByteArray.size, Nat.reduceAdd, Nat.reduceLeDiff, Nat.reduceEqDiff, Nat.reduceMul, Int.reduceToNat, reduceIte, Int.reduceLE, Int.reduceNeg, hf0, hf, Int.toNat_natCast, tabR_len, and_self]; rfl, ?_⟩
    refine first_exec 7 (by decide +kernel) ⟨_, by simp only [exec1, exa, beq_self_eq_true, ByteArray.size, Nat.reduceAdd, Nat.reduceLeDiff, Nat.reduceEqDiff, Nat.reduceMul, Int.reduceToNat, reduceIte, Int.reduceLE, Int.reduceNeg, hf0, hf, Int.toNat_natCast, tabR_len, and_self, tabR_at hf]; rfl, ?_⟩
    refine first_exec 8 (by decide +kernel) ⟨_, by simp only [exec1, exa, beq_self_eq_true, ByteArray.size, Nat.reduceAdd, Nat.reduceLeDiff, Nat.reduceEqDiff, Nat.reduceMul, Int.reduceToNat, reduceIte, Int.reduceLE, Int.reduceNeg, hf0, hf, Int.toNat_natCast, tabR_len, and_self]; rfl, ?_⟩
    refine first_exec 9 (by decide +kernel) ⟨_, by simp only [exec1, exa, beq_self_eq_true, ByteArray.size, Nat.reduceAdd, Nat.reduceLeDiff, Nat.reduceEqDiff, Nat.reduceMul, Int.reduceToNat, reduceIte, Int.reduceLE, Int.reduceNeg, hf0, hf, Int.toNat_natCast, tabR_len, and_self]; rfl, ?_⟩
    refine first_exec 10 (by decide +kernel) ⟨_, by simp only [exec1, exa, beq_self_eq_true, ByteArray.size, Nat.reduceAdd, Nat.reduceLeDiff, Nat.reduceEqDiff, Nat.reduceMul, Int.reduceToNat, reduceIte, Int.reduceLE, Int.reduceNeg, hf0, hf, Int.toNat_natCast, tabR_len, and_self]; rfl, ?_⟩
    repeat' (first
     | exact trivial
     | refine runsw_end (by decide +kernel) ?_
     | refine first_exec 12 (by decide +kernel) ⟨_, by simp only [exec1, exa, beq_self_eq_true, ByteArray.size, Nat.reduceAdd, Nat.reduceLeDiff, Nat.reduceEqDiff, Nat.reduceMul, Int.reduceToNat, reduceIte, Int.reduceLE, Int.reduceNeg, stO, hf0, hf, Int.toNat_natCast, tabR_len, and_self, tabR_at hf, fam_at hf, List.length_map, tabR_set hf, Option.map_some, Option.map_none]; rfl, ?_⟩
     | refine first_exec 13 (by decide +kernel) ⟨_, by simp only [exec1, exa, beq_self_eq_true, ByteArray.size, Nat.reduceAdd, Nat.reduceLeDiff, Nat.reduceEqDiff, Nat.reduceMul, Int.reduceToNat, reduceIte, Int.reduceLE, Int.reduceNeg, stO, hf0, hf, Int.toNat_natCast, tabR_len, and_self, tabR_at hf, fam_at hf, List.length_map, tabR_set hf, Option.map_some, Option.map_none]; rfl, ?_⟩
     | refine first_exec 0 (by decide +kernel) ⟨_, by simp only [exec1, exa, beq_self_eq_true, ByteArray.size, Nat.reduceAdd, Nat.reduceLeDiff, Nat.reduceEqDiff, Nat.reduceMul, Int.reduceToNat, reduceIte, Int.reduceLE, Int.reduceNeg, stO, hf0, hf, Int.toNat_natCast, tabR_len, and_self, tabR_at hf, fam_at hf, List.length_map, tabR_set hf, Option.map_some, Option.map_none]; rfl, ?_⟩
     | refine first_exec 1 (by decide +kernel) ⟨_, by simp only [exec1, exa, beq_self_eq_true, ByteArray.size, Nat.reduceAdd, Nat.reduceLeDiff, Nat.reduceEqDiff, Nat.reduceMul, Int.reduceToNat, reduceIte, Int.reduceLE, Int.reduceNeg, stO, hf0, hf, Int.toNat_natCast, tabR_len, and_self, tabR_at hf, fam_at hf, List.length_map, tabR_set hf, Option.map_some, Option.map_none]; rfl, ?_⟩
     | refine first_exec 2 (by decide +kernel) ⟨_, by simp only [exec1, exa, beq_self_eq_true, ByteArray.size, Nat.reduceAdd, Nat.reduceLeDiff, Nat.reduceEqDiff, Nat.reduceMul, Int.reduceToNat, reduceIte, Int.reduceLE, Int.reduceNeg, stO, hf0, hf, Int.toNat_natCast, tabR_len, and_self, tabR_at hf, fam_at hf, List.length_map, tabR_set hf, Option.map_some, Option.map_none]; rfl, ?_⟩
     | refine runs_node [0, 1, 11] (by decide +kernel) (by decide) ?_
     | refine runs_node [1, 11] (by decide +kernel) (by decide) ?_
     | refine runs_node [0, 2, 11] (by decide +kernel) (by decide) ?_
     | refine runs_node [2, 11] (by decide +kernel) (by decide) ?_
     | refine runs_node [0, 11] (by decide +kernel) (by decide) ?_
     | refine runs_node [11] (by decide +kernel) (by decide) ?_
     | refine step_exec ⟨_, by simp only [exec1, exa, beq_self_eq_true, ByteArray.size, Nat.reduceAdd, Nat.reduceLeDiff, Nat.reduceEqDiff, Nat.reduceMul, Int.reduceToNat, reduceIte, Int.reduceLE, Int.reduceNeg, stO, hf0, hf, Int.toNat_natCast, tabR_len, and_self, tabR_at hf, fam_at hf, List.length_map, tabR_set hf, Option.map_some, Option.map_none]; rfl, ?_⟩ ?_
     | refine step_append tab_ok rfl (f + 1000) false rfl rfl rfl rfl rfl rfl (by simp only [exa, beq_self_eq_true, ByteArray.size, Nat.reduceAdd, Nat.reduceLeDiff, Nat.reduceEqDiff, Nat.reduceMul, Int.reduceToNat, reduceIte, Int.reduceLE, Int.reduceNeg, stO, hf0, hf, Int.toNat_natCast, tabR_len, and_self, tabR_at hf, fam_at hf, List.length_map, tabR_set hf, Option.map_some, Option.map_none]; done) (by simp only [exa, beq_self_eq_true, ByteArray.size, Nat.reduceAdd, Nat.reduceLeDiff, Nat.reduceEqDiff, Nat.reduceMul, Int.reduceToNat, reduceIte, Int.reduceLE, Int.reduceNeg, stO, hf0, hf, Int.toNat_natCast, tabR_len, and_self, tabR_at hf, fam_at hf, List.length_map, tabR_set hf, Option.map_some, Option.map_none]; rfl) (by simp only [exa, beq_self_eq_true, ByteArray.size, Nat.reduceAdd, Nat.reduceLeDiff, Nat.reduceEqDiff, Nat.reduceMul, Int.reduceToNat, reduceIte, Int.reduceLE, Int.reduceNeg, stO, hf0, hf, Int.toNat_natCast, tabR_len, and_self, tabR_at hf, fam_at hf, List.length_map, tabR_set hf, Option.map_some, Option.map_none]; rfl) rfl rfl rfl rfl (nokeep hkeep) (by simp) (by have := adjL_len E k f; simp only [List.length_cons, List.length_nil]; omega) (by decide) ?_ ?_)
    all_goals
     refine le_mk ?sle ?_ ?swf ?mwf (kept_not hkeep) (by rfl)
     case swf => repeat (first | exact swf_top _ | refine swf_upd ?_ (by simp [A.ids, upd_app]))
     case sle => repeat (first | exact sle_top _ | exact sle_refl _ | refine sle_upd ?_ (by first | rfl | (simp only [upd_app, killS_app, A.kill, entry_zero, entry_succ, Nat.reduceEqDiff, reduceIte, tabR_set hf, Option.map_some, Option.map_none]; done)))
     case mwf =>
      refine mwf_upd (mwf_fam (mwf_nil _) (fun i hi => by first | exact rowO_ids | rfl)) (fun j hj => ?_)
      obtain ⟨q, hq, rfl⟩ := tabR_ids.1 hj
      simp only [upd_app, Nat.reduceEqDiff, reduceIte, fam_at hq, Option.isSome_some]
     refine mle_upd (mle_fam fun i hi => ?_) (by simp only [exa, beq_self_eq_true, ByteArray.size, Nat.reduceAdd, Nat.reduceLeDiff, Nat.reduceEqDiff, Nat.reduceMul, Int.reduceToNat, reduceIte, Int.reduceLE, Int.reduceNeg, tabR_set hf, Option.map_some, Option.map_none]; done)
     rw [adjL_next hx]
     by_cases e : i = f
     ·subst e
      simp only [exa, beq_self_eq_true, ByteArray.size, Nat.reduceAdd, Nat.reduceLeDiff, Nat.reduceEqDiff, Nat.reduceMul, Int.reduceToNat, reduceIte, Int.reduceLE, Int.reduceNeg, fam_at hi, Option.map_some, Option.map_none]
      rfl
     ·simp only [exa, beq_self_eq_true, ByteArray.size, Nat.reduceAdd, Nat.reduceLeDiff, Nat.reduceEqDiff, Nat.reduceMul, Int.reduceToNat, reduceIte, Int.reduceLE, Int.reduceNeg, fam_at hi, e, Nat.add_right_cancel_iff, Option.map_some, kill_rowO]
      rfl
   ·intro st' hle
    refine W.weaken hle ?_
    repeat (first | refine W.seq ?_ | refine W.block ?_ | refine W.skip ?_ | refine W.exit ?_ | refine W.region tab_ok 0 (by decide) (exec_run (by simp only [exa, beq_self_eq_true, ByteArray.size, Nat.reduceAdd, Nat.reduceLeDiff, Nat.reduceEqDiff, Nat.reduceMul, Int.reduceToNat, reduceIte, Int.reduceLE, Int.reduceNeg]; rfl)) ?_)
    refine ⟨k + 1, hlt, by omega, ?_⟩
    refine le_mk ?sle ?_ ?swf ?mwf (kept_not hkeep) (by rfl)
    case swf => repeat (first | exact swf_top _ | refine swf_upd ?_ (by simp [A.ids, upd_app]))
    case sle => repeat (first | exact sle_top _ | exact sle_refl _ | refine sle_upd ?_ (by first | rfl | (simp only [upd_app, killS_app, A.kill, entry_zero, entry_succ, Nat.reduceEqDiff, reduceIte, wrap_succ (show k + 1 < 9223372036854775808 by omega)]; done)))
    case mwf =>
     refine mwf_upd (mwf_fam (mwf_nil _) (fun i hi => by first | exact rowO_ids | rfl)) (fun j hj => ?_)
     obtain ⟨q, hq, rfl⟩ := tabR_ids.1 hj
     simp only [upd_app, Nat.reduceEqDiff, reduceIte, fam_at hq, Option.isSome_some]
    refine mle_upd (mle_fam fun i hi => ?_) (by simp only [exa, beq_self_eq_true, ByteArray.size, Nat.reduceAdd, Nat.reduceLeDiff, Nat.reduceEqDiff, Nat.reduceMul, Int.reduceToNat, reduceIte, Int.reduceLE, Int.reduceNeg, wrap_succ (show k + 1 < 9223372036854775808 by omega)]; done)
    simp only [exa, beq_self_eq_true, ByteArray.size, Nat.reduceAdd, Nat.reduceLeDiff, Nat.reduceEqDiff, Nat.reduceMul, Int.reduceToNat, reduceIte, Int.reduceLE, Int.reduceNeg, fam_at hi]
  ·intro hge
   simp only [decide_eq_false_iff_not, Int.ofNat_lt] at hge
   obtain rfl : k = E.length := by omega
   rw [List.take_length]
   repeat (first | refine W.seq ?_ | refine W.block ?_ | refine W.skip ?_ | refine W.exit ?_ | refine W.region tab_ok 0 (by decide) (exec_run (by simp only [exa, beq_self_eq_true, ByteArray.size, Nat.reduceAdd, Nat.reduceLeDiff, Nat.reduceEqDiff, Nat.reduceMul, Int.reduceToNat, reduceIte, Int.reduceLE, Int.reduceNeg, tabR_len]; rfl)) ?_)
   refine W.loop (ι := Nat) (fun k => ⟨upd (upd (upd (upd (fun _ => .top) 5 (.own 11)) 32 (.own 11)) 33 (.c (.int .i64 n))) 34 (.c (.int .i64 k)),
    upd (famM 1000 n (fun i => .mrow 3 1 (if i < k then (sortL E i).map cI else adjL E i)) Mem.nil) 11 (some (.rows 26 (tabR 1000 n)))⟩) (fun k => k ≤ n) (fun k => n - k) 0 ?start2 (Nat.zero_le _) ?round2
   case start2 =>
    refine le_mk ?sle ?_ ?swf ?mwf (kept_not hkeep) (by rfl)
    case swf => repeat (first | exact swf_top _ | refine swf_upd ?_ (by simp [A.ids, upd_app]))
    case sle => repeat (first | exact sle_top _ | exact sle_refl _ | refine sle_upd ?_ (by first | rfl | (simp only [upd_app, killS_app, A.kill, entry_zero, entry_succ, Nat.reduceEqDiff, reduceIte]; done)))
    case mwf =>
     refine mwf_upd (mwf_fam (mwf_nil _) (fun i hi => by first | exact rowO_ids | rfl)) (fun j hj => ?_)
     obtain ⟨q, hq, rfl⟩ := tabR_ids.1 hj
     simp only [upd_app, Nat.reduceEqDiff, reduceIte, fam_at hq, Option.isSome_some]
    refine mle_upd (mle_fam fun i hi => ?_) (by simp only [exa, beq_self_eq_true, ByteArray.size, Nat.reduceAdd, Nat.reduceLeDiff, Nat.reduceEqDiff, Nat.reduceMul, Int.reduceToNat, reduceIte, Int.reduceLE, Int.reduceNeg]; done)
    simp only [exa, beq_self_eq_true, ByteArray.size, Nat.reduceAdd, Nat.reduceLeDiff, Nat.reduceEqDiff, Nat.reduceMul, Int.reduceToNat, reduceIte, Int.reduceLE, Int.reduceNeg, fam_at hi]
    rfl
   case round2 =>
    intro k hk
    repeat (first | refine W.seq ?_ | refine W.block ?_ | refine W.skip ?_ | refine W.exit ?_ | refine W.region tab_ok 0 (by decide) (exec_run (by simp only [exa, beq_self_eq_true, ByteArray.size, Nat.reduceAdd, Nat.reduceLeDiff, Nat.reduceEqDiff, Nat.reduceMul, Int.reduceToNat, reduceIte, Int.reduceLE, Int.reduceNeg]; rfl)) ?_)
    refine W.cond rfl ?_ ?_
    ·intro hlt
     simp only [decide_eq_true_eq, Int.ofNat_lt] at hlt
     repeat (first | refine W.seq ?_ | refine W.block ?_ | refine W.skip ?_ | refine W.exit ?_ | refine W.region tab_ok 0 (by decide) (exec_run (by simp only [exa, beq_self_eq_true, ByteArray.size, Nat.reduceAdd, Nat.reduceLeDiff, Nat.reduceEqDiff, Nat.reduceMul, Int.reduceToNat, reduceIte, Int.reduceLE, Int.reduceNeg, tabR_len, hlt, tabR_at hlt, and_self]; rfl)) ?_)
     refine W.regionK tab_ok 0 (by decide) ?_
     refine runk_split 1 (by simp only [exa, beq_self_eq_true, ByteArray.size, Nat.reduceAdd, Nat.reduceLeDiff, Nat.reduceEqDiff, Nat.reduceMul, Int.reduceToNat, reduceIte, Int.reduceLE, Int.reduceNeg]; rfl) ?_
     refine runk_call0 rfl rfl rfl rfl rfl rfl (by simp) (cvs_cons cv_refl cvs_nil) (sort_ok (zN (outs E k)) (by simp only [zN, List.length_map]; have := outs_len E k; omega) _ (k + 1000) (by simp only [upd_app, fam_at hlt]; rw [if_neg (by omega), if_neg (by omega)]; rfl)) ?_
     refine runk_exec (by simp only [exa, beq_self_eq_true, ByteArray.size, Nat.reduceAdd, Nat.reduceLeDiff, Nat.reduceEqDiff, Nat.reduceMul, Int.reduceToNat, reduceIte, Int.reduceLE, Int.reduceNeg]; rfl) ?_
     repeat (first | refine W.seq ?_ | refine W.block ?_ | refine W.skip ?_ | refine W.exit ?_ | refine W.region tab_ok 0 (by decide) (exec_run (by simp only [exa, beq_self_eq_true, ByteArray.size, Nat.reduceAdd, Nat.reduceLeDiff, Nat.reduceEqDiff, Nat.reduceMul, Int.reduceToNat, reduceIte, Int.reduceLE, Int.reduceNeg]; rfl)) ?_)
     refine ⟨k + 1, hlt, by omega, ?_⟩
     refine le_mk ?sle ?_ ?swf ?mwf (kept_not hkeep) (by rfl)
     case swf => repeat (first | exact swf_top _ | refine swf_upd ?_ (by simp [A.ids, upd_app]))
     case sle => repeat (first | exact sle_top _ | exact sle_refl _ | refine sle_upd ?_ (by first | rfl | (simp only [upd_app, killS_app, A.kill, entry_zero, entry_succ, Nat.reduceEqDiff, reduceIte, wrap_succ (show k + 1 < 9223372036854775808 by omega)]; done)))
     case mwf =>
      refine mwf_upd (mwf_fam (mwf_nil _) (fun i hi => by first | exact rowO_ids | rfl)) (fun j hj => ?_)
      obtain ⟨q, hq, rfl⟩ := tabR_ids.1 hj
      simp only [upd_app, Nat.reduceEqDiff, reduceIte, fam_at hq, Option.isSome_some]
     refine mle_upd (mle_fam fun i hi => ?_) (by simp only [exa, beq_self_eq_true, ByteArray.size, Nat.reduceAdd, Nat.reduceLeDiff, Nat.reduceEqDiff, Nat.reduceMul, Int.reduceToNat, reduceIte, Int.reduceLE, Int.reduceNeg, wrap_succ (show k + 1 < 9223372036854775808 by omega)]; done)
     by_cases e : i = k
     ·subst e
      simp only [exa, beq_self_eq_true, ByteArray.size, Nat.reduceAdd, Nat.reduceLeDiff, Nat.reduceEqDiff, Nat.reduceMul, Int.reduceToNat, reduceIte, Int.reduceLE, Int.reduceNeg]
      rw [if_pos (by omega)]
      rfl
     ·simp only [exa, beq_self_eq_true, ByteArray.size, Nat.reduceAdd, Nat.reduceLeDiff, Nat.reduceEqDiff, Nat.reduceMul, Int.reduceToNat, reduceIte, Int.reduceLE, Int.reduceNeg, fam_at hi, e, Nat.add_right_cancel_iff]
      congr 2
      by_cases e2 : i < k
      ·rw [if_pos e2, if_pos (by omega)]
      ·rw [if_neg e2, if_neg (by omega)]
    ·intro hge
     simp only [decide_eq_false_iff_not, Int.ofNat_lt] at hge
     obtain rfl : k = n := by omega
     repeat (first | refine W.seq ?_ | refine W.block ?_ | refine W.skip ?_ | refine W.exit ?_ | refine W.region tab_ok 0 (by decide) (exec_run (by simp only [exa, beq_self_eq_true, ByteArray.size, Nat.reduceAdd, Nat.reduceLeDiff, Nat.reduceEqDiff, Nat.reduceMul, Int.reduceToNat, reduceIte, Int.reduceLE, Int.reduceNeg]; rfl)) ?_)
     refine W.tabData 4 11 1000 k (e := 3) (ce := 1) (L := fun i => (sortL E i).map cI) (fun _ => .top) hkeep rfl rfl (fun i hi => ?_) (fun _ => .inl rfl) rfl (by decide) ?_
     ·simp only [exa, beq_self_eq_true, ByteArray.size, Nat.reduceAdd, Nat.reduceLeDiff, Nat.reduceEqDiff, Nat.reduceMul, Int.reduceToNat, reduceIte, Int.reduceLE, Int.reduceNeg, fam_at hi]
      rw [if_pos hi]
     refine W.ret ⟨.inr rfl, by rfl, ?_⟩
     simp only [Tryd.f46, resA, resOne, toT, fin, exa, beq_self_eq_true, ByteArray.size, Nat.reduceAdd, Nat.reduceLeDiff, Nat.reduceEqDiff, Nat.reduceMul, Int.reduceToNat, reduceIte, Int.reduceLE, Int.reduceNeg]
     rfl
end V
end Go.Proofs.YtnmfbaahabcocaaDoor
end
section
namespace Go.Proofs.YtnmfbaahabcocaaDoor
namespace V
open Go.RowKit G
def castE (e : Nat × Nat) : Int × Int := (e.1, e.2)
theorem cE_cast (E : List (Nat × Nat)) : (E.map castE).map cE = E.map cEd := by simp [cE, castE, cEd, Function.comp_def]
theorem cZ_cast (S : List Nat) : (S.map fun i : Nat => (i : Int)).map cZ = S.map cN := by simp [cZ, cN, Function.comp_def]
theorem chk_nat {n : Nat} (hn : n ≤ 100000) {E : List (Nat × Nat)} (hE : ∀ e ∈ E, e.1 < n ∧ e.2 < n) : chkB (n : Int) (E.map castE) = true := by
 have h1 : ¬ (n : Int) < 0 := by omega
 have h2 : ¬ (100000 : Int) < n := by omega
 have h3 : (E.map castE).any (badE n) = false := by
  rw [List.any_eq_false]
  intro x hx
  obtain ⟨e, he, rfl⟩ := List.mem_map.1 hx
  obtain ⟨q1, q2⟩ := hE e he
  obtain ⟨a, b⟩ := e
  replace q1 : a < n := q1
  replace q2 : b < n := q2
  intro h
  simp only [badE, castE, Bool.or_eq_true] at h
  rcases h with ((h | h) | h) | h <;> (have := of_decide_eq_true h; omega)
 simp [chkB, h1, h2, h3]
theorem checkN_ok {n : Nat} (hn : n ≤ 100000) {E : List (Nat × Nat)} (hlen : E.length ≤ 1000000) (hE : ∀ e ∈ E, e.1 < n ∧ e.2 < n) (m : Mem) : COk Tryd.prog 43 [.c (.int .i64 n), .c (.sl (E.map cEd))] m (.c (.int .i64 0)) := by
 have := check_ok n (E.map castE) (by simp; omega) m
 rwa [cE_cast, chk_nat hn hE] at this
theorem among_nat {n : Nat} {S : List Nat} (hS : ∀ i ∈ S, i < n) : (S.map fun i : Nat => (i : Int)).any (badI n) = false := by
 rw [List.any_eq_false]
 intro x hx
 obtain ⟨i, hi, rfl⟩ := List.mem_map.1 hx
 have := hS i hi
 simp [badI]; omega
theorem amongN_ok {n : Nat} {S : List Nat} (hlen : S.length ≤ 1000000000000) (hS : ∀ i ∈ S, i < n) (m : Mem) : COk Tryd.prog 44 [.c (.int .i64 n), .c (.sl (S.map cN))] m (.c (.bool true)) := by
 have := among_ok n (S.map fun i : Nat => (i : Int)) (by simpa using hlen) m
 rwa [cZ_cast, among_nat hS] at this
def sortN (E : List (Nat × Nat)) (i : Nat) : List Nat := (sortL E i).map Int.toNat
theorem sortL_eq (E : List (Nat × Nat)) (i : Nat) : sortL E i = (sortN E i).map fun j : Nat => (j : Int) := by
 unfold sortN
 rw [List.map_map]
 refine ((List.map_congr_left fun z hz => ?_).trans (List.map_id _)).symm
 have hz := List.mem_mergeSort.1 hz
 obtain ⟨k, -, rfl⟩ := List.mem_map.1 hz
 simp
theorem sortN_cN (E : List (Nat × Nat)) (i : Nat) : (sortL E i).map cI = (sortN E i).map cN := by
 rw [sortL_eq]; simp [cI, cN, Function.comp_def]
theorem mem_sortN {E : List (Nat × Nat)} {i j : Nat} : j ∈ sortN E i ↔ (i, j) ∈ E := by
 rw [← mem_outs]
 unfold sortN sortL zN
 rw [List.mem_map]
 constructor
 ·rintro ⟨z, hz, rfl⟩
  obtain ⟨k, hk, rfl⟩ := List.mem_map.1 (List.mem_mergeSort.1 hz)
  simpa using hk
 ·intro h
  exact ⟨(j : Int), List.mem_mergeSort.2 (List.mem_map.2 ⟨j, h, rfl⟩), by simp⟩
theorem sortN_len (E : List (Nat × Nat)) (i : Nat) : (sortN E i).length ≤ E.length := by
 have := outs_len E i
 simp only [sortN, sortL, zN, List.length_map, List.length_mergeSort]
 exact this
theorem tabN_at {E : List (Nat × Nat)} {n i : Nat} (h : i < n) : (tabC E n)[i]? = some [.sl ((sortN E i).map cN)] := by rw [tabC_at h, sortN_cN]
set_option maxRecDepth 100000 in
theorem cloneInt_ok (l : List Nat) (hl : l.length ≤ 10000000000000) (M : Mem) (id : Nat) (hid : M id = none) : CallE Tryd.prog 47 [.c (.sl (l.map cN))] M [] (.own id) (upd M id (some (.mrow 3 1 (l.map cN)))) :=
 clone_mut (size := 1) (bytes := 8) Tryd.laysClone47 ⟨_, _, rfl, rfl, rfl, rfl, rfl⟩ (by decide) (enters_of Tryd.func47 (by kernel_rfl) rfl) (l.map cN) (fun x hx => by obtain ⟨y, -, rfl⟩ := List.mem_map.1 hx; rfl) (by rw [List.length_map]; omega) M id hid
theorem addN_ok (n : Nat) (hn : n ≤ 1000000) (R : Nat → Bool) (k : Nat) (hk : k < n) (M : Mem) (b p q : Nat) (hM : ∀ d, M (b + d) = none) (hp : M p = some (setO n q)) (hq : M q = some (wordsO n R)) :
  CallE Tryd.prog 48 [.ptr p 0, .c (.int .i64 k)] M [] (.c (.bool (!R k))) (upd M q (some (wordsO n (G.mark R k)))) := by
 have h := add_ok n hn R k M b p q hM hp hq
 rw [show decide (k < n) = true by simpa using hk, Bool.true_and] at h
 have e : G.mark R k = addF R k := rfl
 rw [e]
 cases hR : R k with
 | false => rw [hR, if_pos ⟨hk, rfl⟩] at h; exact h
 | true =>
  rw [hR, if_neg (by simp)] at h
  have e2 : addF R k = R := by
   funext j
   simp only [addF]
   by_cases q : j = k
   ·subst q; rw [hR]; rfl
   ·simp [q]
  rw [e2, upd_id _ hq]; exact h
theorem last_at (ws : List Nat) (i : Nat) : ((ws ++ [i]).map cN)[ws.length]? = some (cN i) := by simp
theorem take_last (ws : List Nat) (i : Nat) : (((ws ++ [i]).map cN).take ws.length).drop 0 = ws.map cN := by simp
theorem wrap_last {k : Nat} (h : k < 9223372036854775807) : IntKind.i64.wrap (((k + 1 : Nat) : Int) - 1) = (k : Int) := by
 rw [int_pred]; exact wrap_nat (by omega)
theorem in_next {S : List Nat} {k x : Nat} (h : S[k]? = some x) : G.mark (fun i => decide (i ∈ S.take k)) x = fun i => decide (i ∈ S.take (k + 1)) := by
 funext i
 rw [List.take_add_one, h]
 simp [G.mark, List.mem_append]
set_option maxHeartbeats 2000000 in
theorem reachG_ok (n : Nat) (hn : n ≤ 100000) (E : List (Nat × Nat)) (hlen : E.length ≤ 1000000) (hE : ∀ e ∈ E, e.1 < n ∧ e.2 < n) (S : List Nat) (hsl : S.length ≤ 1000000000000) (hS : ∀ i ∈ S, i < n) (m : Mem) :
  COk Tryd.prog 32 [.c (.int .i64 n), .c (.sl (E.map cEd)), .c (.sl (S.map cN))] m (.tup [(false, [.sl ((reachL E S n).map cN)]), (false, [.int .i64 0])]) := by
 refine (ok_pure tab_ok Tryd.func32 (by kernel_rfl) rfl rfl (by rfl) (by rfl) (by rfl) (fun R hkeep => ?_) m)
 repeat (first | refine W.seq ?_ | refine W.block ?_ | refine W.skip ?_ | refine W.exit ?_ | refine W.region tab_ok 0 (by decide) (exec_run (by simp only [exa, beq_self_eq_true, ByteArray.size, Nat.reduceAdd, Nat.reduceLeDiff, Nat.reduceEqDiff, Nat.reduceMul, Int.reduceToNat, reduceIte, Int.reduceLE, Int.reduceNeg]; rfl)) ?_)
 refine W.regionK tab_ok 0 (by decide) ?_
 refine runk_split 2 (by simp only [exa, beq_self_eq_true, ByteArray.size, Nat.reduceAdd, Nat.reduceLeDiff, Nat.reduceEqDiff, Nat.reduceMul, Int.reduceToNat, reduceIte, Int.reduceLE, Int.reduceNeg]; rfl) ?_
 refine runk_call rfl rfl rfl rfl rfl (by simp) (cvs_cons cv_refl (cvs_cons cv_refl cvs_nil)) (checkN_ok hn hlen hE _) ?_
 refine runk_exec (by simp only [exa, beq_self_eq_true, ByteArray.size, Nat.reduceAdd, Nat.reduceLeDiff, Nat.reduceEqDiff, Nat.reduceMul, Int.reduceToNat, reduceIte, Int.reduceLE, Int.reduceNeg]; rfl) ?_
 refine W.cond rfl ?_ ?_
 ·intro h; cases h
 intro _
 repeat (first | refine W.seq ?_ | refine W.block ?_ | refine W.skip ?_ | refine W.exit ?_ | refine W.region tab_ok 0 (by decide) (exec_run (by simp only [exa, beq_self_eq_true, ByteArray.size, Nat.reduceAdd, Nat.reduceLeDiff, Nat.reduceEqDiff, Nat.reduceMul, Int.reduceToNat, reduceIte, Int.reduceLE, Int.reduceNeg]; rfl)) ?_)
 refine W.regionK tab_ok 0 (by decide) ?_
 refine runk_split 2 (by simp only [exa, beq_self_eq_true, ByteArray.size, Nat.reduceAdd, Nat.reduceLeDiff, Nat.reduceEqDiff, Nat.reduceMul, Int.reduceToNat, reduceIte, Int.reduceLE, Int.reduceNeg]; rfl) ?_
 refine runk_call rfl rfl rfl rfl rfl (by simp) (cvs_cons cv_refl (cvs_cons cv_refl cvs_nil)) (amongN_ok hsl hS _) ?_
 refine runk_exec (by simp only [exa, beq_self_eq_true, ByteArray.size, Nat.reduceAdd, Nat.reduceLeDiff, Nat.reduceEqDiff, Nat.reduceMul, Int.reduceToNat, reduceIte, Int.reduceLE, Int.reduceNeg]; rfl) ?_
 refine W.cond rfl ?_ ?_
 ·intro h; cases h
 intro _
 repeat (first | refine W.seq ?_ | refine W.block ?_ | refine W.skip ?_ | refine W.exit ?_ | refine W.region tab_ok 0 (by decide) (exec_run (by simp only [exa, beq_self_eq_true, ByteArray.size, Nat.reduceAdd, Nat.reduceLeDiff, Nat.reduceEqDiff, Nat.reduceMul, Int.reduceToNat, reduceIte, Int.reduceLE, Int.reduceNeg]; rfl)) ?_)
 refine W.regionK tab_ok 0 (by decide) ?_
 refine runk_split 1 (by simp only [exa, beq_self_eq_true, ByteArray.size, Nat.reduceAdd, Nat.reduceLeDiff, Nat.reduceEqDiff, Nat.reduceMul, Int.reduceToNat, reduceIte, Int.reduceLE, Int.reduceNeg]; rfl) ?_
 refine runk_callE (D := []) rfl rfl rfl rfl rfl (fun j hj => by simp at hj) (by simp) (cvs_cons cv_refl cvs_nil) (new_ok n (by omega) _ 100000 (fun d => rfl)) ?_
 simp only [killL, putS, upd_upd]
 refine runk_split 2 (by simp only [exa, beq_self_eq_true, ByteArray.size, Nat.reduceAdd, Nat.reduceLeDiff, Nat.reduceEqDiff, Nat.reduceMul, Int.reduceToNat, reduceIte, Int.reduceLE, Int.reduceNeg]; rfl) ?_
 refine runk_call rfl rfl rfl rfl rfl (by simp) (cvs_cons cv_refl (cvs_cons cv_refl cvs_nil)) (heads_ok n hn E hlen hE _) ?_
 refine runk_exec (by simp only [exa, beq_self_eq_true, ByteArray.size, Nat.reduceAdd, Nat.reduceLeDiff, Nat.reduceEqDiff, Nat.reduceMul, Int.reduceToNat, reduceIte, Int.reduceLE, Int.reduceNeg]; rfl) ?_
 repeat (first | refine W.seq ?_ | refine W.block ?_ | refine W.skip ?_ | refine W.exit ?_ | refine W.region tab_ok 0 (by decide) (exec_run (by simp only [exa, beq_self_eq_true, ByteArray.size, Nat.reduceAdd, Nat.reduceLeDiff, Nat.reduceEqDiff, Nat.reduceMul, Int.reduceToNat, reduceIte, Int.reduceLE, Int.reduceNeg]; rfl)) ?_)
 refine W.regionK tab_ok 0 (by decide) ?_
 refine runk_split 1 (by simp only [exa, beq_self_eq_true, ByteArray.size, Nat.reduceAdd, Nat.reduceLeDiff, Nat.reduceEqDiff, Nat.reduceMul, Int.reduceToNat, reduceIte, Int.reduceLE, Int.reduceNeg]; rfl) ?_
 refine runk_callE (D := []) rfl rfl rfl rfl rfl (fun j hj => by simp at hj) (by simp) (cvs_cons cv_refl cvs_nil) (cloneInt_ok S (by omega) _ 200 rfl) ?_
 simp only [killL, putS, upd_upd]
 refine runk_exec (by simp only [exa, beq_self_eq_true, ByteArray.size, Nat.reduceAdd, Nat.reduceLeDiff, Nat.reduceEqDiff, Nat.reduceMul, Int.reduceToNat, reduceIte, Int.reduceLE, Int.reduceNeg]; rfl) ?_
 repeat (first | refine W.seq ?_ | refine W.block ?_ | refine W.skip ?_ | refine W.exit ?_ | refine W.region tab_ok 0 (by decide) (exec_run (by simp only [exa, beq_self_eq_true, ByteArray.size, Nat.reduceAdd, Nat.reduceLeDiff, Nat.reduceEqDiff, Nat.reduceMul, Int.reduceToNat, reduceIte, Int.reduceLE, Int.reduceNeg]; rfl)) ?_)
 refine W.loop (ι := Nat) (fun k => ⟨upd (upd (upd (upd (upd (upd (fun _ => .top) 8 (.ptr 100012 0)) 9 (.c (.sl (tabC E n)))) 10 (.own 200)) 33 (.own 200)) 34 (.c (.int .i64 S.length))) 35 (.c (.int .i64 k)),
   upd (upd (upd Mem.nil 200 (some (.mrow 3 1 (S.map cN)))) 100012 (some (setO n 100010))) 100010 (some (wordsO n fun i => decide (i ∈ S.take k)))⟩) (fun k => k ≤ S.length) (fun k => S.length - k) 0 ?start (Nat.zero_le _) ?round
 case start =>
  refine le_mk ?sle ?mle ?swf ?mwf (kept_not hkeep) (by rfl)
  case swf => repeat (first | exact swf_top _ | refine swf_upd ?_ (by simp [A.ids, upd_app, setO, wordsO, List.take_zero, List.not_mem_nil, decide_false]))
  case mwf => repeat (first | exact mwf_nil _ | refine mwf_upd ?_ (by simp [A.ids, O.ids, upd_app, setO, wordsO, List.take_zero, List.not_mem_nil, decide_false]))
  case mle => repeat (first | exact mle_nil _ | exact mle_refl _ | refine mle_upd ?_ (by first | rfl | (simp only [upd_app, killM_app, O.kill, A.kill, Nat.reduceEqDiff, reduceIte, Option.map_some, Option.map_none, List.map_cons, List.map_nil, setO, wordsO, List.take_zero, List.not_mem_nil, decide_false]; done)))
  case sle => repeat (first | exact sle_top _ | exact sle_refl _ | refine sle_upd ?_ (by first | rfl | (simp only [upd_app, killS_app, A.kill, entry_zero, entry_succ, Nat.reduceEqDiff, reduceIte, setO, wordsO, List.take_zero, List.not_mem_nil, decide_false]; done)))
 case round =>
  intro k hk
  repeat (first | refine W.seq ?_ | refine W.block ?_ | refine W.skip ?_ | refine W.exit ?_ | refine W.region tab_ok 0 (by decide) (exec_run (by simp only [exa, beq_self_eq_true, ByteArray.size, Nat.reduceAdd, Nat.reduceLeDiff, Nat.reduceEqDiff, Nat.reduceMul, Int.reduceToNat, reduceIte, Int.reduceLE, Int.reduceNeg]; rfl)) ?_)
  refine W.cond rfl ?_ ?_
  ·intro hlt
   simp only [decide_eq_true_eq, Int.ofNat_lt] at hlt
   obtain ⟨x, hx⟩ : ∃ x, S[k]? = some x := ⟨_, List.getElem?_eq_getElem hlt⟩
   have hxn := hS x (List.mem_of_getElem? hx)
   repeat (first | refine W.seq ?_ | refine W.block ?_ | refine W.skip ?_ | refine W.exit ?_ | refine W.region tab_ok 0 (by decide) (exec_run (by simp only [exa, beq_self_eq_true, ByteArray.size, Nat.reduceAdd, Nat.reduceLeDiff, Nat.reduceEqDiff, Nat.reduceMul, Int.reduceToNat, reduceIte, Int.reduceLE, Int.reduceNeg, at_map hx, cN, Int.toNat_natCast, List.length_map, hlt, and_self]; rfl)) ?_)
   refine W.regionK tab_ok 0 (by decide) ?_
   refine runk_split 2 (by simp only [exa, beq_self_eq_true, ByteArray.size, Nat.reduceAdd, Nat.reduceLeDiff, Nat.reduceEqDiff, Nat.reduceMul, Int.reduceToNat, reduceIte, Int.reduceLE, Int.reduceNeg]; rfl) ?_
   refine runk_callE (D := []) rfl rfl rfl rfl rfl (fun j hj => by simp at hj) (by simp) (cvs_cons cv_refl (cvs_cons cv_refl cvs_nil)) (addN_ok n (by omega) _ x hxn _ 300000 100012 100010 (fun d => by simp only [upd_app, mem_nil_app]; repeat (rw [if_neg (by omega)])) rfl rfl) ?_
   simp only [killL, putS, upd_upd]
   refine runk_exec (by simp only [exa, beq_self_eq_true, ByteArray.size, Nat.reduceAdd, Nat.reduceLeDiff, Nat.reduceEqDiff, Nat.reduceMul, Int.reduceToNat, reduceIte, Int.reduceLE, Int.reduceNeg]; rfl) ?_
   repeat (first | refine W.seq ?_ | refine W.block ?_ | refine W.skip ?_ | refine W.exit ?_ | refine W.region tab_ok 0 (by decide) (exec_run (by simp only [exa, beq_self_eq_true, ByteArray.size, Nat.reduceAdd, Nat.reduceLeDiff, Nat.reduceEqDiff, Nat.reduceMul, Int.reduceToNat, reduceIte, Int.reduceLE, Int.reduceNeg]; rfl)) ?_)
   refine ⟨k + 1, hlt, by omega, ?_⟩
   rw [in_next hx]
   refine le_mk ?sle ?mle ?swf ?mwf (kept_not hkeep) (by rfl)
   case swf => repeat (first | exact swf_top _ | refine swf_upd ?_ (by simp [A.ids, upd_app, setO, wordsO, wrap_succ (show k + 1 < 9223372036854775808 by omega)]))
   case mwf => repeat (first | exact mwf_nil _ | refine mwf_upd ?_ (by simp [A.ids, O.ids, upd_app, setO, wordsO, wrap_succ (show k + 1 < 9223372036854775808 by omega)]))
   case mle => repeat (first | exact mle_nil _ | exact mle_refl _ | refine mle_upd ?_ (by first | rfl | (simp only [upd_app, killM_app, O.kill, A.kill, Nat.reduceEqDiff, reduceIte, Option.map_some, Option.map_none, List.map_cons, List.map_nil, setO, wordsO, wrap_succ (show k + 1 < 9223372036854775808 by omega)]; done)))
   case sle => repeat (first | exact sle_top _ | exact sle_refl _ | refine sle_upd ?_ (by first | rfl | (simp only [upd_app, killS_app, A.kill, entry_zero, entry_succ, Nat.reduceEqDiff, reduceIte, setO, wordsO, wrap_succ (show k + 1 < 9223372036854775808 by omega)]; done)))
  ·intro hge
   simp only [decide_eq_false_iff_not, Int.ofNat_lt] at hge
   obtain rfl : k = S.length := by omega
   rw [List.take_length]
   repeat (first | refine W.seq ?_ | refine W.block ?_ | refine W.skip ?_ | refine W.exit ?_ | refine W.region tab_ok 0 (by decide) (exec_run (by simp only [exa, beq_self_eq_true, ByteArray.size, Nat.reduceAdd, Nat.reduceLeDiff, Nat.reduceEqDiff, Nat.reduceMul, Int.reduceToNat, reduceIte, Int.reduceLE, Int.reduceNeg]; rfl)) ?_)
   refine W.loop (ι := List Nat × (Nat → Bool)) (fun i => ⟨upd (upd (upd (fun _ => .top) 8 (.ptr 100012 0)) 9 (.c (.sl (tabC E n)))) 10 (.own 200),
     upd (upd (upd Mem.nil 200 (some (.mrow 3 1 (i.1.map cN)))) 100012 (some (setO n 100010))) 100010 (some (wordsO n i.2))⟩) (fun i => RInv E S n i.1 i.2 ∧ left i.2 n + i.1.length ≤ S.length + n) (fun i => left i.2 n + i.1.length) (S, fun i => decide (i ∈ S)) ?start2
     ⟨⟨fun i hi => hS i (by simpa using hi), fun i hi => by simpa using hi, fun i hi => .here (by simpa using hi), fun s hs => by simpa using hs, fun i hi => .inl (by simpa using hi)⟩, by have := left_le (fun i => decide (i ∈ S)) n; simp only; omega⟩ ?round2
   case start2 =>
    refine le_mk ?sle ?mle ?swf ?mwf (kept_not hkeep) (by rfl)
    case swf => repeat (first | exact swf_top _ | refine swf_upd ?_ (by simp [A.ids, upd_app, setO, wordsO]))
    case mwf => repeat (first | exact mwf_nil _ | refine mwf_upd ?_ (by simp [A.ids, O.ids, upd_app, setO, wordsO]))
    case mle => repeat (first | exact mle_nil _ | exact mle_refl _ | refine mle_upd ?_ (by first | rfl | (simp only [upd_app, killM_app, O.kill, A.kill, Nat.reduceEqDiff, reduceIte, Option.map_some, Option.map_none, List.map_cons, List.map_nil, setO, wordsO]; done)))
    case sle => repeat (first | exact sle_top _ | exact sle_refl _ | refine sle_upd ?_ (by first | rfl | (simp only [upd_app, killS_app, A.kill, entry_zero, entry_succ, Nat.reduceEqDiff, reduceIte, setO, wordsO]; done)))
   case round2 =>
    rintro ⟨ws, Q⟩ ⟨hinv, hbd⟩
    simp only at hinv hbd
    rcases list_last ws with rfl | ⟨ws, i, rfl⟩
    ·repeat (first | refine W.seq ?_ | refine W.block ?_ | refine W.skip ?_ | refine W.exit ?_ | refine W.region tab_ok 0 (by decide) (exec_run (by simp only [exa, beq_self_eq_true, ByteArray.size, Nat.reduceAdd, Nat.reduceLeDiff, Nat.reduceEqDiff, Nat.reduceMul, Int.reduceToNat, reduceIte, Int.reduceLE, Int.reduceNeg]; rfl)) ?_)
     refine W.cond rfl ?_ ?_
     ·intro h; simp at h
     ·intro _
      repeat (first | refine W.seq ?_ | refine W.block ?_ | refine W.skip ?_ | refine W.exit ?_ | refine W.region tab_ok 0 (by decide) (exec_run (by simp only [exa, beq_self_eq_true, ByteArray.size, Nat.reduceAdd, Nat.reduceLeDiff, Nat.reduceEqDiff, Nat.reduceMul, Int.reduceToNat, reduceIte, Int.reduceLE, Int.reduceNeg]; rfl)) ?_)
      refine W.regionK tab_ok 0 (by decide) ?_
      refine runk_split 1 (by simp only [exa, beq_self_eq_true, ByteArray.size, Nat.reduceAdd, Nat.reduceLeDiff, Nat.reduceEqDiff, Nat.reduceMul, Int.reduceToNat, reduceIte, Int.reduceLE, Int.reduceNeg]; rfl) ?_
      refine runk_callE (D := []) rfl rfl rfl rfl rfl (fun j hj => by simp at hj) (by simp) (cvs_cons cv_refl cvs_nil) (list_ok n (by omega) Q hinv.lt _ 300000 100012 100010 (fun d => by simp only [upd_app, mem_nil_app]; repeat (rw [if_neg (by omega)])) rfl rfl) ?_
      simp only [killL, putS, upd_upd]
      refine runk_exec (by simp only [exa, beq_self_eq_true, ByteArray.size, Nat.reduceAdd, Nat.reduceLeDiff, Nat.reduceEqDiff, Nat.reduceMul, Int.reduceToNat, reduceIte, Int.reduceLE, Int.reduceNeg]; rfl) ?_
      repeat (first | refine W.seq ?_ | refine W.block ?_ | refine W.skip ?_ | refine W.exit ?_ | refine W.region tab_ok 0 (by decide) (exec_run (by simp only [exa, beq_self_eq_true, ByteArray.size, Nat.reduceAdd, Nat.reduceLeDiff, Nat.reduceEqDiff, Nat.reduceMul, Int.reduceToNat, reduceIte, Int.reduceLE, Int.reduceNeg]; rfl)) ?_)
      refine W.ret ⟨.inr rfl, by rfl, ?_⟩
      simp only [Tryd.f32, resA, resOne, toT, fin, exa, beq_self_eq_true, ByteArray.size, Nat.reduceAdd, Nat.reduceLeDiff, Nat.reduceEqDiff, Nat.reduceMul, Int.reduceToNat, reduceIte, Int.reduceLE, Int.reduceNeg]
      rw [reachB_of (hinv.done)]; rfl
    ·have hbl : ws.length + 1 ≤ S.length + n := by simp only [List.length_append, List.length_cons, List.length_nil] at hbd; omega
     have hi : i < n := hinv.lt i (hinv.sub i (by simp))
     have hw1 := wrap_last (k := ws.length) (by omega)
     have hle : ws.length ≤ ws.length + 1 := by omega
     repeat (first | refine W.seq ?_ | refine W.block ?_ | refine W.skip ?_ | refine W.exit ?_ | refine W.region tab_ok 0 (by decide) (exec_run (by simp only [exa, beq_self_eq_true, ByteArray.size, Nat.reduceAdd, Nat.reduceLeDiff, Nat.reduceEqDiff, Nat.reduceMul, Int.reduceToNat, reduceIte, Int.reduceLE, Int.reduceNeg, List.length_map, List.length_append]; rfl)) ?_)
     refine W.cond rfl ?_ ?_
     ·intro _
      repeat (first | refine W.seq ?_ | refine W.block ?_ | refine W.skip ?_ | refine W.exit ?_ | refine W.region tab_ok 0 (by decide) (exec_run (by simp only [exa, beq_self_eq_true, ByteArray.size, Nat.reduceAdd, Nat.reduceLeDiff, Nat.reduceEqDiff, Nat.reduceMul, Int.reduceToNat, reduceIte, Int.reduceLE, Int.reduceNeg, List.length_map, List.length_append, hw1, last_at, cN, Int.toNat_natCast, Nat.lt_succ_self, and_self, Nat.zero_le, hle, tabN_at hi, hi, tabC_len]; rfl)) ?_)
      refine W.rewin 10 200 (by decide) rfl (by simp only [exa, beq_self_eq_true, ByteArray.size, Nat.reduceAdd, Nat.reduceLeDiff, Nat.reduceEqDiff, Nat.reduceMul, Int.reduceToNat, reduceIte, Int.reduceLE, Int.reduceNeg]; rfl) (by simp only [List.length_map, List.length_append, List.length_cons, List.length_nil]; omega) (nokeep hkeep) ?_
      refine W.loop (ι := Nat × List Nat × (Nat → Bool)) (fun x => ⟨upd (upd (upd (upd (upd (upd (fun _ => .top) 8 (.ptr 100012 0)) 9 (.c (.sl (tabC E n)))) 10 (.own 200)) 60 (.c (.sl ((sortN E i).map cN)))) 61 (.c (.int .i64 (sortN E i).length))) 62 (.c (.int .i64 x.1)),
        upd (upd (upd Mem.nil 200 (some (.mrow 3 1 (x.2.1.map cN)))) 100012 (some (setO n 100010))) 100010 (some (wordsO n x.2.2))⟩)
       (fun x => x.1 ≤ (sortN E i).length ∧ RMid E S n x.2.1 x.2.2 i ((sortN E i).drop x.1) ∧ left x.2.2 n + x.2.1.length = left Q n + ws.length) (fun x => (sortN E i).length - x.1) (0, ws, Q) ?start3 ⟨Nat.zero_le _, hinv.take (fun j hj => mem_sortN.2 hj), rfl⟩ ?round3
      case start3 =>
       refine le_mk ?sle ?mle ?swf ?mwf (kept_not hkeep) (by rfl)
       case swf => repeat (first | exact swf_top _ | refine swf_upd ?_ (by simp [A.ids, upd_app, setO, wordsO, take_last]))
       case mwf => repeat (first | exact mwf_nil _ | refine mwf_upd ?_ (by simp [A.ids, O.ids, upd_app, setO, wordsO, take_last]))
       case mle => repeat (first | exact mle_nil _ | exact mle_refl _ | refine mle_upd ?_ (by first | rfl | (simp only [upd_app, killM_app, O.kill, A.kill, Nat.reduceEqDiff, reduceIte, Option.map_some, Option.map_none, List.map_cons, List.map_nil, setO, wordsO, take_last]; done)))
       case sle => repeat (first | exact sle_top _ | exact sle_refl _ | refine sle_upd ?_ (by first | rfl | (simp only [upd_app, killS_app, A.kill, entry_zero, entry_succ, Nat.reduceEqDiff, reduceIte, setO, wordsO, take_last]; done)))
      case round3 =>
       rintro ⟨j, vs, Q2⟩ ⟨hj, hmid, hcnt⟩
       simp only at hj hmid hcnt
       have hsn := sortN_len E i
       repeat (first | refine W.seq ?_ | refine W.block ?_ | refine W.skip ?_ | refine W.exit ?_ | refine W.region tab_ok 0 (by decide) (exec_run (by simp only [exa, beq_self_eq_true, ByteArray.size, Nat.reduceAdd, Nat.reduceLeDiff, Nat.reduceEqDiff, Nat.reduceMul, Int.reduceToNat, reduceIte, Int.reduceLE, Int.reduceNeg]; rfl)) ?_)
       refine W.cond rfl ?_ ?_
       ·intro hlt
        simp only [decide_eq_true_eq, Int.ofNat_lt] at hlt
        obtain ⟨x, hx⟩ : ∃ x, (sortN E i)[j]? = some x := ⟨_, List.getElem?_eq_getElem hlt⟩
        have hedge : (i, x) ∈ E := mem_sortN.1 (List.mem_of_getElem? hx)
        have hxn : x < n := (hE _ hedge).2
        have hdrop : (sortN E i).drop j = x :: (sortN E i).drop (j + 1) := by
         rw [List.drop_eq_getElem_cons hlt]
         congr 1
         rw [List.getElem?_eq_getElem hlt] at hx; exact Option.some.inj hx
        rw [hdrop] at hmid
        repeat (first | refine W.seq ?_ | refine W.block ?_ | refine W.skip ?_ | refine W.exit ?_ | refine W.region tab_ok 0 (by decide) (exec_run (by simp only [exa, beq_self_eq_true, ByteArray.size, Nat.reduceAdd, Nat.reduceLeDiff, Nat.reduceEqDiff, Nat.reduceMul, Int.reduceToNat, reduceIte, Int.reduceLE, Int.reduceNeg, at_map hx, cN]; rfl)) ?_)
        refine W.regionK tab_ok 0 (by decide) ?_
        refine runk_split 2 (by simp only [exa, beq_self_eq_true, ByteArray.size, Nat.reduceAdd, Nat.reduceLeDiff, Nat.reduceEqDiff, Nat.reduceMul, Int.reduceToNat, reduceIte, Int.reduceLE, Int.reduceNeg]; rfl) ?_
        refine runk_callE (D := []) rfl rfl rfl rfl rfl (fun j hj => by simp at hj) (by simp) (cvs_cons cv_refl (cvs_cons cv_refl cvs_nil)) (addN_ok n (by omega) Q2 x hxn _ 300000 100012 100010 (fun d => by simp only [upd_app, mem_nil_app]; repeat (rw [if_neg (by omega)])) rfl rfl) ?_
        simp only [killL, putS, upd_upd]
        refine runk_exec (by simp only [exa, beq_self_eq_true, ByteArray.size, Nat.reduceAdd, Nat.reduceLeDiff, Nat.reduceEqDiff, Nat.reduceMul, Int.reduceToNat, reduceIte, Int.reduceLE, Int.reduceNeg]; rfl) ?_
        refine W.cond rfl ?_ ?_
        ·intro hq
         have hq : Q2 x = false := by simpa using hq
         have hm := left_mark Q2 x hq n
         rw [if_pos hxn] at hm
         repeat (first | refine W.seq ?_ | refine W.block ?_ | refine W.skip ?_ | refine W.exit ?_ | refine W.region tab_ok 0 (by decide) (exec_run (by simp only [exa, beq_self_eq_true, ByteArray.size, Nat.reduceAdd, Nat.reduceLeDiff, Nat.reduceEqDiff, Nat.reduceMul, Int.reduceToNat, reduceIte, Int.reduceLE, Int.reduceNeg]; rfl)) ?_)
         refine W.regionK tab_ok 0 (by decide) ?_
         refine runk_split 3 (by simp only [exa, beq_self_eq_true, ByteArray.size, Nat.reduceAdd, Nat.reduceLeDiff, Nat.reduceEqDiff, Nat.reduceMul, Int.reduceToNat, reduceIte, Int.reduceLE, Int.reduceNeg]; rfl) ?_
         refine runk_appendM tab_ok 200 rfl rfl rfl rfl rfl rfl (by simp only [exa, beq_self_eq_true, ByteArray.size, Nat.reduceAdd, Nat.reduceLeDiff, Nat.reduceEqDiff, Nat.reduceMul, Int.reduceToNat, reduceIte, Int.reduceLE, Int.reduceNeg]) (by simp only [exa, beq_self_eq_true, ByteArray.size, Nat.reduceAdd, Nat.reduceLeDiff, Nat.reduceEqDiff, Nat.reduceMul, Int.reduceToNat, reduceIte, Int.reduceLE, Int.reduceNeg]; rfl) (by first | rfl | (simp only [exa, beq_self_eq_true, ByteArray.size, Nat.reduceAdd, Nat.reduceLeDiff, Nat.reduceEqDiff, Nat.reduceMul, Int.reduceToNat, reduceIte, Int.reduceLE, Int.reduceNeg]; rfl)) rfl rfl rfl rfl (nokeep hkeep) (fun z hz => by simp at hz; subst hz; rfl) (by simp only [List.length_map, List.length_cons, List.length_nil]; omega) (by decide) ?_
         refine runk_exec (by simp only [exa, beq_self_eq_true, ByteArray.size, Nat.reduceAdd, Nat.reduceLeDiff, Nat.reduceEqDiff, Nat.reduceMul, Int.reduceToNat, reduceIte, Int.reduceLE, Int.reduceNeg]; rfl) ?_
         repeat (first | refine W.seq ?_ | refine W.block ?_ | refine W.skip ?_ | refine W.exit ?_ | refine W.region tab_ok 0 (by decide) (exec_run (by simp only [exa, beq_self_eq_true, ByteArray.size, Nat.reduceAdd, Nat.reduceLeDiff, Nat.reduceEqDiff, Nat.reduceMul, Int.reduceToNat, reduceIte, Int.reduceLE, Int.reduceNeg]; rfl)) ?_)
         refine ⟨(j + 1, vs ++ [x], G.mark Q2 x), ⟨hlt, hmid.new hxn hedge, by simp only [List.length_append, List.length_cons, List.length_nil]; omega⟩, by simp only; omega, ?_⟩
         refine le_mk ?sle ?mle ?swf ?mwf (kept_not hkeep) (by rfl)
         case swf => repeat (first | exact swf_top _ | refine swf_upd ?_ (by simp [A.ids, upd_app, setO, wordsO, wrap_succ (show j + 1 < 9223372036854775808 by omega), List.map_append, cN]))
         case mwf => repeat (first | exact mwf_nil _ | refine mwf_upd ?_ (by simp [A.ids, O.ids, upd_app, setO, wordsO, wrap_succ (show j + 1 < 9223372036854775808 by omega), List.map_append, cN]))
         case mle => repeat (first | exact mle_nil _ | exact mle_refl _ | refine mle_upd ?_ (by first | rfl | (simp only [upd_app, killM_app, O.kill, A.kill, Nat.reduceEqDiff, reduceIte, Option.map_some, Option.map_none, List.map_cons, List.map_nil, setO, wordsO, wrap_succ (show j + 1 < 9223372036854775808 by omega), List.map_append, cN]; done)))
         case sle => repeat (first | exact sle_top _ | exact sle_refl _ | refine sle_upd ?_ (by first | rfl | (simp only [upd_app, killS_app, A.kill, entry_zero, entry_succ, Nat.reduceEqDiff, reduceIte, setO, wordsO, wrap_succ (show j + 1 < 9223372036854775808 by omega), List.map_append, cN]; done)))
        ·intro hq
         have hq : Q2 x = true := by simpa using hq
         have hm : G.mark Q2 x = Q2 := by
          funext y
          simp only [G.mark]
          by_cases e : y = x
          ·subst e; rw [hq]; rfl
          ·simp [e]
         repeat (first | refine W.seq ?_ | refine W.block ?_ | refine W.skip ?_ | refine W.exit ?_ | refine W.region tab_ok 0 (by decide) (exec_run (by simp only [exa, beq_self_eq_true, ByteArray.size, Nat.reduceAdd, Nat.reduceLeDiff, Nat.reduceEqDiff, Nat.reduceMul, Int.reduceToNat, reduceIte, Int.reduceLE, Int.reduceNeg]; rfl)) ?_)
         refine ⟨(j + 1, vs, Q2), ⟨hlt, hmid.old hq, hcnt⟩, by simp only; omega, ?_⟩
         rw [hm]
         refine le_mk ?sle ?mle ?swf ?mwf (kept_not hkeep) (by rfl)
         case swf => repeat (first | exact swf_top _ | refine swf_upd ?_ (by simp [A.ids, upd_app, setO, wordsO, wrap_succ (show j + 1 < 9223372036854775808 by omega)]))
         case mwf => repeat (first | exact mwf_nil _ | refine mwf_upd ?_ (by simp [A.ids, O.ids, upd_app, setO, wordsO, wrap_succ (show j + 1 < 9223372036854775808 by omega)]))
         case mle => repeat (first | exact mle_nil _ | exact mle_refl _ | refine mle_upd ?_ (by first | rfl | (simp only [upd_app, killM_app, O.kill, A.kill, Nat.reduceEqDiff, reduceIte, Option.map_some, Option.map_none, List.map_cons, List.map_nil, setO, wordsO, wrap_succ (show j + 1 < 9223372036854775808 by omega)]; done)))
         case sle => repeat (first | exact sle_top _ | exact sle_refl _ | refine sle_upd ?_ (by first | rfl | (simp only [upd_app, killS_app, A.kill, entry_zero, entry_succ, Nat.reduceEqDiff, reduceIte, setO, wordsO, wrap_succ (show j + 1 < 9223372036854775808 by omega)]; done)))
       ·intro hge
        simp only [decide_eq_false_iff_not, Int.ofNat_lt] at hge
        rw [List.drop_of_length_le (by omega)] at hmid
        repeat (first | refine W.seq ?_ | refine W.block ?_ | refine W.skip ?_ | refine W.exit ?_ | refine W.region tab_ok 0 (by decide) (exec_run (by simp only [exa, beq_self_eq_true, ByteArray.size, Nat.reduceAdd, Nat.reduceLeDiff, Nat.reduceEqDiff, Nat.reduceMul, Int.reduceToNat, reduceIte, Int.reduceLE, Int.reduceNeg]; rfl)) ?_)
        refine ⟨(vs, Q2), ⟨hmid.done, by simp only [List.length_append, List.length_cons, List.length_nil] at hbd ⊢; omega⟩, by simp only [List.length_append, List.length_cons, List.length_nil]; omega, ?_⟩
        refine le_mk ?sle ?mle ?swf ?mwf (kept_not hkeep) (by rfl)
        case swf => repeat (first | exact swf_top _ | refine swf_upd ?_ (by simp [A.ids, upd_app, setO, wordsO]))
        case mwf => repeat (first | exact mwf_nil _ | refine mwf_upd ?_ (by simp [A.ids, O.ids, upd_app, setO, wordsO]))
        case mle => repeat (first | exact mle_nil _ | exact mle_refl _ | refine mle_upd ?_ (by first | rfl | (simp only [upd_app, killM_app, O.kill, A.kill, Nat.reduceEqDiff, reduceIte, Option.map_some, Option.map_none, List.map_cons, List.map_nil, setO, wordsO]; done)))
        case sle => repeat (first | exact sle_top _ | exact sle_refl _ | refine sle_upd ?_ (by first | rfl | (simp only [upd_app, killS_app, A.kill, entry_zero, entry_succ, Nat.reduceEqDiff, reduceIte, setO, wordsO]; done)))
     ·intro h; simp at h
end V
end Go.Proofs.YtnmfbaahabcocaaDoor
end
