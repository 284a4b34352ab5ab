/- Joined by my own program, in build order: Mk, Rwb, Pe, Pl, Nm, Pm, Lv, Lw, Lx. -/
import Derived.Test.YtknmcmfdbfhadaaDoorW5
import Derived.Test.YtknmcmfdbfhadaaDoorW4
import Derived.Test.YtknmcmfdbfhadaaDoorW1
set_option linter.unusedVariables false
set_option linter.unusedSimpArgs false
section
/- The reference's Marks, Reach, Path. -/
set_option linter.unusedVariables false
set_option linter.unusedSimpArgs false
namespace Go.Proofs.YtknmcmfdbfhadaaDoor
namespace V
open Go.RowKit G
theorem refPath_ok (n : Int) (l : List (Int × Int)) (hl : l.length ≤ 1000000) (f t : Int) (m : Mem) :
    COk Tryd.prog 23 [.c (.int .i64 n), .c (.sl (l.map cE)), .c (.int .i64 f), .c (.int .i64 t)] m (.tup (pathR n l f t)) := by
  cases hc : chkB n l with
  | false =>
    have hr : pathR n l f t = [(false, [.sl []]), (false, [.int .i64 150])] := by unfold pathR; rw [if_pos hc]
    rw [hr]
    have hk := refCheck_ok n l (by omega)
    rw [hc] at hk
    refine (ok_pure tab_ok Tryd.func23 (by kernel_rfl) rfl rfl (by rfl) (by rfl) (by rfl) (fun R hkeep => ?_) m)
    repeat (first | refine W.seq ?_ | refine W.block ?_ | refine W.skip ?_ | refine W.exit ?_ | refine W.region tab_ok 0 (by decide) (exec_run (by simp only [exa, beq_self_eq_true, ByteArray.size, Nat.reduceAdd, Nat.reduceLeDiff, Nat.reduceEqDiff, Nat.reduceMul, Int.reduceToNat, reduceIte, Int.reduceLE, Int.reduceNeg]; rfl)) ?_)
    refine W.regionK tab_ok 0 (by decide) ?_
    refine runk_split 2 (by simp only [exa, beq_self_eq_true, ByteArray.size, Nat.reduceAdd, Nat.reduceLeDiff, Nat.reduceEqDiff, Nat.reduceMul, Int.reduceToNat, reduceIte, Int.reduceLE, Int.reduceNeg]; rfl) ?_
    refine runk_call rfl rfl rfl rfl rfl (by simp) (cvs_cons cv_refl (cvs_cons cv_refl cvs_nil)) (hk _) ?_
    refine runk_exec (by simp only [exa, beq_self_eq_true, ByteArray.size, Nat.reduceAdd, Nat.reduceLeDiff, Nat.reduceEqDiff, Nat.reduceMul, Int.reduceToNat, reduceIte, Int.reduceLE, Int.reduceNeg]; rfl) ?_
    repeat (first | refine W.seq ?_ | refine W.block ?_ | refine W.skip ?_ | refine W.exit ?_ | refine W.region tab_ok 0 (by decide) (exec_run (by simp only [exa, beq_self_eq_true, ByteArray.size, Nat.reduceAdd, Nat.reduceLeDiff, Nat.reduceEqDiff, Nat.reduceMul, Int.reduceToNat, reduceIte, Int.reduceLE, Int.reduceNeg, errG, Bool.false_eq_true]; rfl)) ?_)
    refine W.cond rfl ?_ ?_
    · intro _
      repeat (first | refine W.seq ?_ | refine W.block ?_ | refine W.skip ?_ | refine W.exit ?_ | refine W.region tab_ok 0 (by decide) (exec_run (by simp only [exa, beq_self_eq_true, ByteArray.size, Nat.reduceAdd, Nat.reduceLeDiff, Nat.reduceEqDiff, Nat.reduceMul, Int.reduceToNat, reduceIte, Int.reduceLE, Int.reduceNeg]; rfl)) ?_)
      refine W.ret ⟨.inr rfl, by rfl, ?_⟩
      simp only [Tryd.f23, resA, resOne, toT, fin, exa, beq_self_eq_true, ByteArray.size, Nat.reduceAdd, Nat.reduceLeDiff, Nat.reduceEqDiff, Nat.reduceMul, Int.reduceToNat, reduceIte, Int.reduceLE, Int.reduceNeg]
    · intro h; cases h
  | true =>
    obtain ⟨N, E, rfl, rfl, hN, hE, e1, e2, e3⟩ := chk_parts hc
    cases hs : (badI N f || badI N t) with
    | true =>
      have hr : pathR N (E.map castE) f t = [(false, [.sl []]), (false, [.int .i64 1])] := by unfold pathR; rw [if_neg (by simp [hc]), if_pos hs]
      rw [hr, cE_cast]
      have hk := nodes_ok N [f, t] (by simp)
      rw [show [f, t].any (badI N) = true by simpa using hs] at hk
      refine (ok_pure tab_ok Tryd.func23 (by kernel_rfl) rfl rfl (by rfl) (by rfl) (by rfl) (fun R hkeep => ?_) m)
      repeat (first | refine W.seq ?_ | refine W.block ?_ | refine W.skip ?_ | refine W.exit ?_ | refine W.region tab_ok 0 (by decide) (exec_run (by simp only [exa, beq_self_eq_true, ByteArray.size, Nat.reduceAdd, Nat.reduceLeDiff, Nat.reduceEqDiff, Nat.reduceMul, Int.reduceToNat, reduceIte, Int.reduceLE, Int.reduceNeg]; rfl)) ?_)
      refine W.regionK tab_ok 0 (by decide) ?_
      refine runk_split 2 (by simp only [exa, beq_self_eq_true, ByteArray.size, Nat.reduceAdd, Nat.reduceLeDiff, Nat.reduceEqDiff, Nat.reduceMul, Int.reduceToNat, reduceIte, Int.reduceLE, Int.reduceNeg]; rfl) ?_
      refine runk_call rfl rfl rfl rfl rfl (by simp) (cvs_cons cv_refl (cvs_cons cv_refl cvs_nil)) (refCheckN_ok hN (by omega) hE _) ?_
      refine runk_exec (by simp only [exa, beq_self_eq_true, ByteArray.size, Nat.reduceAdd, Nat.reduceLeDiff, Nat.reduceEqDiff, Nat.reduceMul, Int.reduceToNat, reduceIte, Int.reduceLE, Int.reduceNeg]; rfl) ?_
      repeat (first | refine W.seq ?_ | refine W.block ?_ | refine W.skip ?_ | refine W.exit ?_ | refine W.region tab_ok 0 (by decide) (exec_run (by simp only [exa, beq_self_eq_true, ByteArray.size, Nat.reduceAdd, Nat.reduceLeDiff, Nat.reduceEqDiff, Nat.reduceMul, Int.reduceToNat, reduceIte, Int.reduceLE, Int.reduceNeg]; rfl)) ?_)
      refine W.cond rfl ?_ ?_
      · intro h; cases h
      intro _
      repeat (first | refine W.seq ?_ | refine W.block ?_ | refine W.skip ?_ | refine W.exit ?_ | refine W.region tab_ok 0 (by decide) (exec_run (by simp only [exa, beq_self_eq_true, ByteArray.size, Nat.reduceAdd, Nat.reduceLeDiff, Nat.reduceEqDiff, Nat.reduceMul, Int.reduceToNat, reduceIte, Int.reduceLE, Int.reduceNeg]; rfl)) ?_)
      refine W.regionK tab_ok 0 (by decide) ?_
      refine runk_split 4 (by simp only [exa, beq_self_eq_true, ByteArray.size, Nat.reduceAdd, Nat.reduceLeDiff, Nat.reduceEqDiff, Nat.reduceMul, Int.reduceToNat, reduceIte, Int.reduceLE, Int.reduceNeg]; rfl) ?_
      refine runk_call rfl rfl rfl rfl rfl (by simp) (cvs_cons cv_refl (cvs_cons cv_refl cvs_nil)) (hk _) ?_
      refine runk_exec (by simp only [exa, beq_self_eq_true, ByteArray.size, Nat.reduceAdd, Nat.reduceLeDiff, Nat.reduceEqDiff, Nat.reduceMul, Int.reduceToNat, reduceIte, Int.reduceLE, Int.reduceNeg]; rfl) ?_
      refine W.cond rfl ?_ ?_
      · intro _
        repeat (first | refine W.seq ?_ | refine W.block ?_ | refine W.skip ?_ | refine W.exit ?_ | refine W.region tab_ok 0 (by decide) (exec_run (by simp only [exa, beq_self_eq_true, ByteArray.size, Nat.reduceAdd, Nat.reduceLeDiff, Nat.reduceEqDiff, Nat.reduceMul, Int.reduceToNat, reduceIte, Int.reduceLE, Int.reduceNeg]; rfl)) ?_)
        refine W.ret ⟨.inr rfl, by rfl, ?_⟩
        simp only [Tryd.f23, resA, resOne, toT, fin, exa, beq_self_eq_true, ByteArray.size, Nat.reduceAdd, Nat.reduceLeDiff, Nat.reduceEqDiff, Nat.reduceMul, Int.reduceToNat, reduceIte, Int.reduceLE, Int.reduceNeg]
      · intro h; cases h
    | false =>
      rw [Bool.or_eq_false_iff] at hs
      obtain ⟨a, rfl, ha, e4⟩ := node_of hs.1
      obtain ⟨b, rfl, hb, e5⟩ := node_of hs.2
      have hr : pathR N (E.map castE) a b = pathA E b a := by
        unfold pathR; rw [if_neg (by simp [hc]), if_neg (by simp [hs]), e2]; rfl
      rw [hr, cE_cast]
      exact refPathG_ok N hN E (by omega) hE a b ha hb _ (pathA_cases E b a) m
theorem take_last2 (ws : List Nat) (x : List C) : (ws.map cN ++ [x]).take ws.length = ws.map cN := by rw [List.take_append_of_le_length (by simp), List.take_of_length_le (by simp)]
/-- A mark for each node. -/
def rowB (n : Nat) (R : Nat → Bool) : List (List C) := (List.range n).map fun i => [.bool (R i)]
theorem rowB_len (n : Nat) (R : Nat → Bool) : (rowB n R).length = n := by simp [rowB]
theorem rowB_at {n k : Nat} {R : Nat → Bool} (h : k < n) : (rowB n R)[k]? = some [.bool (R k)] := by simp [rowB, h]
theorem rowB_set {n k : Nat} {R : Nat → Bool} : (rowB n R).set k [.bool true] = rowB n (G.mark R k) := by
  refine List.ext_getElem? fun i => ?_
  rw [List.getElem?_set, rowB_len]
  by_cases hi : i < n
  · rw [rowB_at hi, rowB_at hi]
    by_cases e : k = i
    · subst e; rw [if_pos rfl, if_pos hi]; simp [G.mark]
    · rw [if_neg e]; simp [G.mark, Ne.symm e]
  · have h1 : (rowB n R)[i]? = none := by rw [List.getElem?_eq_none]; rw [rowB_len]; omega
    have h2 : (rowB n (G.mark R k))[i]? = none := by rw [List.getElem?_eq_none]; rw [rowB_len]; omega
    rw [h1, h2]
    split
    · rw [if_neg (by omega)]
    · rfl
theorem rep_rowB (n : Nat) : List.replicate n [C.bool false] = rowB n (fun _ => false) := by
  refine List.ext_getElem? fun i => ?_
  by_cases hi : i < n
  · rw [rowB_at hi]; simp [hi]
  · rw [List.getElem?_eq_none (by simpa using hi), List.getElem?_eq_none (by rw [rowB_len]; omega)]
def tabA (E : List (Nat × Nat)) (n : Nat) : List (List C) := (List.range n).map fun i => [.sl (adjL E i)]
theorem tabA_at {E : List (Nat × Nat)} {n i : Nat} (h : i < n) : (tabA E n)[i]? = some [.sl ((outs E i).map cN)] := by simp [tabA, h, adjL, cI_zN]
theorem tabA_len (E : List (Nat × Nat)) (n : Nat) : (tabA E n).length = n := by simp [tabA]
set_option maxHeartbeats 4000000 in
theorem marks_ok (n : Nat) (hn : n ≤ 100000) (E : List (Nat × Nat)) (hlen : E.length ≤ 1000000) (hE : ∀ e ∈ E, e.1 < n ∧ e.2 < n) (S : List Nat) (hsl : S.length ≤ 1000000000000) (hS : ∀ i ∈ S, i < n) (m : Mem) :
    COk Tryd.prog 34 [.c (.int .i64 n), .c (.sl (E.map cEd)), .c (.sl (S.map cN))] m (.c (.sl (rowB n (reachB E S)))) := by
  have hm1 : n * 24 ≤ 140737488355328 := by omega
  have hm1' : n * 1 ≤ 140737488355328 := by omega
  have hm1'' : n ≤ 140737488355328 := by omega
  have hm2 : (n : Int) ≤ 9223372036854775807 := by omega
  have hn0 : (0 : Int) ≤ (n : Int) := by omega
  refine (ok_pure tab_ok Tryd.func34 (by kernel_rfl) rfl rfl (by rfl) (by rfl) (by rfl) (fun R hkeep => ?_) m)
  repeat (first | refine W.seq ?_ | refine W.block ?_ | refine W.skip ?_ | refine W.exit ?_ | refine W.region tab_ok 0 (by decide) (exec_run (by simp only [exa, beq_self_eq_true, ByteArray.size, Nat.reduceAdd, Nat.reduceLeDiff, Nat.reduceEqDiff, Nat.reduceMul, Int.reduceToNat, reduceIte, Int.reduceLE, Int.reduceNeg, Int.toNat_natCast, hm1, hm2, hn0, and_self]; rfl)) ?_)
  refine W.famStart false 14 1000 n 31 3 1 rfl (by decide) (fun i _ => ?_) ?_
  · simp only [upd_app, mem_nil_app, Nat.reduceEqDiff, reduceIte]
  refine W.loop (ι := Nat) (fun k => ⟨upd (upd (upd (upd (upd (upd (fun _ => .top) 0 (.c (.int .i64 n))) 2 (.c (.sl (S.map cN)))) 7 (.own 14)) 15 (.c (.sl (E.map cEd)))) 16 (.c (.int .i64 E.length))) 17 (.c (.int .i64 k)),
    upd (famM 1000 n (fun i => rowO false 3 1 (adjL (E.take k) i)) Mem.nil) 14 (some (.rows 31 (tabR 1000 n)))⟩) (fun k => k ≤ E.length) (fun k => E.length - k) 0 ?start (Nat.zero_le _) ?round
  case start =>
    refine le_mk ?sle ?_ ?swf ?mwf (kept_not hkeep) (by rfl)
    case swf => repeat (first | exact swf_top _ | refine swf_upd ?_ (by simp [A.ids, upd_app]))
    case sle => repeat (first | exact sle_top _ | exact sle_refl _ | refine sle_upd ?_ (by first | rfl | (simp only [upd_app, killS_app, A.kill, entry_zero, entry_succ, Nat.reduceEqDiff, reduceIte]; done)))
    case mwf =>
      refine mwf_upd (mwf_fam (mwf_nil _) (fun i hi => by first | exact rowO_ids | rfl)) (fun j hj => ?_)
      obtain ⟨q, hq, rfl⟩ := tabR_ids.1 hj
      simp only [upd_app, Nat.reduceEqDiff, reduceIte, fam_at hq, Option.isSome_some]
    refine mle_upd (mle_fam fun i hi => ?_) (by simp only [exa, beq_self_eq_true, ByteArray.size, Nat.reduceAdd, Nat.reduceLeDiff, Nat.reduceEqDiff, Nat.reduceMul, Int.reduceToNat, reduceIte, Int.reduceLE, Int.reduceNeg]; done)
    simp only [exa, beq_self_eq_true, ByteArray.size, Nat.reduceAdd, Nat.reduceLeDiff, Nat.reduceEqDiff, Nat.reduceMul, Int.reduceToNat, reduceIte, Int.reduceLE, Int.reduceNeg, fam_at hi, adjL]
    rfl
  case round =>
    intro k hk
    repeat (first | refine W.seq ?_ | refine W.block ?_ | refine W.skip ?_ | refine W.exit ?_ | refine W.region tab_ok 0 (by decide) (exec_run (by simp only [exa, beq_self_eq_true, ByteArray.size, Nat.reduceAdd, Nat.reduceLeDiff, Nat.reduceEqDiff, Nat.reduceMul, Int.reduceToNat, reduceIte, Int.reduceLE, Int.reduceNeg]; rfl)) ?_)
    refine W.cond rfl ?_ ?_
    · intro hlt
      simp only [decide_eq_true_eq, Int.ofNat_lt] at hlt
      obtain ⟨⟨f, t⟩, hx⟩ : ∃ x, E[k]? = some x := ⟨_, List.getElem?_eq_getElem hlt⟩
      obtain ⟨hf, ht⟩ := hE _ (List.mem_of_getElem? hx)
      replace hf : f < n := hf
      replace ht : t < n := ht
      have hf0 : (0 : Int) ≤ (f : Int) := by omega
      repeat (first | refine W.seq ?_ | refine W.block ?_ | refine W.skip ?_ | refine W.exit ?_ | refine W.region tab_ok 0 (by decide) (exec_run (by simp only [exa, beq_self_eq_true, ByteArray.size, Nat.reduceAdd, Nat.reduceLeDiff, Nat.reduceEqDiff, Nat.reduceMul, Int.reduceToNat, reduceIte, Int.reduceLE, Int.reduceNeg, at_map hx, cEd]; rfl)) ?_)
      refine W.regionPC tab_ok 0 follows_mixed (by decide) ⟨upd (upd (upd (upd (upd (upd (fun _ => .top) 0 (.c (.int .i64 n))) 2 (.c (.sl (S.map cN)))) 7 (.own 14)) 15 (.c (.sl (E.map cEd)))) 16 (.c (.int .i64 E.length))) 17 (.c (.int .i64 k)),
        upd (famM 1000 n (fun i => rowO false 3 1 (adjL (E.take (k + 1)) i)) Mem.nil) 14 (some (.rows 31 (tabR 1000 n)))⟩ ?_ ?_
      · refine first_exec 3 (by decide +kernel) ⟨_, by simp only [exec1, exa, beq_self_eq_true, ByteArray.size, Nat.reduceAdd, Nat.reduceLeDiff, Nat.reduceEqDiff, Nat.reduceMul, Int.reduceToNat, reduceIte, Int.reduceLE, Int.reduceNeg, hf0, hf, Int.toNat_natCast, tabR_len, and_self]; rfl, ?_⟩
        refine first_exec 4 (by decide +kernel) ⟨_, by simp only [exec1, exa, beq_self_eq_true, ByteArray.size, Nat.reduceAdd, Nat.reduceLeDiff, Nat.reduceEqDiff, Nat.reduceMul, Int.reduceToNat, reduceIte, Int.reduceLE, Int.reduceNeg, hf0, hf, Int.toNat_natCast, tabR_len, and_self]; rfl, ?_⟩
        refine first_exec 5 (by decide +kernel) ⟨_, by simp only [exec1, exa, beq_self_eq_true, ByteArray.size, Nat.reduceAdd, Nat.reduceLeDiff, Nat.reduceEqDiff, Nat.reduceMul, Int.reduceToNat, reduceIte, Int.reduceLE, Int.reduceNeg, hf0, hf, Int.toNat_natCast, tabR_len, and_self]; rfl, ?_⟩
        refine first_exec 6 (by decide +kernel) ⟨_, by simp only [exec1, exa, beq_self_eq_true, ByteArray.size, Nat.reduceAdd, Nat.reduceLeDiff, Nat.reduceEqDiff, Nat.reduceMul, Int.reduceToNat, reduceIte, Int.reduceLE, Int.reduceNeg, hf0, hf, Int.toNat_natCast, tabR_len, and_self]; rfl, ?_⟩
        refine first_exec 7 (by decide +kernel) ⟨_, by simp only [exec1, exa, beq_self_eq_true, ByteArray.size, Nat.reduceAdd, Nat.reduceLeDiff, Nat.reduceEqDiff, Nat.reduceMul, Int.reduceToNat, reduceIte, Int.reduceLE, Int.reduceNeg, hf0, hf, Int.toNat_natCast, tabR_len, and_self, tabR_at hf]; rfl, ?_⟩
        refine first_exec 8 (by decide +kernel) ⟨_, by simp only [exec1, exa, beq_self_eq_true, ByteArray.size, Nat.reduceAdd, Nat.reduceLeDiff, Nat.reduceEqDiff, Nat.reduceMul, Int.reduceToNat, reduceIte, Int.reduceLE, Int.reduceNeg, hf0, hf, Int.toNat_natCast, tabR_len, and_self]; rfl, ?_⟩
        refine first_exec 9 (by decide +kernel) ⟨_, by simp only [exec1, exa, beq_self_eq_true, ByteArray.size, Nat.reduceAdd, Nat.reduceLeDiff, Nat.reduceEqDiff, Nat.reduceMul, Int.reduceToNat, reduceIte, Int.reduceLE, Int.reduceNeg, hf0, hf, Int.toNat_natCast, tabR_len, and_self]; rfl, ?_⟩
        refine first_exec 10 (by decide +kernel) ⟨_, by simp only [exec1, exa, beq_self_eq_true, ByteArray.size, Nat.reduceAdd, Nat.reduceLeDiff, Nat.reduceEqDiff, Nat.reduceMul, Int.reduceToNat, reduceIte, Int.reduceLE, Int.reduceNeg, hf0, hf, Int.toNat_natCast, tabR_len, and_self]; rfl, ?_⟩
        repeat' (first
          | exact trivial
          | refine runsw_end (by decide +kernel) ?_
          | refine first_exec 12 (by decide +kernel) ⟨_, by simp only [exec1, exa, beq_self_eq_true, ByteArray.size, Nat.reduceAdd, Nat.reduceLeDiff, Nat.reduceEqDiff, Nat.reduceMul, Int.reduceToNat, reduceIte, Int.reduceLE, Int.reduceNeg, stO, hf0, hf, Int.toNat_natCast, tabR_len, and_self, tabR_at hf, fam_at hf, List.length_map, tabR_set hf, Option.map_some, Option.map_none]; rfl, ?_⟩
          | refine first_exec 13 (by decide +kernel) ⟨_, by simp only [exec1, exa, beq_self_eq_true, ByteArray.size, Nat.reduceAdd, Nat.reduceLeDiff, Nat.reduceEqDiff, Nat.reduceMul, Int.reduceToNat, reduceIte, Int.reduceLE, Int.reduceNeg, stO, hf0, hf, Int.toNat_natCast, tabR_len, and_self, tabR_at hf, fam_at hf, List.length_map, tabR_set hf, Option.map_some, Option.map_none]; rfl, ?_⟩
          | refine first_exec 0 (by decide +kernel) ⟨_, by simp only [exec1, exa, beq_self_eq_true, ByteArray.size, Nat.reduceAdd, Nat.reduceLeDiff, Nat.reduceEqDiff, Nat.reduceMul, Int.reduceToNat, reduceIte, Int.reduceLE, Int.reduceNeg, stO, hf0, hf, Int.toNat_natCast, tabR_len, and_self, tabR_at hf, fam_at hf, List.length_map, tabR_set hf, Option.map_some, Option.map_none]; rfl, ?_⟩
          | refine first_exec 1 (by decide +kernel) ⟨_, by simp only [exec1, exa, beq_self_eq_true, ByteArray.size, Nat.reduceAdd, Nat.reduceLeDiff, Nat.reduceEqDiff, Nat.reduceMul, Int.reduceToNat, reduceIte, Int.reduceLE, Int.reduceNeg, stO, hf0, hf, Int.toNat_natCast, tabR_len, and_self, tabR_at hf, fam_at hf, List.length_map, tabR_set hf, Option.map_some, Option.map_none]; rfl, ?_⟩
          | refine first_exec 2 (by decide +kernel) ⟨_, by simp only [exec1, exa, beq_self_eq_true, ByteArray.size, Nat.reduceAdd, Nat.reduceLeDiff, Nat.reduceEqDiff, Nat.reduceMul, Int.reduceToNat, reduceIte, Int.reduceLE, Int.reduceNeg, stO, hf0, hf, Int.toNat_natCast, tabR_len, and_self, tabR_at hf, fam_at hf, List.length_map, tabR_set hf, Option.map_some, Option.map_none]; rfl, ?_⟩
          | refine runs_node [0, 1, 11] (by decide +kernel) (by decide) ?_
          | refine runs_node [1, 11] (by decide +kernel) (by decide) ?_
          | refine runs_node [0, 2, 11] (by decide +kernel) (by decide) ?_
          | refine runs_node [2, 11] (by decide +kernel) (by decide) ?_
          | refine runs_node [0, 11] (by decide +kernel) (by decide) ?_
          | refine runs_node [11] (by decide +kernel) (by decide) ?_
          | refine step_exec ⟨_, by simp only [exec1, exa, beq_self_eq_true, ByteArray.size, Nat.reduceAdd, Nat.reduceLeDiff, Nat.reduceEqDiff, Nat.reduceMul, Int.reduceToNat, reduceIte, Int.reduceLE, Int.reduceNeg, stO, hf0, hf, Int.toNat_natCast, tabR_len, and_self, tabR_at hf, fam_at hf, List.length_map, tabR_set hf, Option.map_some, Option.map_none]; rfl, ?_⟩ ?_
          | refine step_append tab_ok rfl (f + 1000) false rfl rfl rfl rfl rfl rfl (by simp only [exa, beq_self_eq_true, ByteArray.size, Nat.reduceAdd, Nat.reduceLeDiff, Nat.reduceEqDiff, Nat.reduceMul, Int.reduceToNat, reduceIte, Int.reduceLE, Int.reduceNeg, stO, hf0, hf, Int.toNat_natCast, tabR_len, and_self, tabR_at hf, fam_at hf, List.length_map, tabR_set hf, Option.map_some, Option.map_none]; done) (by simp only [exa, beq_self_eq_true, ByteArray.size, Nat.reduceAdd, Nat.reduceLeDiff, Nat.reduceEqDiff, Nat.reduceMul, Int.reduceToNat, reduceIte, Int.reduceLE, Int.reduceNeg, stO, hf0, hf, Int.toNat_natCast, tabR_len, and_self, tabR_at hf, fam_at hf, List.length_map, tabR_set hf, Option.map_some, Option.map_none]; rfl) (by simp only [exa, beq_self_eq_true, ByteArray.size, Nat.reduceAdd, Nat.reduceLeDiff, Nat.reduceEqDiff, Nat.reduceMul, Int.reduceToNat, reduceIte, Int.reduceLE, Int.reduceNeg, stO, hf0, hf, Int.toNat_natCast, tabR_len, and_self, tabR_at hf, fam_at hf, List.length_map, tabR_set hf, Option.map_some, Option.map_none]; rfl) rfl rfl rfl rfl (nokeep hkeep) (by simp) (by have := adjL_len E k f; simp only [List.length_cons, List.length_nil]; omega) (by decide) ?_ ?_)
        all_goals
          refine le_mk ?sle ?_ ?swf ?mwf (kept_not hkeep) (by rfl)
          case swf => repeat (first | exact swf_top _ | refine swf_upd ?_ (by simp [A.ids, upd_app]))
          case sle => repeat (first | exact sle_top _ | exact sle_refl _ | refine sle_upd ?_ (by first | rfl | (simp only [upd_app, killS_app, A.kill, entry_zero, entry_succ, Nat.reduceEqDiff, reduceIte, tabR_set hf, Option.map_some, Option.map_none]; done)))
          case mwf =>
            refine mwf_upd (mwf_fam (mwf_nil _) (fun i hi => by first | exact rowO_ids | rfl)) (fun j hj => ?_)
            obtain ⟨q, hq, rfl⟩ := tabR_ids.1 hj
            simp only [upd_app, Nat.reduceEqDiff, reduceIte, fam_at hq, Option.isSome_some]
          refine mle_upd (mle_fam fun i hi => ?_) (by simp only [exa, beq_self_eq_true, ByteArray.size, Nat.reduceAdd, Nat.reduceLeDiff, Nat.reduceEqDiff, Nat.reduceMul, Int.reduceToNat, reduceIte, Int.reduceLE, Int.reduceNeg, tabR_set hf, Option.map_some, Option.map_none]; done)
          rw [adjL_next hx]
          by_cases e : i = f
          · subst e
            simp only [exa, beq_self_eq_true, ByteArray.size, Nat.reduceAdd, Nat.reduceLeDiff, Nat.reduceEqDiff, Nat.reduceMul, Int.reduceToNat, reduceIte, Int.reduceLE, Int.reduceNeg, fam_at hi, Option.map_some, Option.map_none]
            rfl
          · simp only [exa, beq_self_eq_true, ByteArray.size, Nat.reduceAdd, Nat.reduceLeDiff, Nat.reduceEqDiff, Nat.reduceMul, Int.reduceToNat, reduceIte, Int.reduceLE, Int.reduceNeg, fam_at hi, e, Nat.add_right_cancel_iff, Option.map_some, kill_rowO]
            rfl
      · intro st' hle
        refine W.weaken hle ?_
        repeat (first | refine W.seq ?_ | refine W.block ?_ | refine W.skip ?_ | refine W.exit ?_ | refine W.region tab_ok 0 (by decide) (exec_run (by simp only [exa, beq_self_eq_true, ByteArray.size, Nat.reduceAdd, Nat.reduceLeDiff, Nat.reduceEqDiff, Nat.reduceMul, Int.reduceToNat, reduceIte, Int.reduceLE, Int.reduceNeg]; rfl)) ?_)
        refine ⟨k + 1, hlt, by omega, ?_⟩
        refine le_mk ?sle ?_ ?swf ?mwf (kept_not hkeep) (by rfl)
        case swf => repeat (first | exact swf_top _ | refine swf_upd ?_ (by simp [A.ids, upd_app]))
        case sle => repeat (first | exact sle_top _ | exact sle_refl _ | refine sle_upd ?_ (by first | rfl | (simp only [upd_app, killS_app, A.kill, entry_zero, entry_succ, Nat.reduceEqDiff, reduceIte, wrap_succ (show k + 1 < 9223372036854775808 by omega)]; done)))
        case mwf =>
          refine mwf_upd (mwf_fam (mwf_nil _) (fun i hi => by first | exact rowO_ids | rfl)) (fun j hj => ?_)
          obtain ⟨q, hq, rfl⟩ := tabR_ids.1 hj
          simp only [upd_app, Nat.reduceEqDiff, reduceIte, fam_at hq, Option.isSome_some]
        refine mle_upd (mle_fam fun i hi => ?_) (by simp only [exa, beq_self_eq_true, ByteArray.size, Nat.reduceAdd, Nat.reduceLeDiff, Nat.reduceEqDiff, Nat.reduceMul, Int.reduceToNat, reduceIte, Int.reduceLE, Int.reduceNeg, wrap_succ (show k + 1 < 9223372036854775808 by omega)]; done)
        simp only [exa, beq_self_eq_true, ByteArray.size, Nat.reduceAdd, Nat.reduceLeDiff, Nat.reduceEqDiff, Nat.reduceMul, Int.reduceToNat, reduceIte, Int.reduceLE, Int.reduceNeg, fam_at hi]
    · intro hge
      simp only [decide_eq_false_iff_not, Int.ofNat_lt] at hge
      obtain rfl : k = E.length := by omega
      rw [List.take_length]
      (repeat (first | refine W.seq ?_ | refine W.block ?_ | refine W.skip ?_ | refine W.exit ?_))
      refine W.tabData 7 14 1000 n (e := 3) (ce := 1) (L := fun i => adjL E i) (upd (upd (fun _ => .top) 0 (.c (.int .i64 n))) 2 (.c (.sl (S.map cN)))) hkeep rfl rfl (fun i hi => ?_) (fun u => ?_) rfl (by decide) ?_
      · simp only [exa, beq_self_eq_true, ByteArray.size, Nat.reduceAdd, Nat.reduceLeDiff, Nat.reduceEqDiff, Nat.reduceMul, Int.reduceToNat, reduceIte, Int.reduceLE, Int.reduceNeg, fam_at hi]
        rfl
      · by_cases h0 : u = 0
        · subst h0; exact .inr ⟨rfl, rfl⟩
        · by_cases h2 : u = 2
          · subst h2; exact .inr ⟨rfl, rfl⟩
          · exact .inl (by simp [upd_app, h0, h2])
      have hta : ((List.range n).map fun i => [C.sl (adjL E i)]) = tabA E n := rfl
      rw [hta]
      (repeat (first | refine W.seq ?_ | refine W.block ?_ | refine W.skip ?_ | refine W.exit ?_))
      refine W.region tab_ok 0 (by decide) (exec_run (by simp only [exa, beq_self_eq_true, ByteArray.size, Nat.reduceAdd, Nat.reduceLeDiff, Nat.reduceEqDiff, Nat.reduceMul, Int.reduceToNat, reduceIte, Int.reduceLE, Int.reduceNeg, Int.toNat_natCast, hm1', hm1'', hm2, hn0, and_self, Bool.false_eq_true, rep_rowB, Nat.mul_one]; rfl)) ?_
      (repeat (first | refine W.seq ?_ | refine W.block ?_ | refine W.skip ?_ | refine W.exit ?_))
      refine W.regionK tab_ok 0 (by decide) ?_
      refine runk_split 1 (by simp only [exa, beq_self_eq_true, ByteArray.size, Nat.reduceAdd, Nat.reduceLeDiff, Nat.reduceEqDiff, Nat.reduceMul, Int.reduceToNat, reduceIte, Int.reduceLE, Int.reduceNeg]; rfl) ?_
      refine runk_appendNil tab_ok 200 false rfl rfl rfl rfl rfl rfl rfl (by simp only [exa, beq_self_eq_true, ByteArray.size, Nat.reduceAdd, Nat.reduceLeDiff, Nat.reduceEqDiff, Nat.reduceMul, Int.reduceToNat, reduceIte, Int.reduceLE, Int.reduceNeg]) (by first | rfl | (simp only [exa, beq_self_eq_true, ByteArray.size, Nat.reduceAdd, Nat.reduceLeDiff, Nat.reduceEqDiff, Nat.reduceMul, Int.reduceToNat, reduceIte, Int.reduceLE, Int.reduceNeg]; rfl)) rfl rfl rfl rfl (fun z hz => by obtain ⟨y, -, rfl⟩ := List.mem_map.1 hz; rfl) (by rw [List.length_map]; omega) (by decide) ?_
      refine runk_exec (by simp only [exa, beq_self_eq_true, ByteArray.size, Nat.reduceAdd, Nat.reduceLeDiff, Nat.reduceEqDiff, Nat.reduceMul, Int.reduceToNat, reduceIte, Int.reduceLE, Int.reduceNeg]; rfl) ?_
      (repeat (first | refine W.seq ?_ | refine W.block ?_ | refine W.skip ?_ | refine W.exit ?_))
      have hpot : ∀ Q : Nat → Bool, pot (outs E) Q n ≤ 100000000000 := fun Q => by
        have := pot_le (outs E) Q E.length (fun i => outs_len E i) n
        have : n * E.length ≤ 100000 * 1000000 := Nat.mul_le_mul hn hlen
        omega
      refine W.loop (ι := List Nat × (Nat → Bool)) (fun x => ⟨upd (upd (upd (fun _ => .top) 7 (.c (.sl (tabA E n)))) 10 (.own 36)) 11 (.own 200),
          upd (upd Mem.nil 36 (some (.mrow 4 1 (rowB n x.2)))) 200 (some (.mrow 3 1 (x.1.map cN)))⟩) (fun x => MInv E S n x.1 x.2 ∧ pot (outs E) x.2 n + x.1.length ≤ S.length + 100000000000) (fun x => pot (outs E) x.2 n + x.1.length) (S, fun _ => false) ?start2
          ⟨⟨hS, fun i hi => .here hi, (fun i hi => by cases hi), (fun i hi => by cases hi), (fun s hs => .inr hs)⟩, by have := hpot (fun _ => false); simp only; omega⟩ ?round2
      case start2 =>
        refine le_mk ?sle ?mle ?swf ?mwf (kept_not hkeep) (by rfl)
        case swf => repeat (first | exact swf_top _ | refine swf_upd ?_ (by simp [A.ids, upd_app, Bool.false_eq_true, if_false]))
        case mwf => repeat (first | exact mwf_nil _ | refine mwf_upd ?_ (by simp [A.ids, O.ids, upd_app, Bool.false_eq_true, if_false]))
        case mle => repeat (first | exact mle_nil _ | exact mle_refl _ | refine mle_upd ?_ (by first | rfl | (simp only [upd_app, killM_app, O.kill, A.kill, Nat.reduceEqDiff, reduceIte, Option.map_some, Option.map_none, List.map_cons, List.map_nil, Bool.false_eq_true, if_false]; done)))
        case sle => repeat (first | exact sle_top _ | exact sle_refl _ | refine sle_upd ?_ (by first | rfl | (simp only [upd_app, killS_app, A.kill, entry_zero, entry_succ, Nat.reduceEqDiff, reduceIte, Bool.false_eq_true, if_false]; done)))
      case round2 =>
        rintro ⟨ws, Q⟩ ⟨hinv, hbd⟩
        simp only at hinv hbd
        rcases list_last ws with rfl | ⟨ws, i, rfl⟩
        · repeat (first | refine W.seq ?_ | refine W.block ?_ | refine W.skip ?_ | refine W.exit ?_ | refine W.region tab_ok 0 (by decide) (exec_run (by simp only [exa, beq_self_eq_true, ByteArray.size, Nat.reduceAdd, Nat.reduceLeDiff, Nat.reduceEqDiff, Nat.reduceMul, Int.reduceToNat, reduceIte, Int.reduceLE, Int.reduceNeg]; rfl)) ?_)
          refine W.cond rfl ?_ ?_
          · intro h; simp at h
          · intro _
            repeat (first | refine W.seq ?_ | refine W.block ?_ | refine W.skip ?_ | refine W.exit ?_ | refine W.region tab_ok 0 (by decide) (exec_run (by simp only [exa, beq_self_eq_true, ByteArray.size, Nat.reduceAdd, Nat.reduceLeDiff, Nat.reduceEqDiff, Nat.reduceMul, Int.reduceToNat, reduceIte, Int.reduceLE, Int.reduceNeg]; rfl)) ?_)
            refine W.freeze 6 36 rfl (by simp only [exa, beq_self_eq_true, ByteArray.size, Nat.reduceAdd, Nat.reduceLeDiff, Nat.reduceEqDiff, Nat.reduceMul, Int.reduceToNat, reduceIte, Int.reduceLE, Int.reduceNeg]; rfl) (nokeep hkeep) ?_
            refine W.ret ⟨.inr rfl, by rfl, ?_⟩
            simp only [Tryd.f34, resA, resOne, toT, fin, exa, beq_self_eq_true, ByteArray.size, Nat.reduceAdd, Nat.reduceLeDiff, Nat.reduceEqDiff, Nat.reduceMul, Int.reduceToNat, reduceIte, Int.reduceLE, Int.reduceNeg]
            rw [reachB_of (hinv.done)]
        · have hi : i < n := hinv.lt i (by simp)
          have hi0 : (0 : Int) ≤ (i : Int) := by omega
          have hbl : ws.length + 1 ≤ S.length + 100000000000 := by simp only [List.length_append, List.length_cons, List.length_nil] at hbd; omega
          have hw1 := wrap_last (k := ws.length) (by omega)
          have hle : ws.length ≤ ws.length + 1 := by omega
          have hol := outs_len E i
          repeat (first | refine W.seq ?_ | refine W.block ?_ | refine W.skip ?_ | refine W.exit ?_ | refine W.region tab_ok 0 (by decide) (exec_run (by simp only [exa, beq_self_eq_true, ByteArray.size, Nat.reduceAdd, Nat.reduceLeDiff, Nat.reduceEqDiff, Nat.reduceMul, Int.reduceToNat, reduceIte, Int.reduceLE, Int.reduceNeg, List.length_map, List.length_append]; rfl)) ?_)
          refine W.cond rfl ?_ ?_
          · intro _
            repeat (first | refine W.seq ?_ | refine W.block ?_ | refine W.skip ?_ | refine W.exit ?_ | refine W.region tab_ok 0 (by decide) (exec_run (by simp only [exa, beq_self_eq_true, ByteArray.size, Nat.reduceAdd, Nat.reduceLeDiff, Nat.reduceEqDiff, Nat.reduceMul, Int.reduceToNat, reduceIte, Int.reduceLE, Int.reduceNeg, List.length_map, List.length_append, hw1, last_at, cN, Int.toNat_natCast, Nat.lt_succ_self, and_self, Nat.zero_le, hle, rowB_at hi, rowB_len, hi, hi0]; rfl)) ?_)
            refine W.rewin 11 200 (by decide) rfl (by simp only [exa, beq_self_eq_true, ByteArray.size, Nat.reduceAdd, Nat.reduceLeDiff, Nat.reduceEqDiff, Nat.reduceMul, Int.reduceToNat, reduceIte, Int.reduceLE, Int.reduceNeg]; rfl) (by simp only [List.length_map, List.length_append, List.length_cons, List.length_nil]; omega) (nokeep hkeep) ?_
            refine W.cond rfl ?_ ?_
            · intro hq
              have hq : Q i = false := by simpa using hq
              have hpm := pot_mark (outs E) Q i hq n
              rw [if_pos hi] at hpm
              (repeat (first | refine W.seq ?_ | refine W.block ?_ | refine W.skip ?_ | refine W.exit ?_))
              refine W.region tab_ok 0 (by decide) (exec_run (by simp only [exa, beq_self_eq_true, ByteArray.size, Nat.reduceAdd, Nat.reduceLeDiff, Nat.reduceEqDiff, Nat.reduceMul, Int.reduceToNat, reduceIte, Int.reduceLE, Int.reduceNeg, rowB_at hi, rowB_len, hi, hi0, Int.toNat_natCast, and_self, rowB_set]; rfl)) ?_
              (repeat (first | refine W.seq ?_ | refine W.block ?_ | refine W.skip ?_ | refine W.exit ?_))
              refine W.regionK tab_ok 0 (by decide) ?_
              refine runk_split 5 (by simp only [exa, beq_self_eq_true, ByteArray.size, Nat.reduceAdd, Nat.reduceLeDiff, Nat.reduceEqDiff, Nat.reduceMul, Int.reduceToNat, reduceIte, Int.reduceLE, Int.reduceNeg, tabA_at hi, tabA_len, hi, hi0, Int.toNat_natCast, and_self, take_last]; rfl) ?_
              refine runk_appendM tab_ok 200 rfl rfl rfl rfl rfl rfl (by simp only [exa, beq_self_eq_true, ByteArray.size, Nat.reduceAdd, Nat.reduceLeDiff, Nat.reduceEqDiff, Nat.reduceMul, Int.reduceToNat, reduceIte, Int.reduceLE, Int.reduceNeg, tabA_at hi, tabA_len, hi, hi0, Int.toNat_natCast, and_self, take_last]) (by simp only [exa, beq_self_eq_true, ByteArray.size, Nat.reduceAdd, Nat.reduceLeDiff, Nat.reduceEqDiff, Nat.reduceMul, Int.reduceToNat, reduceIte, Int.reduceLE, Int.reduceNeg, tabA_at hi, tabA_len, hi, hi0, Int.toNat_natCast, and_self, take_last]; rfl) (by first | rfl | (simp only [exa, beq_self_eq_true, ByteArray.size, Nat.reduceAdd, Nat.reduceLeDiff, Nat.reduceEqDiff, Nat.reduceMul, Int.reduceToNat, reduceIte, Int.reduceLE, Int.reduceNeg, tabA_at hi, tabA_len, hi, hi0, Int.toNat_natCast, and_self, take_last]; rfl)) rfl rfl rfl rfl (nokeep hkeep) (fun z hz => by obtain ⟨y, -, rfl⟩ := List.mem_map.1 hz; rfl) (by simp only [List.length_map, List.length_append, List.length_cons, List.length_nil, List.length_take, List.length_drop]; simp only [List.length_append, List.length_cons, List.length_nil] at hbd; omega) (by decide) ?_
              refine runk_exec (by simp only [exa, beq_self_eq_true, ByteArray.size, Nat.reduceAdd, Nat.reduceLeDiff, Nat.reduceEqDiff, Nat.reduceMul, Int.reduceToNat, reduceIte, Int.reduceLE, Int.reduceNeg]; rfl) ?_
              refine ⟨(ws ++ outs E i, G.mark Q i), ⟨hinv.take hE, ?_⟩, ?_, ?_⟩
              · simp only [List.length_append, List.length_cons, List.length_nil] at hbd ⊢; omega
              · simp only [List.length_append, List.length_cons, List.length_nil]; omega
              refine le_mk ?sle ?mle ?swf ?mwf (kept_not hkeep) (by rfl)
              case swf => repeat (first | exact swf_top _ | refine swf_upd ?_ (by simp [A.ids, upd_app, take_last, take_last2, List.map_append, List.map_cons, List.map_nil, List.drop_zero]))
              case mwf => repeat (first | exact mwf_nil _ | refine mwf_upd ?_ (by simp [A.ids, O.ids, upd_app, take_last, take_last2, List.map_append, List.map_cons, List.map_nil, List.drop_zero]))
              case mle => repeat (first | exact mle_nil _ | exact mle_refl _ | refine mle_upd ?_ (by first | rfl | (simp only [upd_app, killM_app, O.kill, A.kill, Nat.reduceEqDiff, reduceIte, Option.map_some, Option.map_none, List.map_cons, List.map_nil, take_last, take_last2, List.map_append, List.map_cons, List.map_nil, List.drop_zero]; done)))
              case sle => repeat (first | exact sle_top _ | exact sle_refl _ | refine sle_upd ?_ (by first | rfl | (simp only [upd_app, killS_app, A.kill, entry_zero, entry_succ, Nat.reduceEqDiff, reduceIte, take_last, take_last2, List.map_append, List.map_cons, List.map_nil, List.drop_zero]; done)))
            · intro hq
              have hq : Q i = true := by simpa using hq
              repeat (first | refine W.seq ?_ | refine W.block ?_ | refine W.skip ?_ | refine W.exit ?_ | refine W.region tab_ok 0 (by decide) (exec_run (by simp only [exa, beq_self_eq_true, ByteArray.size, Nat.reduceAdd, Nat.reduceLeDiff, Nat.reduceEqDiff, Nat.reduceMul, Int.reduceToNat, reduceIte, Int.reduceLE, Int.reduceNeg]; rfl)) ?_)
              refine ⟨(ws, Q), ⟨hinv.skip hq, ?_⟩, ?_, ?_⟩
              · simp only [List.length_append, List.length_cons, List.length_nil] at hbd ⊢; omega
              · simp only [List.length_append, List.length_cons, List.length_nil]; omega
              refine le_mk ?sle ?mle ?swf ?mwf (kept_not hkeep) (by rfl)
              case swf => repeat (first | exact swf_top _ | refine swf_upd ?_ (by simp [A.ids, upd_app, take_last]))
              case mwf => repeat (first | exact mwf_nil _ | refine mwf_upd ?_ (by simp [A.ids, O.ids, upd_app, take_last]))
              case mle => repeat (first | exact mle_nil _ | exact mle_refl _ | refine mle_upd ?_ (by first | rfl | (simp only [upd_app, killM_app, O.kill, A.kill, Nat.reduceEqDiff, reduceIte, Option.map_some, Option.map_none, List.map_cons, List.map_nil, take_last]; done)))
              case sle => repeat (first | exact sle_top _ | exact sle_refl _ | refine sle_upd ?_ (by first | rfl | (simp only [upd_app, killS_app, A.kill, entry_zero, entry_succ, Nat.reduceEqDiff, reduceIte, take_last]; done)))
          · intro h; simp at h
theorem range_next {Q : Nat → Bool} {k : Nat} : (List.range (k + 1)).filter Q = (List.range k).filter Q ++ (if Q k = true then [k] else []) := by
  rw [List.range_succ, List.filter_append]
  congr 1
  by_cases h : Q k = true
  · simp [h]
  · simp [h]
theorem refReach_ok (n : Int) (l : List (Int × Int)) (hl : l.length ≤ 1000000) (src : List Int) (hsl : src.length ≤ 1000000000000) (m : Mem) :
    COk Tryd.prog 18 [.c (.int .i64 n), .c (.sl (l.map cE)), .c (.sl (src.map cZ))] m (.tup (reachR n l src)) := by
  cases hc : chkB n l with
  | false =>
    have hr : reachR n l src = [(false, [.sl []]), (false, [.int .i64 150])] := by unfold reachR; rw [if_pos hc]
    rw [hr]
    have hk := refCheck_ok n l (by omega)
    rw [hc] at hk
    refine (ok_pure tab_ok Tryd.func18 (by kernel_rfl) rfl rfl (by rfl) (by rfl) (by rfl) (fun R hkeep => ?_) m)
    repeat (first | refine W.seq ?_ | refine W.block ?_ | refine W.skip ?_ | refine W.exit ?_ | refine W.region tab_ok 0 (by decide) (exec_run (by simp only [exa, beq_self_eq_true, ByteArray.size, Nat.reduceAdd, Nat.reduceLeDiff, Nat.reduceEqDiff, Nat.reduceMul, Int.reduceToNat, reduceIte, Int.reduceLE, Int.reduceNeg]; rfl)) ?_)
    refine W.regionK tab_ok 0 (by decide) ?_
    refine runk_split 2 (by simp only [exa, beq_self_eq_true, ByteArray.size, Nat.reduceAdd, Nat.reduceLeDiff, Nat.reduceEqDiff, Nat.reduceMul, Int.reduceToNat, reduceIte, Int.reduceLE, Int.reduceNeg]; rfl) ?_
    refine runk_call rfl rfl rfl rfl rfl (by simp) (cvs_cons cv_refl (cvs_cons cv_refl cvs_nil)) (hk _) ?_
    refine runk_exec (by simp only [exa, beq_self_eq_true, ByteArray.size, Nat.reduceAdd, Nat.reduceLeDiff, Nat.reduceEqDiff, Nat.reduceMul, Int.reduceToNat, reduceIte, Int.reduceLE, Int.reduceNeg]; rfl) ?_
    repeat (first | refine W.seq ?_ | refine W.block ?_ | refine W.skip ?_ | refine W.exit ?_ | refine W.region tab_ok 0 (by decide) (exec_run (by simp only [exa, beq_self_eq_true, ByteArray.size, Nat.reduceAdd, Nat.reduceLeDiff, Nat.reduceEqDiff, Nat.reduceMul, Int.reduceToNat, reduceIte, Int.reduceLE, Int.reduceNeg, errG, Bool.false_eq_true]; rfl)) ?_)
    refine W.cond rfl ?_ ?_
    · intro _
      repeat (first | refine W.seq ?_ | refine W.block ?_ | refine W.skip ?_ | refine W.exit ?_ | refine W.region tab_ok 0 (by decide) (exec_run (by simp only [exa, beq_self_eq_true, ByteArray.size, Nat.reduceAdd, Nat.reduceLeDiff, Nat.reduceEqDiff, Nat.reduceMul, Int.reduceToNat, reduceIte, Int.reduceLE, Int.reduceNeg]; rfl)) ?_)
      refine W.ret ⟨.inr rfl, by rfl, ?_⟩
      simp only [Tryd.f18, resA, resOne, toT, fin, exa, beq_self_eq_true, ByteArray.size, Nat.reduceAdd, Nat.reduceLeDiff, Nat.reduceEqDiff, Nat.reduceMul, Int.reduceToNat, reduceIte, Int.reduceLE, Int.reduceNeg]
    · intro h; cases h
  | true =>
    obtain ⟨N, E, rfl, rfl, hN, hE, e1, e2, e3⟩ := chk_parts hc
    cases hs : src.any (badI N) with
    | true =>
      have hr : reachR N (E.map castE) src = [(false, [.sl []]), (false, [.int .i64 1])] := by unfold reachR; rw [if_neg (by simp [hc]), if_pos hs]
      rw [hr, cE_cast]
      have hk := nodes_ok N src hsl
      rw [hs] at hk
      refine (ok_pure tab_ok Tryd.func18 (by kernel_rfl) rfl rfl (by rfl) (by rfl) (by rfl) (fun R hkeep => ?_) m)
      repeat (first | refine W.seq ?_ | refine W.block ?_ | refine W.skip ?_ | refine W.exit ?_ | refine W.region tab_ok 0 (by decide) (exec_run (by simp only [exa, beq_self_eq_true, ByteArray.size, Nat.reduceAdd, Nat.reduceLeDiff, Nat.reduceEqDiff, Nat.reduceMul, Int.reduceToNat, reduceIte, Int.reduceLE, Int.reduceNeg]; rfl)) ?_)
      refine W.regionK tab_ok 0 (by decide) ?_
      refine runk_split 2 (by simp only [exa, beq_self_eq_true, ByteArray.size, Nat.reduceAdd, Nat.reduceLeDiff, Nat.reduceEqDiff, Nat.reduceMul, Int.reduceToNat, reduceIte, Int.reduceLE, Int.reduceNeg]; rfl) ?_
      refine runk_call rfl rfl rfl rfl rfl (by simp) (cvs_cons cv_refl (cvs_cons cv_refl cvs_nil)) (refCheckN_ok hN (by omega) hE _) ?_
      refine runk_exec (by simp only [exa, beq_self_eq_true, ByteArray.size, Nat.reduceAdd, Nat.reduceLeDiff, Nat.reduceEqDiff, Nat.reduceMul, Int.reduceToNat, reduceIte, Int.reduceLE, Int.reduceNeg]; rfl) ?_
      repeat (first | refine W.seq ?_ | refine W.block ?_ | refine W.skip ?_ | refine W.exit ?_ | refine W.region tab_ok 0 (by decide) (exec_run (by simp only [exa, beq_self_eq_true, ByteArray.size, Nat.reduceAdd, Nat.reduceLeDiff, Nat.reduceEqDiff, Nat.reduceMul, Int.reduceToNat, reduceIte, Int.reduceLE, Int.reduceNeg]; rfl)) ?_)
      refine W.cond rfl ?_ ?_
      · intro h; cases h
      intro _
      repeat (first | refine W.seq ?_ | refine W.block ?_ | refine W.skip ?_ | refine W.exit ?_ | refine W.region tab_ok 0 (by decide) (exec_run (by simp only [exa, beq_self_eq_true, ByteArray.size, Nat.reduceAdd, Nat.reduceLeDiff, Nat.reduceEqDiff, Nat.reduceMul, Int.reduceToNat, reduceIte, Int.reduceLE, Int.reduceNeg]; rfl)) ?_)
      refine W.regionK tab_ok 0 (by decide) ?_
      refine runk_split 2 (by simp only [exa, beq_self_eq_true, ByteArray.size, Nat.reduceAdd, Nat.reduceLeDiff, Nat.reduceEqDiff, Nat.reduceMul, Int.reduceToNat, reduceIte, Int.reduceLE, Int.reduceNeg]; rfl) ?_
      refine runk_call rfl rfl rfl rfl rfl (by simp) (cvs_cons cv_refl (cvs_cons cv_refl cvs_nil)) (hk _) ?_
      refine runk_exec (by simp only [exa, beq_self_eq_true, ByteArray.size, Nat.reduceAdd, Nat.reduceLeDiff, Nat.reduceEqDiff, Nat.reduceMul, Int.reduceToNat, reduceIte, Int.reduceLE, Int.reduceNeg]; rfl) ?_
      refine W.cond rfl ?_ ?_
      · intro _
        repeat (first | refine W.seq ?_ | refine W.block ?_ | refine W.skip ?_ | refine W.exit ?_ | refine W.region tab_ok 0 (by decide) (exec_run (by simp only [exa, beq_self_eq_true, ByteArray.size, Nat.reduceAdd, Nat.reduceLeDiff, Nat.reduceEqDiff, Nat.reduceMul, Int.reduceToNat, reduceIte, Int.reduceLE, Int.reduceNeg]; rfl)) ?_)
        refine W.ret ⟨.inr rfl, by rfl, ?_⟩
        simp only [Tryd.f18, resA, resOne, toT, fin, exa, beq_self_eq_true, ByteArray.size, Nat.reduceAdd, Nat.reduceLeDiff, Nat.reduceEqDiff, Nat.reduceMul, Int.reduceToNat, reduceIte, Int.reduceLE, Int.reduceNeg]
      · intro h; cases h
    | false =>
      obtain ⟨S, rfl, hS, e4, e5⟩ := any_parts hs
      have hr : reachR N (E.map castE) (S.map fun i : Nat => (i : Int)) = [(false, [.sl ((reachL E S N).map cN)]), (false, [.int .i64 0])] := by
        unfold reachR; rw [if_neg (by simp [hc]), if_neg (by simp [hs]), e1, e2, e4]
      rw [hr, cE_cast, cZ_cast]
      refine (ok_pure tab_ok Tryd.func18 (by kernel_rfl) rfl rfl (by rfl) (by rfl) (by rfl) (fun R hkeep => ?_) m)
      repeat (first | refine W.seq ?_ | refine W.block ?_ | refine W.skip ?_ | refine W.exit ?_ | refine W.region tab_ok 0 (by decide) (exec_run (by simp only [exa, beq_self_eq_true, ByteArray.size, Nat.reduceAdd, Nat.reduceLeDiff, Nat.reduceEqDiff, Nat.reduceMul, Int.reduceToNat, reduceIte, Int.reduceLE, Int.reduceNeg]; rfl)) ?_)
      refine W.regionK tab_ok 0 (by decide) ?_
      refine runk_split 2 (by simp only [exa, beq_self_eq_true, ByteArray.size, Nat.reduceAdd, Nat.reduceLeDiff, Nat.reduceEqDiff, Nat.reduceMul, Int.reduceToNat, reduceIte, Int.reduceLE, Int.reduceNeg]; rfl) ?_
      refine runk_call rfl rfl rfl rfl rfl (by simp) (cvs_cons cv_refl (cvs_cons cv_refl cvs_nil)) (refCheckN_ok hN (by omega) hE _) ?_
      refine runk_exec (by simp only [exa, beq_self_eq_true, ByteArray.size, Nat.reduceAdd, Nat.reduceLeDiff, Nat.reduceEqDiff, Nat.reduceMul, Int.reduceToNat, reduceIte, Int.reduceLE, Int.reduceNeg]; rfl) ?_
      repeat (first | refine W.seq ?_ | refine W.block ?_ | refine W.skip ?_ | refine W.exit ?_ | refine W.region tab_ok 0 (by decide) (exec_run (by simp only [exa, beq_self_eq_true, ByteArray.size, Nat.reduceAdd, Nat.reduceLeDiff, Nat.reduceEqDiff, Nat.reduceMul, Int.reduceToNat, reduceIte, Int.reduceLE, Int.reduceNeg]; rfl)) ?_)
      refine W.cond rfl ?_ ?_
      · intro h; cases h
      intro _
      repeat (first | refine W.seq ?_ | refine W.block ?_ | refine W.skip ?_ | refine W.exit ?_ | refine W.region tab_ok 0 (by decide) (exec_run (by simp only [exa, beq_self_eq_true, ByteArray.size, Nat.reduceAdd, Nat.reduceLeDiff, Nat.reduceEqDiff, Nat.reduceMul, Int.reduceToNat, reduceIte, Int.reduceLE, Int.reduceNeg]; rfl)) ?_)
      refine W.regionK tab_ok 0 (by decide) ?_
      refine runk_split 2 (by simp only [exa, beq_self_eq_true, ByteArray.size, Nat.reduceAdd, Nat.reduceLeDiff, Nat.reduceEqDiff, Nat.reduceMul, Int.reduceToNat, reduceIte, Int.reduceLE, Int.reduceNeg]; rfl) ?_
      refine runk_call rfl rfl rfl rfl rfl (by simp) (cvs_cons cv_refl (cvs_cons cv_refl cvs_nil)) (nodesN_ok (by omega) hS _) ?_
      refine runk_exec (by simp only [exa, beq_self_eq_true, ByteArray.size, Nat.reduceAdd, Nat.reduceLeDiff, Nat.reduceEqDiff, Nat.reduceMul, Int.reduceToNat, reduceIte, Int.reduceLE, Int.reduceNeg]; rfl) ?_
      refine W.cond rfl ?_ ?_
      · intro h; cases h
      intro _
      repeat (first | refine W.seq ?_ | refine W.block ?_ | refine W.skip ?_ | refine W.exit ?_ | refine W.region tab_ok 0 (by decide) (exec_run (by simp only [exa, beq_self_eq_true, ByteArray.size, Nat.reduceAdd, Nat.reduceLeDiff, Nat.reduceEqDiff, Nat.reduceMul, Int.reduceToNat, reduceIte, Int.reduceLE, Int.reduceNeg]; rfl)) ?_)
      refine W.regionK tab_ok 0 (by decide) ?_
      refine runk_split 3 (by simp only [exa, beq_self_eq_true, ByteArray.size, Nat.reduceAdd, Nat.reduceLeDiff, Nat.reduceEqDiff, Nat.reduceMul, Int.reduceToNat, reduceIte, Int.reduceLE, Int.reduceNeg]; rfl) ?_
      refine runk_call rfl rfl rfl rfl rfl (by simp) (cvs_cons cv_refl (cvs_cons cv_refl (cvs_cons cv_refl cvs_nil))) (marks_ok N hN E (by omega) hE S (by omega) hS _) ?_
      refine runk_exec (by simp only [exa, beq_self_eq_true, ByteArray.size, Nat.reduceAdd, Nat.reduceLeDiff, Nat.reduceEqDiff, Nat.reduceMul, Int.reduceToNat, reduceIte, Int.reduceLE, Int.reduceNeg, rowB_len]; rfl) ?_
      (repeat (first | refine W.seq ?_ | refine W.block ?_ | refine W.skip ?_ | refine W.exit ?_))
      refine W.newArr 9 100 3 1 rfl rfl ?_
      refine W.loop (ι := Nat) (fun k => ⟨upd (upd (upd (upd (fun _ => .top) 9 (.own 100)) 25 (.c (.sl (rowB N (reachB E S))))) 26 (.c (.int .i64 N))) 27 (.c (.int .i64 k)), upd Mem.nil 100 (some (.arr 3 1 (((List.range k).filter (reachB E S)).map cN)))⟩) (fun k => k ≤ N) (fun k => N - k) 0 ?start (Nat.zero_le _) ?round
      case start =>
        refine le_mk ?sle ?mle ?swf ?mwf ?kept (by rfl)
        case kept => exact kept_not hkeep
        case swf => repeat (first | exact swf_top _ | refine swf_upd ?_ (by simp [A.ids, upd_app]))
        case mwf => repeat (first | exact mwf_nil _ | refine mwf_upd ?_ (by simp [A.ids, O.ids, upd_app]))
        case mle => repeat (first | exact mle_nil _ | exact mle_refl _ | refine mle_upd ?_ (by first | rfl | (simp only [upd_app, killM_app, Nat.reduceEqDiff, reduceIte]; done)))
        case sle => repeat (first | exact sle_top _ | exact sle_refl _ | refine sle_upd ?_ (by first | rfl | (simp only [upd_app, entry_zero, entry_succ, Nat.reduceEqDiff, reduceIte]; done)))
      case round =>
        intro k hk
        repeat (first | refine W.seq ?_ | refine W.block ?_ | refine W.skip ?_ | refine W.exit ?_ | refine W.region tab_ok 0 (by decide) (exec_run (by simp only [exa, beq_self_eq_true, ByteArray.size, Nat.reduceAdd, Nat.reduceLeDiff, Nat.reduceEqDiff, Nat.reduceMul, Int.reduceToNat, reduceIte, Int.reduceLE, Int.reduceNeg]; rfl)) ?_)
        refine W.cond rfl ?_ ?_
        · intro hlt
          simp only [decide_eq_true_eq, Int.ofNat_lt] at hlt
          have hfl := List.length_filter_le (reachB E S) (List.range k)
          rw [List.length_range] at hfl
          repeat (first | refine W.seq ?_ | refine W.block ?_ | refine W.skip ?_ | refine W.exit ?_ | refine W.region tab_ok 0 (by decide) (exec_run (by simp only [exa, beq_self_eq_true, ByteArray.size, Nat.reduceAdd, Nat.reduceLeDiff, Nat.reduceEqDiff, Nat.reduceMul, Int.reduceToNat, reduceIte, Int.reduceLE, Int.reduceNeg, rowB_at hlt]; rfl)) ?_)
          refine W.cond rfl ?_ ?_
          · intro hq
            repeat (first | refine W.seq ?_ | refine W.block ?_ | refine W.skip ?_ | refine W.exit ?_ | refine W.region tab_ok 0 (by decide) (exec_run (by simp only [exa, beq_self_eq_true, ByteArray.size, Nat.reduceAdd, Nat.reduceLeDiff, Nat.reduceEqDiff, Nat.reduceMul, Int.reduceToNat, reduceIte, Int.reduceLE, Int.reduceNeg]; rfl)) ?_)
            refine W.regionK tab_ok 0 (by decide) ?_
            refine runk_split 3 (by simp only [exa, beq_self_eq_true, ByteArray.size, Nat.reduceAdd, Nat.reduceLeDiff, Nat.reduceEqDiff, Nat.reduceMul, Int.reduceToNat, reduceIte, Int.reduceLE, Int.reduceNeg]; rfl) ?_
            refine runk_append tab_ok 100 rfl rfl rfl rfl rfl rfl rfl rfl (by first | rfl | (simp only [exa, beq_self_eq_true, ByteArray.size, Nat.reduceAdd, Nat.reduceLeDiff, Nat.reduceEqDiff, Nat.reduceMul, Int.reduceToNat, reduceIte, Int.reduceLE, Int.reduceNeg]; rfl)) rfl rfl rfl rfl (nokeep hkeep) (fun z hz => by simp at hz; subst hz; rfl) (by simp only [List.length_map, List.length_cons, List.length_nil]; omega) (by decide) ?_
            refine runk_exec (by simp only [exa, beq_self_eq_true, ByteArray.size, Nat.reduceAdd, Nat.reduceLeDiff, Nat.reduceEqDiff, Nat.reduceMul, Int.reduceToNat, reduceIte, Int.reduceLE, Int.reduceNeg]; rfl) ?_
            repeat (first | refine W.seq ?_ | refine W.block ?_ | refine W.skip ?_ | refine W.exit ?_ | refine W.region tab_ok 0 (by decide) (exec_run (by simp only [exa, beq_self_eq_true, ByteArray.size, Nat.reduceAdd, Nat.reduceLeDiff, Nat.reduceEqDiff, Nat.reduceMul, Int.reduceToNat, reduceIte, Int.reduceLE, Int.reduceNeg]; rfl)) ?_)
            refine ⟨k + 1, hlt, by omega, ?_⟩
            rw [range_next, if_pos hq]
            refine le_mk ?sle ?mle ?swf ?mwf (kept_not hkeep) (by rfl)
            case swf => repeat (first | exact swf_top _ | refine swf_upd ?_ (by simp [A.ids, upd_app, wrap_succ (show k + 1 < 9223372036854775808 by omega), List.map_append, List.map_cons, List.map_nil, cN]))
            case mwf => repeat (first | exact mwf_nil _ | refine mwf_upd ?_ (by simp [A.ids, O.ids, upd_app, wrap_succ (show k + 1 < 9223372036854775808 by omega), List.map_append, List.map_cons, List.map_nil, cN]))
            case mle => repeat (first | exact mle_nil _ | exact mle_refl _ | refine mle_upd ?_ (by first | rfl | (simp only [upd_app, killM_app, O.kill, A.kill, Nat.reduceEqDiff, reduceIte, Option.map_some, Option.map_none, List.map_cons, List.map_nil, wrap_succ (show k + 1 < 9223372036854775808 by omega), List.map_append, List.map_cons, List.map_nil, cN]; done)))
            case sle => repeat (first | exact sle_top _ | exact sle_refl _ | refine sle_upd ?_ (by first | rfl | (simp only [upd_app, killS_app, A.kill, entry_zero, entry_succ, Nat.reduceEqDiff, reduceIte, wrap_succ (show k + 1 < 9223372036854775808 by omega), List.map_append, List.map_cons, List.map_nil, cN]; done)))
          · intro hq
            repeat (first | refine W.seq ?_ | refine W.block ?_ | refine W.skip ?_ | refine W.exit ?_ | refine W.region tab_ok 0 (by decide) (exec_run (by simp only [exa, beq_self_eq_true, ByteArray.size, Nat.reduceAdd, Nat.reduceLeDiff, Nat.reduceEqDiff, Nat.reduceMul, Int.reduceToNat, reduceIte, Int.reduceLE, Int.reduceNeg]; rfl)) ?_)
            refine ⟨k + 1, hlt, by omega, ?_⟩
            rw [range_next, if_neg (by simp [hq]), List.append_nil]
            refine le_mk ?sle ?mle ?swf ?mwf (kept_not hkeep) (by rfl)
            case swf => repeat (first | exact swf_top _ | refine swf_upd ?_ (by simp [A.ids, upd_app, wrap_succ (show k + 1 < 9223372036854775808 by omega)]))
            case mwf => repeat (first | exact mwf_nil _ | refine mwf_upd ?_ (by simp [A.ids, O.ids, upd_app, wrap_succ (show k + 1 < 9223372036854775808 by omega)]))
            case mle => repeat (first | exact mle_nil _ | exact mle_refl _ | refine mle_upd ?_ (by first | rfl | (simp only [upd_app, killM_app, O.kill, A.kill, Nat.reduceEqDiff, reduceIte, Option.map_some, Option.map_none, List.map_cons, List.map_nil, wrap_succ (show k + 1 < 9223372036854775808 by omega)]; done)))
            case sle => repeat (first | exact sle_top _ | exact sle_refl _ | refine sle_upd ?_ (by first | rfl | (simp only [upd_app, killS_app, A.kill, entry_zero, entry_succ, Nat.reduceEqDiff, reduceIte, wrap_succ (show k + 1 < 9223372036854775808 by omega)]; done)))
        · intro hge
          simp only [decide_eq_false_iff_not, Int.ofNat_lt] at hge
          obtain rfl : k = N := by omega
          repeat (first | refine W.seq ?_ | refine W.block ?_ | refine W.skip ?_ | refine W.exit ?_ | refine W.region tab_ok 0 (by decide) (exec_run (by simp only [exa, beq_self_eq_true, ByteArray.size, Nat.reduceAdd, Nat.reduceLeDiff, Nat.reduceEqDiff, Nat.reduceMul, Int.reduceToNat, reduceIte, Int.reduceLE, Int.reduceNeg]; rfl)) ?_)
          refine W.ret ⟨.inr rfl, by rfl, ?_⟩
          simp only [Tryd.f18, resA, resOne, toT, fin, exa, beq_self_eq_true, ByteArray.size, Nat.reduceAdd, Nat.reduceLeDiff, Nat.reduceEqDiff, Nat.reduceMul, Int.reduceToNat, reduceIte, Int.reduceLE, Int.reduceNeg]
          rfl
end V
end Go.Proofs.YtknmcmfdbfhadaaDoor
end
section
/- A window that a box holds becomes the row itself. -/
set_option linter.unusedVariables false
set_option linter.unusedSimpArgs false
namespace Go.Proofs.YtknmcmfdbfhadaaDoor
namespace V
open Go.RowKit
theorem MR.rewin {w0 w : World} {I0 I : Nat → Nat → Prop} {B : Nat → Value} {m : Mem} (hm : MR w0 I0 B I m w) {id : Nat} {ty e lo hi : Nat} {xs : List (List C)} (hj : m id = some (.mrow ty e xs)) (hh : hi ≤ xs.length) {v' : Value} (hx : RV B w I (.win id e lo hi) v') :
    MR w0 I0 (upd B id v') I (upd (killM id m) id (some (.mrow ty e ((xs.take hi).drop lo)))) w ∧ ∃ ad n cap, v' = .slice ad n cap := by
  obtain ⟨ad, n0, cap, hB, hlo, hhi, hv⟩ := hx
  obtain ⟨vs, hrow, hvs, hlx, hno⟩ := hm.objs id _ hj
  have hn0 : n0 = xs.length ∧ xs.length ≤ cap := by
    obtain ⟨ad', cp, e5, e6⟩ := hrow.shape
    rw [hB] at e5; cases e5; exact ⟨rfl, e6⟩
  obtain ⟨rfl, hnc⟩ := hn0
  have hvl := hvs.length
  have hfl := flat_len hlx
  have hlen : ((xs.take hi).drop lo).length = hi - lo := by simp; omega
  have hl1 : vs.length = xs.length * e := hrow.1
  have hle1 : hi * e ≤ xs.length * e := Nat.mul_le_mul_right e hh
  have hle2 : lo * e ≤ hi * e := Nat.mul_le_mul_right e hlo
  have hsub : (hi - lo) * e = hi * e - lo * e := Nat.sub_mul ..
  have hvl' : ((vs.take (hi * e)).drop (lo * e)).length = (hi - lo) * e := by simp; omega
  have hrow' : rowAt w ty e v' (hi - lo) ((vs.take (hi * e)).drop (lo * e)) := by
    refine ⟨hvl', ?_⟩
    rcases hrow.2 with ⟨e1, e2⟩ | ⟨g, off, c, cur, e1, hg, hnc', hm', hsz, htk⟩
    · rw [hB] at e1
      simp only [Value.slice.injEq] at e1
      obtain ⟨rfl, -, rfl⟩ := e1
      obtain rfl : hi = 0 := by omega
      obtain rfl : lo = 0 := by omega
      exact .inl ⟨by rw [hv]; rfl, rfl⟩
    · rw [hB] at e1
      cases e1
      by_cases hcl : cap = lo
      · subst hcl
        obtain rfl : hi = cap := by omega
        refine .inr ⟨g, off, 0, cur, by rw [hv]; simp, hg, by omega, by omega, by omega, ?_⟩
        rw [Nat.sub_self, Nat.zero_mul, List.take_zero]
        exact (List.eq_nil_of_length_eq_zero (by rw [hvl']; simp)).symm
      · have hcs : (cap - lo) * e = cap * e - lo * e := Nat.sub_mul ..
        have hle3 : lo * e ≤ cap * e := Nat.mul_le_mul_right e (by omega)
        refine .inr ⟨g, off + lo * e, cap - lo, cur, by rw [hv, if_neg hcl]; simp [Addr.add], hg, by omega, by omega, by omega, ?_⟩
        rw [← htk, List.take_take, Nat.min_eq_left (by omega), List.drop_take, List.drop_drop, ← hsub]
  have hob : v'.ownBlock = (B id).ownBlock ∨ v'.ownBlock = none := by
    rw [hv, hB]
    cases ad with
    | none => right; split <;> rfl
    | some z =>
      left
      split
      · rfl
      · obtain ⟨zb, zo, zs⟩ := z
        simp only [Value.ownBlock, Addr.add, Option.map_some]
        split <;> rfl
  have hflat : flat ((xs.take hi).drop lo) = ((flat xs).take (hi * e)).drop (lo * e) := by
    have ft : ∀ (k : Nat) (l : List (List C)), (∀ x ∈ l, x.length = e) → flat (l.take k) = (flat l).take (k * e) := by
      intro k
      induction k with
      | zero => intro l _; simp [flat]
      | succ k ih =>
        intro l hl
        cases l with
        | nil => simp [flat]
        | cons x l =>
          have hx := hl x (by simp)
          have := ih l (fun y hy => hl y (List.mem_cons_of_mem _ hy))
          have hk : (k + 1) * e = e + k * e := by rw [Nat.add_mul]; omega
          simp only [flat, List.take_succ_cons, List.flatten_cons] at this ⊢
          have h1 : x.length ≤ e + k * e := by omega
          have h2 : e + k * e - x.length = k * e := by omega
          rw [this, hk, List.take_append, List.take_of_length_le h1, h2]
    have fd : ∀ (k : Nat) (l : List (List C)), (∀ x ∈ l, x.length = e) → flat (l.drop k) = (flat l).drop (k * e) := by
      intro k
      induction k with
      | zero => intro l _; simp [flat]
      | succ k ih =>
        intro l hl
        cases l with
        | nil => simp [flat]
        | cons x l =>
          have hx := hl x (by simp)
          have := ih l (fun y hy => hl y (List.mem_cons_of_mem _ hy))
          have hk : (k + 1) * e = e + k * e := by rw [Nat.add_mul]; omega
          simp only [flat, List.drop_succ_cons, List.flatten_cons] at this ⊢
          have h1 : x.length ≤ e + k * e := by omega
          have h2 : e + k * e - x.length = k * e := by omega
          rw [this, hk, List.drop_append, List.drop_eq_nil_of_le h1, h2, List.nil_append]
    rw [fd _ _ (fun x hx => hlx x (List.mem_of_mem_take hx)), ft _ _ hlx]
  have hm' := hm.reval (id := id) (o' := .mrow ty e ((xs.take hi).drop lo)) (v' := v') (w' := w) (I' := I) hj rfl rfl rfl (Nat.le_refl _) (fun _ _ _ => rfl)
    (fun k hk => by
      have hk : (upd B id v' id).ownBlock = some k := hk
      rw [upd_same] at hk
      rcases hob with q | q
      · rw [q] at hk; exact ⟨(hm.low id _ hj k hk).2, .inl hk⟩
      · rw [q] at hk; cases hk)
    (Ext.refl _ _) (fun b p hp => .inl hp)
    ⟨_, by rw [upd_same, hlen]; exact hrow', by rw [hflat]; exact (hvs.take _).drop _, fun x hx => hlx x (List.mem_of_mem_take (List.mem_of_mem_drop hx)), fun b hb p hp => by
      rw [upd_same] at hb
      rcases hob with q | q
      · rw [q] at hb; exact hno b hb p hp
      · rw [q] at hb; cases hb⟩ (fun i hi => by simp [O.ids] at hi)
  obtain ⟨ad', cp', q, -⟩ := hrow'.shape
  exact ⟨hm', _, _, _, q⟩
theorem SR.rewinBox {R : Ref} {n : Nat} {ds : List Deferred} {st : St} {a : Act} {w : World} (j k id : Nat) {tyb ty e lo hi : Nat} {cells : List A} {xs : List (List C)} (hr : SR R n ds st a w) (hjb : st.m j = some (.box tyb cells)) (hk : cells[k]? = some (.win id e lo hi)) (hid : st.m id = some (.mrow ty e xs)) (hh : hi ≤ xs.length) (hji : j ≠ id) (hkp : ¬ R.keep id) :
    SR R n ds ⟨killS id st.s, upd (upd (killM id st.m) id (some (.mrow ty e ((xs.take hi).drop lo)))) j (some (.box tyb ((cells.map (A.kill id)).set k (.own id))))⟩ a w := by
  obtain ⟨⟨B, I, hm, hx0, hkp0, hs⟩, h2, h3, hnn, h4, h5⟩ := hr
  obtain ⟨b0, vs0, p1, p2, p3, p4⟩ := hm.objs j _ hjb
  obtain ⟨v', u1, u2, u3⟩ := p3.at k _ hk
  obtain ⟨hm', ad, nn, cap, hsh⟩ := hm.rewin hid hh u2
  have hBne : ∀ i, i ≠ id → upd B id v' i = B i := fun i hi => upd_ne _ _ hi
  have hj' : upd (killM id st.m) id (some (.mrow ty e ((xs.take hi).drop lo))) j = some (.box tyb (cells.map (A.kill id))) := by
    rw [upd_ne _ _ hji, killM_app, hjb]; rfl
  obtain ⟨b, vs, q1, q2, q3, q4⟩ := hm'.objs j _ hj'
  have hbb : b0 = b := by
    rw [hBne j hji, p1] at q1; cases q1; rfl
  subst hbb
  have hvv : vs0 = vs := by
    rw [p2] at q2
    have := Option.some.inj q2
    simp at this; exact this
  subst hvv
  have liv0 : ∀ i, (st.m i).isSome = true → (upd (killM id st.m) id (some (.mrow ty e ((xs.take hi).drop lo))) i).isSome = true := fun i hi => by
    unfold upd; split
    · rfl
    · rw [killM_app]; simpa using hi
  obtain ⟨hm2, hE2⟩ := hm'.turn (w' := w) (o' := .box tyb ((cells.map (A.kill id)).set k (.own id))) hj' ⟨0, q1⟩ (fun q hq => by obtain ⟨off, hq⟩ := hq; rw [q1] at hq; cases hq; rfl) q4 rfl rfl rfl rfl (fun _ _ => rfl) (fun i hi => by
    obtain ⟨a', ha', hi'⟩ := List.mem_flatMap.1 hi
    rcases List.mem_or_eq_of_mem_set ha' with ha' | rfl
    · exact hm'.live j _ hj' i (List.mem_flatMap.2 ⟨a', ha', hi'⟩)
    · simp [A.ids] at hi'; subst hi'; rw [upd_same]; rfl) (fun _ => by
    refine ⟨b0, vs0, q1, q2, ?_, q4⟩
    have hl := q3.length
    refine RVs.of (by rw [List.length_set]; exact hl) fun q a' v2 ha' hv2 => ?_
    rw [List.getElem?_set] at ha'
    split at ha'
    · rename_i hq
      subst hq
      split at ha'
      · cases ha'
        rw [hv2] at u1; cases u1
        exact ⟨⟨(upd_same ..).symm, _, _, _, hsh⟩, u3⟩
      · cases ha'
    · obtain ⟨v3, r1, r2, r3⟩ := q3.at q _ ha'
      rw [hv2] at r1; cases r1
      exact ⟨r2, r3⟩)
  have liv : ∀ i, (st.m i).isSome = true → (upd (upd (killM id st.m) id (some (.mrow ty e ((xs.take hi).drop lo)))) j (some (.box tyb ((cells.map (A.kill id)).set k (.own id)))) i).isSome = true := fun i hi => live_upd i (liv0 i hi)
  refine ⟨⟨_, I, hm2, hx0, fun i hi => (hBne i (fun e => hkp (e ▸ hi))).trans (hkp0 i hi), fun u => ?_⟩, fun u i hi => ?_, h3, hnn, ?_, fun i hi => liv i (h5 i hi)⟩
  · show RV _ w I (killS id st.s u) _
    rw [killS_app]
    rcases (A.kill_ids (id := id) (a := st.s u)).2 with q | ⟨q, hn⟩
    · rw [q]; trivial
    · rw [q]
      exact (hs u).mono (Ext.refl _ _) fun i hi => hBne i (fun e => hn (e ▸ hi))
  · replace hi : i ∈ (killS id st.s u).ids := hi
    rw [killS_app] at hi
    exact liv i (h2 u i ((A.kill_ids (id := id) (a := st.s u)).1 i hi).1)
  · show _ = dfs (killS id st.s DID) ++ ds
    rw [killS_app, dfs_kill]; exact h4
theorem W.rewinBox {P : Go.Program} {R : Ref} {n : Nat} {ds : List Deferred} {st : St} {c : Code} {K : Exit → St → Prop} (j k id : Nat) {tyb ty e lo hi : Nat} {cells : List A} {xs : List (List C)} (hjb : st.m j = some (.box tyb cells)) (hk : cells[k]? = some (.win id e lo hi)) (hid : st.m id = some (.mrow ty e xs)) (hh : hi ≤ xs.length) (hji : j ≠ id) (hkp : ¬ R.keep id)
    (h : W P R n ds ⟨killS id st.s, upd (upd (killM id st.m) id (some (.mrow ty e ((xs.take hi).drop lo)))) j (some (.box tyb ((cells.map (A.kill id)).set k (.own id))))⟩ c K) : W P R n ds st c K := fun a w hr => h a w (hr.rewinBox j k id hjb hk hid hh hji hkp)
/-- Two pieces of code, the ways of the first one joined. -/
theorem W.seqCut {P : Go.Program} {R : Ref} {n : Nat} {ds : List Deferred} {st : St} {x y : Code} {K : Exit → St → Prop} (can : St) (h : W P R n ds st x (fun e st' => e = .normal ∧ Le R.keep st' can)) (k : W P R n ds can y K) : W P R n ds st (.seq x y) K :=
  W.seq (W.mono h fun e st' ⟨h1, h2⟩ => by subst h1; exact W.weaken h2 k)
end V
end Go.Proofs.YtknmcmfdbfhadaaDoor
end
section
/- graph.Parts: a node is entered. -/
set_option linter.unusedVariables false
set_option linter.unusedSimpArgs false
namespace Go.Proofs.YtknmcmfdbfhadaaDoor
namespace V
open Go.RowKit G
def rowP (n : Nat) (p : Nat → Option Nat) : List (List C) := (List.range n).map fun i => [.int .i64 (optI (p i))]
theorem rowP_len (n : Nat) (p : Nat → Option Nat) : (rowP n p).length = n := by simp [rowP]
theorem rowP_at {n k : Nat} {p : Nat → Option Nat} (h : k < n) : (rowP n p)[k]? = some [.int .i64 (optI (p k))] := by simp [rowP, h]
def setP (p : Nat → Option Nat) (k : Nat) (v : Option Nat) : Nat → Option Nat := fun j => if j = k then v else p j
theorem rowP_set {n k v : Nat} {p : Nat → Option Nat} : (rowP n p).set k [.int .i64 (v : Int)] = rowP n (setP p k (some v)) := by
  refine List.ext_getElem? fun i => ?_
  rw [List.getElem?_set, rowP_len]
  by_cases hi : i < n
  · rw [rowP_at hi, rowP_at hi]
    by_cases e : k = i
    · subst e; rw [if_pos rfl, if_pos hi]; simp [setP, optI]
    · rw [if_neg e]; simp [setP, Ne.symm e]
  · have h1 : (rowP n p)[i]? = none := by rw [List.getElem?_eq_none]; rw [rowP_len]; omega
    have h2 : (rowP n (setP p k (some v)))[i]? = none := by rw [List.getElem?_eq_none]; rw [rowP_len]; omega
    rw [h1, h2]
    split
    · rw [if_neg (by omega)]
    · rfl
theorem live_both {m m' : Mem} {j : Nat} {o o' : O} (h : ∀ i, (m i).isSome = true → (m' i).isSome = true) : ∀ i, (upd m j (some o) i).isSome = true → (upd m' j (some o') i).isSome = true := fun i hi => by
  unfold upd at hi ⊢
  split
  · rfl
  · rename_i e; rw [if_neg e] at hi; exact h i hi
theorem mt_live {n : Nat} {o o' l l' x x' : Nat → Nat} {p p' : Nat → Option Nat} {st st' ca ca' : List Nat} {c c' j : Nat} (h : ((upd (upd (upd (upd (upd (upd (upd (upd (upd (upd (upd (upd Mem.nil 8 (some (.box 31 [.own 31]))) 9 (some (.box 31 [.own 33]))) 11 (some (.box 31 [.own 37]))) 13 (some (.box 31 [.own 300]))) 14 (some (.box 31 [.own 301]))) 15 (some (.box 3 [.c (.int .i64 (c : Nat))]))) 31 (some (.mrow 3 1 (rowF n (o))))) 33 (some (.mrow 3 1 (rowF n (l))))) 35 (some (.mrow 3 1 (rowF n (x))))) 37 (some (.mrow 3 1 (rowP n (p))))) 300 (some (.mrow 3 1 ((st).map cN)))) 301 (some (.mrow 3 1 ((ca).map cN)))) j).isSome = true) : ((upd (upd (upd (upd (upd (upd (upd (upd (upd (upd (upd (upd Mem.nil 8 (some (.box 31 [.own 31]))) 9 (some (.box 31 [.own 33]))) 11 (some (.box 31 [.own 37]))) 13 (some (.box 31 [.own 300]))) 14 (some (.box 31 [.own 301]))) 15 (some (.box 3 [.c (.int .i64 (c' : Nat))]))) 31 (some (.mrow 3 1 (rowF n (o'))))) 33 (some (.mrow 3 1 (rowF n (l'))))) 35 (some (.mrow 3 1 (rowF n (x'))))) 37 (some (.mrow 3 1 (rowP n (p'))))) 300 (some (.mrow 3 1 ((st').map cN)))) 301 (some (.mrow 3 1 ((ca').map cN)))) j).isSome = true :=
  live_both (live_both (live_both (live_both (live_both (live_both (live_both (live_both (live_both (live_both (live_both (live_both (fun _ h => h)))))))))))) j h
set_option maxHeartbeats 4000000 in
theorem enter_ok (n k : Nat) (hn : n ≤ 100000) (hk : k < n) (s : TS) (hc : s.cnt ≤ n) (hst : s.stack.length ≤ n) (hcl : s.calls.length ≤ n) :
    CallE Tryd.prog 35 [.c (.int .i64 k), .ptr 15 0, .ptr 8 0, .ptr 9 0, .ptr 13 0, .ptr 14 0] (upd (upd (upd (upd (upd (upd (upd (upd (upd (upd (upd (upd Mem.nil 8 (some (.box 31 [.own 31]))) 9 (some (.box 31 [.own 33]))) 11 (some (.box 31 [.own 37]))) 13 (some (.box 31 [.own 300]))) 14 (some (.box 31 [.own 301]))) 15 (some (.box 3 [.c (.int .i64 (s.cnt : Nat))]))) 31 (some (.mrow 3 1 (rowF n (s.ord))))) 33 (some (.mrow 3 1 (rowF n (s.low))))) 35 (some (.mrow 3 1 (rowF n (s.nxt))))) 37 (some (.mrow 3 1 (rowP n (s.part))))) 300 (some (.mrow 3 1 ((s.stack).map cN)))) 301 (some (.mrow 3 1 ((s.calls).map cN)))) [300, 301] (.tup []) (upd (upd (upd (upd (upd (upd (upd (upd (upd (upd (upd (upd Mem.nil 8 (some (.box 31 [.own 31]))) 9 (some (.box 31 [.own 33]))) 11 (some (.box 31 [.own 37]))) 13 (some (.box 31 [.own 300]))) 14 (some (.box 31 [.own 301]))) 15 (some (.box 3 [.c (.int .i64 ((enterS s k).cnt : Nat))]))) 31 (some (.mrow 3 1 (rowF n ((enterS s k).ord))))) 33 (some (.mrow 3 1 (rowF n ((enterS s k).low))))) 35 (some (.mrow 3 1 (rowF n ((enterS s k).nxt))))) 37 (some (.mrow 3 1 (rowP n ((enterS s k).part))))) 300 (some (.mrow 3 1 (((enterS s k).stack).map cN)))) 301 (some (.mrow 3 1 (((enterS s k).calls).map cN)))) := by
  have hk0 : (0 : Int) ≤ (k : Int) := by omega
  refine (ok_eff tab_ok [300, 301] Tryd.func35 (by kernel_rfl) rfl rfl (by rfl) (by rfl) ?ids ?res ?sub ?wfm (fun hWF Rr hkeep => ?_))
  case ids =>
    intro a ha j hj
    simp at ha
    rcases ha with rfl | rfl | rfl | rfl | rfl | rfl <;> simp [A.ids] at hj <;> subst hj <;> simp [upd_app]
  case res => intro j hj; simp [A.ids] at hj
  case sub => exact fun j h => mt_live h
  case wfm =>
    intro _
    show MWf _ _
    repeat (first | exact mwf_nil _ | refine mwf_upd ?_ (by simp [A.ids, O.ids, upd_app]))
  have nk : ∀ j, j ∈ [300, 301] → ¬ Rr.keep j := fun j hj => by rw [hkeep]; exact fun h => h.2 hj
  have kept : ∀ j, Rr.keep j → ((upd (upd (upd (upd (upd (upd (upd (upd (upd (upd (upd (upd Mem.nil 8 (some (.box 31 [.own 31]))) 9 (some (.box 31 [.own 33]))) 11 (some (.box 31 [.own 37]))) 13 (some (.box 31 [.own 300]))) 14 (some (.box 31 [.own 301]))) 15 (some (.box 3 [.c (.int .i64 ((enterS s k).cnt : Nat))]))) 31 (some (.mrow 3 1 (rowF n ((enterS s k).ord))))) 33 (some (.mrow 3 1 (rowF n ((enterS s k).low))))) 35 (some (.mrow 3 1 (rowF n ((enterS s k).nxt))))) 37 (some (.mrow 3 1 (rowP n ((enterS s k).part))))) 300 (some (.mrow 3 1 (((enterS s k).stack).map cN)))) 301 (some (.mrow 3 1 (((enterS s k).calls).map cN)))) j).isSome = true := fun j hj => by rw [hkeep] at hj; exact mt_live hj.1
  have kept1 : ∀ j, Rr.keep j → ((upd (upd (upd (upd (upd (upd (upd (upd (upd (upd (upd (upd Mem.nil 8 (some (.box 31 [.own 31]))) 9 (some (.box 31 [.own 33]))) 11 (some (.box 31 [.own 37]))) 13 (some (.box 31 [.own 300]))) 14 (some (.box 31 [.own 301]))) 15 (some (.box 3 [.c (.int .i64 ((enterS s k).cnt : Nat))]))) 31 (some (.mrow 3 1 (rowF n ((enterS s k).ord))))) 33 (some (.mrow 3 1 (rowF n ((enterS s k).low))))) 35 (some (.mrow 3 1 (rowF n ((enterS s k).nxt))))) 37 (some (.mrow 3 1 (rowP n ((enterS s k).part))))) 300 (some (.mrow 3 1 ((s.stack).map cN)))) 301 (some (.mrow 3 1 ((s.calls).map cN)))) j).isSome = true := fun j hj => by rw [hkeep] at hj; exact mt_live hj.1
  have hw : IntKind.i64.wrap ((s.cnt : Int) + 1) = ((s.cnt + 1 : Nat) : Int) := wrap_succ (by omega)
  (repeat (first | refine W.seq ?_ | refine W.block ?_ | refine W.skip ?_ | refine W.exit ?_))
  refine W.region tab_ok 0 (by decide) (exec_run (by simp only [exa, beq_self_eq_true, ByteArray.size, Nat.reduceAdd, Nat.reduceLeDiff, Nat.reduceEqDiff, Nat.reduceMul, Int.reduceToNat, reduceIte, Int.reduceLE, Int.reduceNeg, hw]; rfl)) ?_
  (repeat (first | refine W.seq ?_ | refine W.block ?_ | refine W.skip ?_ | refine W.exit ?_))
  refine W.regionPC tab_ok 0 follows_mixed (by decide) ⟨upd (upd (upd (fun _ => .top) 0 (.c (.int .i64 k))) 4 (.ptr 13 0)) 5 (.ptr 14 0), upd (upd (upd (upd (upd (upd (upd (upd (upd (upd (upd (upd Mem.nil 8 (some (.box 31 [.own 31]))) 9 (some (.box 31 [.own 33]))) 11 (some (.box 31 [.own 37]))) 13 (some (.box 31 [.own 300]))) 14 (some (.box 31 [.own 301]))) 15 (some (.box 3 [.c (.int .i64 ((enterS s k).cnt : Nat))]))) 31 (some (.mrow 3 1 (rowF n ((enterS s k).ord))))) 33 (some (.mrow 3 1 (rowF n ((enterS s k).low))))) 35 (some (.mrow 3 1 (rowF n ((enterS s k).nxt))))) 37 (some (.mrow 3 1 (rowP n ((enterS s k).part))))) 300 (some (.mrow 3 1 ((s.stack).map cN)))) 301 (some (.mrow 3 1 ((s.calls).map cN)))⟩ ?_ ?_
  · refine first_exec 0 (by decide +kernel) ⟨_, by simp only [exec1, exa, beq_self_eq_true, ByteArray.size, Nat.reduceAdd, Nat.reduceLeDiff, Nat.reduceEqDiff, Nat.reduceMul, Int.reduceToNat, reduceIte, Int.reduceLE, Int.reduceNeg, hw]; rfl, ?_⟩
    refine first_exec 1 (by decide +kernel) ⟨_, by simp only [exec1, exa, beq_self_eq_true, ByteArray.size, Nat.reduceAdd, Nat.reduceLeDiff, Nat.reduceEqDiff, Nat.reduceMul, Int.reduceToNat, reduceIte, Int.reduceLE, Int.reduceNeg, hw]; rfl, ?_⟩
    refine first_exec 3 (by decide +kernel) ⟨_, by simp only [exec1, exa, beq_self_eq_true, ByteArray.size, Nat.reduceAdd, Nat.reduceLeDiff, Nat.reduceEqDiff, Nat.reduceMul, Int.reduceToNat, reduceIte, Int.reduceLE, Int.reduceNeg, hw]; rfl, ?_⟩
    refine first_exec 4 (by decide +kernel) ⟨_, by simp only [exec1, exa, beq_self_eq_true, ByteArray.size, Nat.reduceAdd, Nat.reduceLeDiff, Nat.reduceEqDiff, Nat.reduceMul, Int.reduceToNat, reduceIte, Int.reduceLE, Int.reduceNeg, hw]; rfl, ?_⟩
    refine first_exec 6 (by decide +kernel) ⟨_, by simp only [exec1, exa, beq_self_eq_true, ByteArray.size, Nat.reduceAdd, Nat.reduceLeDiff, Nat.reduceEqDiff, Nat.reduceMul, Int.reduceToNat, reduceIte, Int.reduceLE, Int.reduceNeg, rowF_at hk, rowF_len, hk, hk0, Int.toNat_natCast, and_self]; rfl, ?_⟩
    repeat' (first
      | exact trivial
      | refine runsw_end (by decide +kernel) ?_
      | refine first_exec 2 (by decide +kernel) ⟨_, by simp only [exec1, exa, beq_self_eq_true, ByteArray.size, Nat.reduceAdd, Nat.reduceLeDiff, Nat.reduceEqDiff, Nat.reduceMul, Int.reduceToNat, reduceIte, Int.reduceLE, Int.reduceNeg, rowF_at hk, rowF_len, hk, hk0, Int.toNat_natCast, and_self, rowF_set]; rfl, ?_⟩
      | refine first_exec 5 (by decide +kernel) ⟨_, by simp only [exec1, exa, beq_self_eq_true, ByteArray.size, Nat.reduceAdd, Nat.reduceLeDiff, Nat.reduceEqDiff, Nat.reduceMul, Int.reduceToNat, reduceIte, Int.reduceLE, Int.reduceNeg, rowF_at hk, rowF_len, hk, hk0, Int.toNat_natCast, and_self, rowF_set]; rfl, ?_⟩
      | refine first_exec 8 (by decide +kernel) ⟨_, by simp only [exec1, exa, beq_self_eq_true, ByteArray.size, Nat.reduceAdd, Nat.reduceLeDiff, Nat.reduceEqDiff, Nat.reduceMul, Int.reduceToNat, reduceIte, Int.reduceLE, Int.reduceNeg, rowF_at hk, rowF_len, hk, hk0, Int.toNat_natCast, and_self, rowF_set]; rfl, ?_⟩
      | refine first_exec 9 (by decide +kernel) ⟨_, by simp only [exec1, exa, beq_self_eq_true, ByteArray.size, Nat.reduceAdd, Nat.reduceLeDiff, Nat.reduceEqDiff, Nat.reduceMul, Int.reduceToNat, reduceIte, Int.reduceLE, Int.reduceNeg, rowF_at hk, rowF_len, hk, hk0, Int.toNat_natCast, and_self, rowF_set]; rfl, ?_⟩
      | refine first_exec 7 (by decide +kernel) ⟨_, by simp only [exec1, exa, beq_self_eq_true, ByteArray.size, Nat.reduceAdd, Nat.reduceLeDiff, Nat.reduceEqDiff, Nat.reduceMul, Int.reduceToNat, reduceIte, Int.reduceLE, Int.reduceNeg, rowF_at hk, rowF_len, hk, hk0, Int.toNat_natCast, and_self, rowF_set]; rfl, ?_⟩
      | refine runs_node [2, 5, 7] (by decide +kernel) (by decide) ?_
      | refine runs_node [5, 7] (by decide +kernel) (by decide) ?_
      | refine runs_node [2, 7] (by decide +kernel) (by decide) ?_
      | refine step_exec ⟨_, by simp only [exec1, exa, beq_self_eq_true, ByteArray.size, Nat.reduceAdd, Nat.reduceLeDiff, Nat.reduceEqDiff, Nat.reduceMul, Int.reduceToNat, reduceIte, Int.reduceLE, Int.reduceNeg, rowF_at hk, rowF_len, hk, hk0, Int.toNat_natCast, and_self, rowF_set]; rfl, ?_⟩ ?_)
    all_goals
      refine le_mk ?sle ?mle ?swf ?mwf kept1 (by rfl)
      case swf => repeat (first | exact swf_top _ | refine swf_upd ?_ (by simp [A.ids, upd_app, enterS, Bool.false_eq_true]))
      case mwf => repeat (first | exact mwf_nil _ | refine mwf_upd ?_ (by simp [A.ids, O.ids, upd_app, enterS, Bool.false_eq_true]))
      case mle => repeat (first | exact mle_nil _ | exact mle_refl _ | refine mle_upd ?_ (by first | rfl | (simp only [upd_app, killM_app, O.kill, A.kill, Nat.reduceEqDiff, reduceIte, Option.map_some, Option.map_none, List.map_cons, List.map_nil, enterS, Bool.false_eq_true]; done)))
      case sle => repeat (first | exact sle_top _ | exact sle_refl _ | refine sle_upd ?_ (by first | rfl | (simp only [upd_app, killS_app, A.kill, entry_zero, entry_succ, Nat.reduceEqDiff, reduceIte, enterS, Bool.false_eq_true]; done)))
  · intro st' hle
    refine W.weaken hle ?_
    (repeat (first | refine W.seq ?_ | refine W.block ?_ | refine W.skip ?_ | refine W.exit ?_))
    refine W.regionPC tab_ok 0 follows_mixed (by decide) ⟨fun _ => .top, upd (upd (upd (upd (upd (upd (upd (upd (upd (upd (upd (upd Mem.nil 8 (some (.box 31 [.own 31]))) 9 (some (.box 31 [.own 33]))) 11 (some (.box 31 [.own 37]))) 13 (some (.box 31 [.own 300]))) 14 (some (.box 31 [.own 301]))) 15 (some (.box 3 [.c (.int .i64 ((enterS s k).cnt : Nat))]))) 31 (some (.mrow 3 1 (rowF n ((enterS s k).ord))))) 33 (some (.mrow 3 1 (rowF n ((enterS s k).low))))) 35 (some (.mrow 3 1 (rowF n ((enterS s k).nxt))))) 37 (some (.mrow 3 1 (rowP n ((enterS s k).part))))) 300 (some (.mrow 3 1 (((enterS s k).stack).map cN)))) 301 (some (.mrow 3 1 (((enterS s k).calls).map cN)))⟩ ?_ ?_
    · refine first_exec 0 (by decide +kernel) ⟨_, by simp only [exec1, exa, beq_self_eq_true, ByteArray.size, Nat.reduceAdd, Nat.reduceLeDiff, Nat.reduceEqDiff, Nat.reduceMul, Int.reduceToNat, reduceIte, Int.reduceLE, Int.reduceNeg]; rfl, ?_⟩
      refine first_exec 1 (by decide +kernel) ⟨_, by simp only [exec1, exa, beq_self_eq_true, ByteArray.size, Nat.reduceAdd, Nat.reduceLeDiff, Nat.reduceEqDiff, Nat.reduceMul, Int.reduceToNat, reduceIte, Int.reduceLE, Int.reduceNeg]; rfl, ?_⟩
      refine first_exec 2 (by decide +kernel) ⟨_, by simp only [exec1, exa, beq_self_eq_true, ByteArray.size, Nat.reduceAdd, Nat.reduceLeDiff, Nat.reduceEqDiff, Nat.reduceMul, Int.reduceToNat, reduceIte, Int.reduceLE, Int.reduceNeg]; rfl, ?_⟩
      repeat' (first
        | exact trivial
        | refine runsw_end (by decide +kernel) ?_
        | refine first_exec 4 (by decide +kernel) ⟨_, by simp only [exec1, exa, beq_self_eq_true, ByteArray.size, Nat.reduceAdd, Nat.reduceLeDiff, Nat.reduceEqDiff, Nat.reduceMul, Int.reduceToNat, reduceIte, Int.reduceLE, Int.reduceNeg]; rfl, ?_⟩
        | refine first_exec 5 (by decide +kernel) ⟨_, by simp only [exec1, exa, beq_self_eq_true, ByteArray.size, Nat.reduceAdd, Nat.reduceLeDiff, Nat.reduceEqDiff, Nat.reduceMul, Int.reduceToNat, reduceIte, Int.reduceLE, Int.reduceNeg]; rfl, ?_⟩
        | refine first_exec 6 (by decide +kernel) ⟨_, by simp only [exec1, exa, beq_self_eq_true, ByteArray.size, Nat.reduceAdd, Nat.reduceLeDiff, Nat.reduceEqDiff, Nat.reduceMul, Int.reduceToNat, reduceIte, Int.reduceLE, Int.reduceNeg]; rfl, ?_⟩
        | refine first_exec 8 (by decide +kernel) ⟨_, by simp only [exec1, exa, beq_self_eq_true, ByteArray.size, Nat.reduceAdd, Nat.reduceLeDiff, Nat.reduceEqDiff, Nat.reduceMul, Int.reduceToNat, reduceIte, Int.reduceLE, Int.reduceNeg]; rfl, ?_⟩
        | refine first_exec 9 (by decide +kernel) ⟨_, by simp only [exec1, exa, beq_self_eq_true, ByteArray.size, Nat.reduceAdd, Nat.reduceLeDiff, Nat.reduceEqDiff, Nat.reduceMul, Int.reduceToNat, reduceIte, Int.reduceLE, Int.reduceNeg]; rfl, ?_⟩
        | refine runs_node [3, 4, 5] (by decide +kernel) (by decide) ?_
        | refine runs_node [3, 4, 6] (by decide +kernel) (by decide) ?_
        | refine runs_node [3, 5] (by decide +kernel) (by decide) ?_
        | refine runs_node [3, 6] (by decide +kernel) (by decide) ?_
        | refine runs_node [3, 4] (by decide +kernel) (by decide) ?_
        | refine runs_node [3] (by decide +kernel) (by decide) ?_
        | refine runs_node [7] (by decide +kernel) (by decide) ?_
        | refine step_exec ⟨_, by simp only [exec1, exa, beq_self_eq_true, ByteArray.size, Nat.reduceAdd, Nat.reduceLeDiff, Nat.reduceEqDiff, Nat.reduceMul, Int.reduceToNat, reduceIte, Int.reduceLE, Int.reduceNeg]; rfl, ?_⟩ ?_
        | refine step_append tab_ok rfl 300 false rfl rfl rfl rfl rfl rfl (by simp only [exa, beq_self_eq_true, ByteArray.size, Nat.reduceAdd, Nat.reduceLeDiff, Nat.reduceEqDiff, Nat.reduceMul, Int.reduceToNat, reduceIte, Int.reduceLE, Int.reduceNeg]; done) (by simp only [exa, beq_self_eq_true, ByteArray.size, Nat.reduceAdd, Nat.reduceLeDiff, Nat.reduceEqDiff, Nat.reduceMul, Int.reduceToNat, reduceIte, Int.reduceLE, Int.reduceNeg]; rfl) (by simp only [exa, beq_self_eq_true, ByteArray.size, Nat.reduceAdd, Nat.reduceLeDiff, Nat.reduceEqDiff, Nat.reduceMul, Int.reduceToNat, reduceIte, Int.reduceLE, Int.reduceNeg]; rfl) rfl rfl rfl rfl (nk _ (by simp)) (fun z hz => by simp at hz; subst hz; rfl) (by simp only [List.length_map, List.length_cons, List.length_nil]; omega) (by decide) ?_ ?_
        | refine step_append tab_ok rfl 301 false rfl rfl rfl rfl rfl rfl (by simp only [exa, beq_self_eq_true, ByteArray.size, Nat.reduceAdd, Nat.reduceLeDiff, Nat.reduceEqDiff, Nat.reduceMul, Int.reduceToNat, reduceIte, Int.reduceLE, Int.reduceNeg]; done) (by simp only [exa, beq_self_eq_true, ByteArray.size, Nat.reduceAdd, Nat.reduceLeDiff, Nat.reduceEqDiff, Nat.reduceMul, Int.reduceToNat, reduceIte, Int.reduceLE, Int.reduceNeg]; rfl) (by simp only [exa, beq_self_eq_true, ByteArray.size, Nat.reduceAdd, Nat.reduceLeDiff, Nat.reduceEqDiff, Nat.reduceMul, Int.reduceToNat, reduceIte, Int.reduceLE, Int.reduceNeg]; rfl) rfl rfl rfl rfl (nk _ (by simp)) (fun z hz => by simp at hz; subst hz; rfl) (by simp only [List.length_map, List.length_cons, List.length_nil]; omega) (by decide) ?_ ?_)
      all_goals
        refine le_mk ?sle ?mle ?swf ?mwf kept (by rfl)
        case swf => repeat (first | exact swf_top _ | refine swf_upd ?_ (by simp [A.ids, upd_app, enterS, List.map_append, List.map_cons, List.map_nil, cN, Bool.false_eq_true]))
        case mwf => repeat (first | exact mwf_nil _ | refine mwf_upd ?_ (by simp [A.ids, O.ids, upd_app, enterS, List.map_append, List.map_cons, List.map_nil, cN, Bool.false_eq_true]))
        case mle => repeat (first | exact mle_nil _ | exact mle_refl _ | refine mle_upd ?_ (by first | rfl | (simp only [upd_app, killM_app, O.kill, A.kill, Nat.reduceEqDiff, reduceIte, Option.map_some, Option.map_none, List.map_cons, List.map_nil, enterS, List.map_append, List.map_cons, List.map_nil, cN, Bool.false_eq_true]; done)))
        case sle => repeat (first | exact sle_top _ | exact sle_refl _ | refine sle_upd ?_ (by first | rfl | (simp only [upd_app, killS_app, A.kill, entry_zero, entry_succ, Nat.reduceEqDiff, reduceIte, enterS, List.map_append, List.map_cons, List.map_nil, cN, Bool.false_eq_true]; done)))
    · intro st' hle
      refine ⟨.inl rfl, ?_, rfl, ?_⟩
      · exact hle.dd.symm
      · exact hle.m
end V
end Go.Proofs.YtknmcmfdbfhadaaDoor
end
section
/- graph.Parts: a node is left. -/
set_option linter.unusedVariables false
set_option linter.unusedSimpArgs false
namespace Go.Proofs.YtknmcmfdbfhadaaDoor
namespace V
open Go.RowKit G
def partL (p : Nat → Option Nat) (i : Nat) (l : List Nat) : Nat → Option Nat := fun x => if x ∈ l then some i else p x
theorem partL_nil (p : Nat → Option Nat) (i : Nat) : partL p i [] = p := by funext x; simp [partL]
theorem partL_cons (p : Nat → Option Nat) (i z : Nat) (l : List Nat) : setP (partL p i l) z (some i) = partL p i (z :: l) := by
  funext x
  simp only [setP, partL, List.mem_cons]
  by_cases e : x = z
  · simp [e]
  · simp [e]
set_option maxHeartbeats 4000000 in
/-- What a node that is left does to the rows. -/
theorem leave_ok (n i : Nat) (hn : n ≤ 100000) (hi : i < n) (s : TS) (cs : List Nat) (hc : s.calls = cs ++ [i]) (hcl : s.calls.length ≤ n) (hcn : ∀ x ∈ cs, x < n) (hup : ∀ up, cs.getLast? = some up → up ≠ i) (part' : Nat → Option Nat) (stack' : List Nat)
    (hcase : (s.low i ≠ s.ord i ∧ part' = s.part ∧ stack' = s.stack) ∨ (s.low i = s.ord i ∧ ∃ seg, s.stack = stack' ++ (i :: seg) ∧ part' = partL s.part i (i :: seg) ∧ i ∉ seg ∧ (∀ x ∈ seg, x < n) ∧ s.stack.length ≤ n)) :
    CallE Tryd.prog 36 [.c (.int .i64 i), .ptr 14 0, .ptr 9 0, .ptr 8 0, .ptr 13 0, .ptr 11 0] (upd (upd (upd (upd (upd (upd (upd (upd (upd (upd (upd (upd Mem.nil 8 (some (.box 31 [.own 31]))) 9 (some (.box 31 [.own 33]))) 11 (some (.box 31 [.own 37]))) 13 (some (.box 31 [.own 300]))) 14 (some (.box 31 [.own 301]))) 15 (some (.box 3 [.c (.int .i64 (s.cnt : Nat))]))) 31 (some (.mrow 3 1 (rowF n (s.ord))))) 33 (some (.mrow 3 1 (rowF n (s.low))))) 35 (some (.mrow 3 1 (rowF n (s.nxt))))) 37 (some (.mrow 3 1 (rowP n (s.part))))) 300 (some (.mrow 3 1 ((s.stack).map cN)))) 301 (some (.mrow 3 1 ((s.calls).map cN)))) [300, 301] (.tup []) (upd (upd (upd (upd (upd (upd (upd (upd (upd (upd (upd (upd Mem.nil 8 (some (.box 31 [.own 31]))) 9 (some (.box 31 [.own 33]))) 11 (some (.box 31 [.own 37]))) 13 (some (.box 31 [.own 300]))) 14 (some (.box 31 [.own 301]))) 15 (some (.box 3 [.c (.int .i64 (s.cnt : Nat))]))) 31 (some (.mrow 3 1 (rowF n (s.ord))))) 33 (some (.mrow 3 1 (rowF n ((lowUp s cs i)))))) 35 (some (.mrow 3 1 (rowF n (s.nxt))))) 37 (some (.mrow 3 1 (rowP n (part'))))) 300 (some (.mrow 3 1 ((stack').map cN)))) 301 (some (.mrow 3 1 ((cs).map cN)))) := by
  have hi0 : (0 : Int) ≤ (i : Int) := by omega
  refine (ok_eff tab_ok [300, 301] Tryd.func36 (by kernel_rfl) rfl rfl (by rfl) (by rfl) ?ids ?res ?sub ?wfm (fun hWF Rr hkeep => ?_))
  case ids =>
    intro a ha j hj
    simp at ha
    rcases ha with rfl | rfl | rfl | rfl | rfl | rfl <;> simp [A.ids] at hj <;> subst hj <;> simp [upd_app]
  case res => intro j hj; simp [A.ids] at hj
  case sub => exact fun j h => mt_live h
  case wfm =>
    intro _
    show MWf _ _
    repeat (first | exact mwf_nil _ | refine mwf_upd ?_ (by simp [A.ids, O.ids, upd_app]))
  have nk : ∀ j, j ∈ [300, 301] → ¬ Rr.keep j := fun j hj => by rw [hkeep]; exact fun h => h.2 hj
  have kept : ∀ (o l x : Nat → Nat) (p : Nat → Option Nat) (st ca : List Nat) (c j : Nat), Rr.keep j → ((upd (upd (upd (upd (upd (upd (upd (upd (upd (upd (upd (upd Mem.nil 8 (some (.box 31 [.own 31]))) 9 (some (.box 31 [.own 33]))) 11 (some (.box 31 [.own 37]))) 13 (some (.box 31 [.own 300]))) 14 (some (.box 31 [.own 301]))) 15 (some (.box 3 [.c (.int .i64 (c : Nat))]))) 31 (some (.mrow 3 1 (rowF n (o))))) 33 (some (.mrow 3 1 (rowF n (l))))) 35 (some (.mrow 3 1 (rowF n (x))))) 37 (some (.mrow 3 1 (rowP n (p))))) 300 (some (.mrow 3 1 ((st).map cN)))) 301 (some (.mrow 3 1 ((ca).map cN)))) j).isSome = true := fun o l x p st ca c j hj => by rw [hkeep] at hj; exact mt_live hj.1
  rw [hc]
  have hcl' : cs.length + 1 ≤ n := by rw [hc] at hcl; simpa using hcl
  have hw1 := wrap_last (k := cs.length) (by omega)
  have hle : cs.length ≤ cs.length + 1 := by omega
  (repeat (first | refine W.seq ?_ | refine W.block ?_ | refine W.skip ?_ | refine W.exit ?_))
  refine W.region tab_ok 0 (by decide) (exec_run (by simp only [exa, beq_self_eq_true, ByteArray.size, Nat.reduceAdd, Nat.reduceLeDiff, Nat.reduceEqDiff, Nat.reduceMul, Int.reduceToNat, reduceIte, Int.reduceLE, Int.reduceNeg, List.length_map, List.length_append, hw1, Int.toNat_natCast, Nat.zero_le, hle, and_self]; rfl)) ?_
  refine W.rewinBox 14 0 301 rfl rfl rfl (by simp only [List.length_map, List.length_append, List.length_cons, List.length_nil]; omega) (by decide) (nk _ (by simp)) ?_
  have htk : (((cs ++ [i]).map cN).take cs.length).drop 0 = cs.map cN := take_last cs i
  refine W.weaken (st' := ⟨upd (upd (upd (upd (upd (upd (fun _ => .top) 0 (.c (.int .i64 (i : Nat)))) 1 (.ptr 14 0)) 2 (.ptr 9 0)) 3 (.ptr 8 0)) 4 (.ptr 13 0)) 5 (.ptr 11 0), upd (upd (upd (upd (upd (upd (upd (upd (upd (upd (upd (upd Mem.nil 8 (some (.box 31 [.own 31]))) 9 (some (.box 31 [.own 33]))) 11 (some (.box 31 [.own 37]))) 13 (some (.box 31 [.own 300]))) 14 (some (.box 31 [.own 301]))) 15 (some (.box 3 [.c (.int .i64 (s.cnt : Nat))]))) 31 (some (.mrow 3 1 (rowF n (s.ord))))) 33 (some (.mrow 3 1 (rowF n (s.low))))) 35 (some (.mrow 3 1 (rowF n (s.nxt))))) 37 (some (.mrow 3 1 (rowP n (s.part))))) 300 (some (.mrow 3 1 ((s.stack).map cN)))) 301 (some (.mrow 3 1 ((cs).map cN)))⟩) ?_ ?_
  · show Le _ _ _
    refine le_mk ?sle ?mle ?swf ?mwf (kept _ _ _ _ _ _ _) (by rfl)
    case swf => repeat (first | exact swf_top _ | refine swf_upd ?_ (by simp [A.ids, upd_app, htk, List.set]))
    case mwf => repeat (first | exact mwf_nil _ | refine mwf_upd ?_ (by simp [A.ids, O.ids, upd_app, htk, List.set]))
    case mle => repeat (first | exact mle_nil _ | exact mle_refl _ | refine mle_upd ?_ (by first | rfl | (simp only [upd_app, killM_app, O.kill, A.kill, Nat.reduceEqDiff, reduceIte, Option.map_some, Option.map_none, List.map_cons, List.map_nil, htk, List.set]; done)))
    case sle => repeat (first | exact sle_top _ | exact sle_refl _ | refine sle_upd ?_ (by first | rfl | (simp only [upd_app, killS_app, A.kill, entry_zero, entry_succ, Nat.reduceEqDiff, reduceIte, htk, List.set]; done)))
  refine W.seqCut ⟨upd (upd (upd (upd (upd (upd (fun _ => .top) 0 (.c (.int .i64 (i : Nat)))) 1 (.ptr 14 0)) 2 (.ptr 9 0)) 3 (.ptr 8 0)) 4 (.ptr 13 0)) 5 (.ptr 11 0), upd (upd (upd (upd (upd (upd (upd (upd (upd (upd (upd (upd Mem.nil 8 (some (.box 31 [.own 31]))) 9 (some (.box 31 [.own 33]))) 11 (some (.box 31 [.own 37]))) 13 (some (.box 31 [.own 300]))) 14 (some (.box 31 [.own 301]))) 15 (some (.box 3 [.c (.int .i64 (s.cnt : Nat))]))) 31 (some (.mrow 3 1 (rowF n (s.ord))))) 33 (some (.mrow 3 1 (rowF n ((lowUp s cs i)))))) 35 (some (.mrow 3 1 (rowF n (s.nxt))))) 37 (some (.mrow 3 1 (rowP n (s.part))))) 300 (some (.mrow 3 1 ((s.stack).map cN)))) 301 (some (.mrow 3 1 ((cs).map cN)))⟩ ?_ ?_
  · rcases list_last cs with rfl | ⟨cs, up, rfl⟩
    · repeat (first | refine W.seq ?_ | refine W.block ?_ | refine W.skip ?_ | refine W.exit ?_ | refine W.region tab_ok 0 (by decide) (exec_run (by simp only [exa, beq_self_eq_true, ByteArray.size, Nat.reduceAdd, Nat.reduceLeDiff, Nat.reduceEqDiff, Nat.reduceMul, Int.reduceToNat, reduceIte, Int.reduceLE, Int.reduceNeg]; rfl)) ?_)
      refine W.cond rfl ?_ ?_
      · intro h; simp at h
      · intro _
        refine W.skip ⟨rfl, ?_⟩
        refine le_mk ?sle ?mle ?swf ?mwf (kept _ _ _ _ _ _ _) (by rfl)
        case swf => repeat (first | exact swf_top _ | refine swf_upd ?_ (by simp [A.ids, upd_app, lowUp, List.getLast?_nil]))
        case mwf => repeat (first | exact mwf_nil _ | refine mwf_upd ?_ (by simp [A.ids, O.ids, upd_app, lowUp, List.getLast?_nil]))
        case mle => repeat (first | exact mle_nil _ | exact mle_refl _ | refine mle_upd ?_ (by first | rfl | (simp only [upd_app, killM_app, O.kill, A.kill, Nat.reduceEqDiff, reduceIte, Option.map_some, Option.map_none, List.map_cons, List.map_nil, lowUp, List.getLast?_nil]; done)))
        case sle => repeat (first | exact sle_top _ | exact sle_refl _ | refine sle_upd ?_ (by first | rfl | (simp only [upd_app, killS_app, A.kill, entry_zero, entry_succ, Nat.reduceEqDiff, reduceIte, lowUp, List.getLast?_nil]; done)))
    · have hup2 : up < n := hcn up (by simp)
      have hup0 : (0 : Int) ≤ (up : Int) := by omega
      have hne : up ≠ i := hup up (by simp)
      have hw2 := wrap_last (k := cs.length) (by simp at hcl'; omega)
      have hmin : (if (s.low i : Int) < (s.low up : Int) then (s.low i : Int) else (s.low up : Int)) = ((min (s.low up) (s.low i) : Nat) : Int) := by split <;> omega
      have hlu : lowUp s (cs ++ [up]) i = setF s.low up (min (s.low up) (s.low i)) := by simp [lowUp]
      repeat (first | refine W.seq ?_ | refine W.block ?_ | refine W.skip ?_ | refine W.exit ?_ | refine W.region tab_ok 0 (by decide) (exec_run (by simp only [exa, beq_self_eq_true, ByteArray.size, Nat.reduceAdd, Nat.reduceLeDiff, Nat.reduceEqDiff, Nat.reduceMul, Int.reduceToNat, reduceIte, Int.reduceLE, Int.reduceNeg, List.length_map, List.length_append]; rfl)) ?_)
      refine W.cond rfl ?_ ?_
      · intro _
        (repeat (first | refine W.seq ?_ | refine W.block ?_ | refine W.skip ?_ | refine W.exit ?_))
        refine W.region tab_ok 0 (by decide) (exec_run (by simp only [exa, beq_self_eq_true, ByteArray.size, Nat.reduceAdd, Nat.reduceLeDiff, Nat.reduceEqDiff, Nat.reduceMul, Int.reduceToNat, reduceIte, Int.reduceLE, Int.reduceNeg, List.length_map, List.length_append, hw2, last_at, cN, Int.toNat_natCast, Nat.lt_succ_self, and_self, Nat.zero_le]; rfl)) ?_
        (repeat (first | refine W.seq ?_ | refine W.block ?_ | refine W.skip ?_ | refine W.exit ?_))
        refine W.regionDK tab_ok 0 follows_mixed (by kernel_rfl) (by decide) ?_
        refine runk_exec (by simp only [exa, beq_self_eq_true, ByteArray.size, Nat.reduceAdd, Nat.reduceLeDiff, Nat.reduceEqDiff, Nat.reduceMul, Int.reduceToNat, reduceIte, Int.reduceLE, Int.reduceNeg, rowF_at hup2, rowF_at hi, rowF_len, hup2, hi, hup0, hi0, Int.toNat_natCast, and_self, hmin, rowF_set]; rfl) ?_
        refine ⟨rfl, ?_⟩
        rw [hlu]
        refine le_mk ?sle ?mle ?swf ?mwf (kept _ _ _ _ _ _ _) (by rfl)
        case swf => repeat (first | exact swf_top _ | refine swf_upd ?_ (by simp [A.ids, upd_app, cN]))
        case mwf => repeat (first | exact mwf_nil _ | refine mwf_upd ?_ (by simp [A.ids, O.ids, upd_app, cN]))
        case mle => repeat (first | exact mle_nil _ | exact mle_refl _ | refine mle_upd ?_ (by first | rfl | (simp only [upd_app, killM_app, O.kill, A.kill, Nat.reduceEqDiff, reduceIte, Option.map_some, Option.map_none, List.map_cons, List.map_nil, cN]; done)))
        case sle => repeat (first | exact sle_top _ | exact sle_refl _ | refine sle_upd ?_ (by first | rfl | (simp only [upd_app, killS_app, A.kill, entry_zero, entry_succ, Nat.reduceEqDiff, reduceIte, cN]; done)))
      · intro h; simp at h
  have hli : lowUp s cs i i = s.low i := by
    unfold lowUp
    cases hg : cs.getLast? with
    | none => rfl
    | some up => exact setF_ne _ (Ne.symm (hup up hg))
  (repeat (first | refine W.seq ?_ | refine W.block ?_ | refine W.skip ?_ | refine W.exit ?_))
  refine W.regionDK tab_ok 0 follows_mixed (by kernel_rfl) (by decide) ?_
  refine runk_exec (by simp only [exa, beq_self_eq_true, ByteArray.size, Nat.reduceAdd, Nat.reduceLeDiff, Nat.reduceEqDiff, Nat.reduceMul, Int.reduceToNat, reduceIte, Int.reduceLE, Int.reduceNeg, rowF_at hi, rowF_len, hi, hi0, Int.toNat_natCast, and_self, hli]; rfl) ?_
  (repeat (first | refine W.seq ?_ | refine W.block ?_ | refine W.skip ?_ | refine W.exit ?_))
  rcases hcase with ⟨h1, rfl, rfl⟩ | ⟨h1, seg, h2, rfl, h3, h4, h5⟩
  · refine W.cond rfl ?_ ?_
    · intro _
      refine W.ret ⟨.inr rfl, rfl, rfl, ?_⟩
      exact mle_refl' rfl
    · intro h; simp at h; omega
  · refine W.cond rfl ?_ ?_
    · intro h; simp [h1] at h
    · intro _
      (repeat (first | refine W.seq ?_ | refine W.block ?_ | refine W.skip ?_ | refine W.exit ?_))
      refine W.loop (ι := List Nat × List Nat) (fun x => ⟨upd (upd (upd (upd (upd (upd (fun _ => .top) 0 (.c (.int .i64 (i : Nat)))) 1 (.ptr 14 0)) 2 (.ptr 9 0)) 3 (.ptr 8 0)) 4 (.ptr 13 0)) 5 (.ptr 11 0), upd (upd (upd (upd (upd (upd (upd (upd (upd (upd (upd (upd Mem.nil 8 (some (.box 31 [.own 31]))) 9 (some (.box 31 [.own 33]))) 11 (some (.box 31 [.own 37]))) 13 (some (.box 31 [.own 300]))) 14 (some (.box 31 [.own 301]))) 15 (some (.box 3 [.c (.int .i64 (s.cnt : Nat))]))) 31 (some (.mrow 3 1 (rowF n (s.ord))))) 33 (some (.mrow 3 1 (rowF n ((lowUp s cs i)))))) 35 (some (.mrow 3 1 (rowF n (s.nxt))))) 37 (some (.mrow 3 1 (rowP n ((partL s.part i x.2)))))) 300 (some (.mrow 3 1 (((stack' ++ (i :: x.1))).map cN)))) 301 (some (.mrow 3 1 ((cs).map cN)))⟩) (fun x => seg = x.1 ++ x.2) (fun x => x.1.length) (seg, []) ?start (by simp) ?round
      case start =>
        rw [h2, partL_nil]
        refine le_mk ?sle ?mle ?swf ?mwf (kept _ _ _ _ _ _ _) (by rfl)
        case swf => repeat (first | exact swf_top _ | refine swf_upd ?_ (by simp [A.ids, upd_app]))
        case mwf => repeat (first | exact mwf_nil _ | refine mwf_upd ?_ (by simp [A.ids, O.ids, upd_app]))
        case mle => repeat (first | exact mle_nil _ | exact mle_refl _ | refine mle_upd ?_ (by first | rfl | (simp only [upd_app, killM_app, O.kill, A.kill, Nat.reduceEqDiff, reduceIte, Option.map_some, Option.map_none, List.map_cons, List.map_nil]; done)))
        case sle => repeat (first | exact sle_top _ | exact sle_refl _ | refine sle_upd ?_ (by first | rfl | (simp only [upd_app, killS_app, A.kill, entry_zero, entry_succ, Nat.reduceEqDiff, reduceIte]; done)))
      case round =>
        rintro ⟨q, done⟩ hq
        simp only at hq
        have hlen : s.stack.length = stack'.length + 1 + q.length + done.length := by rw [h2, hq]; simp; omega
        have hw3 := wrap_last (k := stack'.length + q.length) (by omega)
        -- the last one of the stack
        obtain ⟨z, front, hfront, hzn, hz⟩ : ∃ z front, stack' ++ (i :: q) = front ++ [z] ∧ z < n ∧ ((q = [] ∧ z = i ∧ front = stack') ∨ ∃ q', q = q' ++ [z] ∧ z ≠ i ∧ front = stack' ++ (i :: q')) := by
          rcases list_last q with rfl | ⟨q', z, rfl⟩
          · exact ⟨i, stack', rfl, hi, .inl ⟨rfl, rfl, rfl⟩⟩
          · refine ⟨z, stack' ++ (i :: q'), by simp, h4 z (by rw [hq]; simp), .inr ⟨q', rfl, fun e => h3 (by rw [hq, ← e]; simp), rfl⟩⟩
        have hfl : front.length = stack'.length + q.length := by
          have := congrArg List.length hfront
          simp at this; omega
        rw [← hfl] at hw3
        have hz0 : (0 : Int) ≤ (z : Int) := by omega
        have hlef : front.length ≤ front.length + 1 := by omega
        rw [hfront]
        (repeat (first | refine W.seq ?_ | refine W.block ?_ | refine W.skip ?_ | refine W.exit ?_))
        refine W.region tab_ok 0 (by decide) (exec_run (by simp only [exa, beq_self_eq_true, ByteArray.size, Nat.reduceAdd, Nat.reduceLeDiff, Nat.reduceEqDiff, Nat.reduceMul, Int.reduceToNat, reduceIte, Int.reduceLE, Int.reduceNeg, List.length_map, List.length_append, hw3, last_at, cN, Int.toNat_natCast, Nat.lt_succ_self, and_self, Nat.zero_le]; rfl)) ?_
        (repeat (first | refine W.seq ?_ | refine W.block ?_ | refine W.skip ?_ | refine W.exit ?_))
        refine W.region tab_ok 0 (by decide) (exec_run (by simp only [exa, beq_self_eq_true, ByteArray.size, Nat.reduceAdd, Nat.reduceLeDiff, Nat.reduceEqDiff, Nat.reduceMul, Int.reduceToNat, reduceIte, Int.reduceLE, Int.reduceNeg, List.length_map, List.length_append, hw3, cN, Int.toNat_natCast, Nat.lt_succ_self, and_self, Nat.zero_le, hlef]; rfl)) ?_
        refine W.rewinBox 13 0 300 rfl rfl rfl (by simp only [List.length_map, List.length_append, List.length_cons, List.length_nil]; omega) (by decide) (nk _ (by simp)) ?_
        have htk2 : ((front ++ [z]).map cN).take front.length = front.map cN := take_last front z
        (repeat (first | refine W.seq ?_ | refine W.block ?_ | refine W.skip ?_ | refine W.exit ?_))
        refine W.region tab_ok 0 (by decide) (exec_run (by simp only [exa, beq_self_eq_true, ByteArray.size, Nat.reduceAdd, Nat.reduceLeDiff, Nat.reduceEqDiff, Nat.reduceMul, Int.reduceToNat, reduceIte, Int.reduceLE, Int.reduceNeg, rowP_len, hzn, hz0, Int.toNat_natCast, and_self, rowP_at hzn, rowP_set]; rfl)) ?_
        (repeat (first | refine W.seq ?_ | refine W.block ?_ | refine W.skip ?_ | refine W.exit ?_))
        refine W.region tab_ok 0 (by decide) (exec_run (by simp only [exa, beq_self_eq_true, ByteArray.size, Nat.reduceAdd, Nat.reduceLeDiff, Nat.reduceEqDiff, Nat.reduceMul, Int.reduceToNat, reduceIte, Int.reduceLE, Int.reduceNeg]; rfl)) ?_
        (repeat (first | refine W.seq ?_ | refine W.block ?_ | refine W.skip ?_ | refine W.exit ?_))
        rcases hz with ⟨rfl, rfl, rfl⟩ | ⟨q', rfl, hzi, rfl⟩
        · refine W.cond rfl ?_ ?_
          · intro _
            have hpd : setP (partL s.part z done) z (some z) = partL s.part z (z :: seg) := by
              rw [partL_cons]; rw [hq, List.nil_append]
            refine W.ret ⟨.inr rfl, rfl, rfl, ?_⟩
            repeat (first | exact mle_nil _ | refine mle_upd ?_ (by first | rfl | (simp only [upd_app, killM_app, O.kill, A.kill, Nat.reduceEqDiff, reduceIte, Option.map_some, Option.map_none, List.map_cons, List.map_nil, List.set, htk2, hpd]; done)))
          · intro h; simp at h
        · refine W.cond rfl ?_ ?_
          · intro h; simp at h; omega
          · intro _
            (repeat (first | refine W.seq ?_ | refine W.block ?_ | refine W.skip ?_ | refine W.exit ?_))
            refine ⟨(q', z :: done), by rw [hq]; simp, by simp, ?_⟩
            rw [← partL_cons]
            refine le_mk ?sle ?mle ?swf ?mwf (kept _ _ _ _ _ _ _) (by rfl)
            case swf => repeat (first | exact swf_top _ | refine swf_upd ?_ (by simp [A.ids, upd_app, htk2, List.set]))
            case mwf => repeat (first | exact mwf_nil _ | refine mwf_upd ?_ (by simp [A.ids, O.ids, upd_app, htk2, List.set]))
            case mle => repeat (first | exact mle_nil _ | exact mle_refl _ | refine mle_upd ?_ (by first | rfl | (simp only [upd_app, killM_app, O.kill, A.kill, Nat.reduceEqDiff, reduceIte, Option.map_some, Option.map_none, List.map_cons, List.map_nil, htk2, List.set]; done)))
            case sle => repeat (first | exact sle_top _ | exact sle_refl _ | refine sle_upd ?_ (by first | rfl | (simp only [upd_app, killS_app, A.kill, entry_zero, entry_succ, Nat.reduceEqDiff, reduceIte, htk2, List.set]; done)))
end V
end Go.Proofs.YtknmcmfdbfhadaaDoor
end
section
/- graph.numbered: parts get numbers by their least nodes. -/
set_option linter.unusedVariables false
set_option linter.unusedSimpArgs false
namespace Go.Proofs.YtknmcmfdbfhadaaDoor
namespace V
open Go.RowKit G
/-- A number for each node. -/
def rowZ (n : Nat) (f : Nat → Int) : List (List C) := (List.range n).map fun i => [.int .i64 (f i)]
theorem rowZ_len (n : Nat) (f : Nat → Int) : (rowZ n f).length = n := by simp [rowZ]
theorem rowZ_at {n k : Nat} {f : Nat → Int} (h : k < n) : (rowZ n f)[k]? = some [.int .i64 (f k)] := by simp [rowZ, h]
theorem rowZ_set {n k : Nat} {f : Nat → Int} {v : Int} : (rowZ n f).set k [.int .i64 v] = rowZ n (fun j => if j = k then v else f j) := by
  refine List.ext_getElem? fun i => ?_
  rw [List.getElem?_set, rowZ_len]
  by_cases hi : i < n
  · rw [rowZ_at hi, rowZ_at hi]
    by_cases e : k = i
    · subst e; simp [hi]
    · rw [if_neg e]; simp [Ne.symm e]
  · have h1 : (rowZ n f)[i]? = none := by rw [List.getElem?_eq_none]; rw [rowZ_len]; omega
    have h2 : (rowZ n (fun j => if j = k then v else f j))[i]? = none := by rw [List.getElem?_eq_none]; rw [rowZ_len]; omega
    rw [h1, h2]
    split
    · rw [if_neg (by omega)]
    · rfl
theorem rowZ_congr {n : Nat} {f g : Nat → Int} (h : ∀ i, i < n → f i = g i) : rowZ n f = rowZ n g := by
  refine List.map_congr_left fun i hi => ?_
  rw [h i (List.mem_range.1 hi)]
theorem rep_rowZ (n : Nat) : List.replicate n [C.int .i64 0] = rowZ n (fun _ => 0) := by
  refine List.ext_getElem? fun i => ?_
  by_cases hi : i < n
  · rw [rowZ_at hi]; simp [hi]
  · rw [List.getElem?_eq_none (by simpa using hi), List.getElem?_eq_none (by rw [rowZ_len]; omega)]
/-- The map's entries: each key's place. -/
def entsZ : Nat → List Int → List (A1 × A1)
  | _, [] => []
  | b, z :: l => (.c (.int .i64 z), .c (.int .i64 b)) :: entsZ (b + 1) l
theorem entsZ_len : ∀ (b : Nat) (l : List Int), (entsZ b l).length = l.length
  | _, [] => rfl
  | b, z :: l => by simp [entsZ, entsZ_len (b + 1) l]
theorem entsZ_push : ∀ (b : Nat) (l : List Int) (z : Int), entsZ b (l ++ [z]) = entsZ b l ++ [(.c (.int .i64 z), .c (.int .i64 ((b + l.length : Nat) : Int)))]
  | b, [], z => by simp [entsZ]
  | b, y :: l, z => by
    rw [List.cons_append, entsZ, entsZ_push (b + 1) l z, entsZ, List.cons_append, List.length_cons, show b + 1 + l.length = b + (l.length + 1) by omega]
theorem entsZ_flat : ∀ (b : Nat) (l : List Int), (entsZ b l).flatMap (fun p => p.1.ids ++ p.2.ids) = []
  | _, [] => rfl
  | b, z :: l => by rw [entsZ, List.flatMap_cons, entsZ_flat (b + 1) l]; rfl
theorem c_ids (x : C) : (A1.c x).ids = [] := rfl
theorem findZ_none (z : Int) : ∀ (b : Nat) (l : List Int), z ∉ l → findE (.c (.int .i64 z)) (entsZ b l) = some none
  | _, [], _ => rfl
  | b, y :: l, h => by
    simp only [List.mem_cons, not_or] at h
    simp only [entsZ, findE, keyEq, if_true, decide_eq_false h.1, findZ_none z (b + 1) l h.2]
theorem findZ_some (z : Int) : ∀ (b : Nat) (l : List Int) (q : Nat), l[q]? = some z → (∀ i < q, l[i]? ≠ some z) → findE (.c (.int .i64 z)) (entsZ b l) = some (some (q, .c (.int .i64 ((b + q : Nat) : Int))))
  | _, [], _, h, _ => by simp at h
  | b, y :: l, 0, h, _ => by
    simp at h; subst h
    simp [entsZ, findE, keyEq]
  | b, y :: l, q + 1, h, hno => by
    have hy : z ≠ y := fun e => hno 0 (by omega) (by simp [e])
    have ih := findZ_some z (b + 1) l q (by simpa using h) (fun i hi => by have := hno (i + 1) (by omega); simpa using this)
    simp only [entsZ, findE, keyEq, if_true, decide_eq_false hy, ih]
    rw [show b + 1 + q = b + (q + 1) by omega]
/-- Where a class's key stands. -/
theorem lead_at {p : Nat → Int} {k : Nat} : (isF p k = true → p k ∉ (leads p k).map p) ∧ (isF p k = false → ((leads p k).map p)[numN p k]? = some (p k) ∧ ∀ i < numN p k, ((leads p k).map p)[i]? ≠ some (p k)) := by
  constructor
  · intro h hm
    obtain ⟨j, hj, e⟩ := List.mem_map.1 hm
    exact isF_iff.1 h j (mem_leads.1 hj).1 e
  · intro h
    obtain ⟨i, h1, h2, h3⟩ := first_of p k
    have hik : i < k := by
      rcases Nat.lt_or_ge i k with q | q
      · exact q
      · obtain rfl : i = k := by omega
        rw [h] at h3; cases h3
    have hpre : ∀ d, leads p (i + 1 + d) = leads p i ++ (i :: ((leads p (i + 1 + d)).drop ((leads p i).length + 1))) := fun d => by
      induction d with
      | zero => rw [Nat.add_zero, leads_succ, if_pos h3]; simp
      | succ d ih =>
        rw [show i + 1 + (d + 1) = (i + 1 + d) + 1 by omega, leads_succ]
        conv => lhs; rw [ih]
        conv => rhs; rw [ih]
        simp
    have hk := hpre (k - (i + 1))
    rw [show i + 1 + (k - (i + 1)) = k by omega] at hk
    rw [numN_eq h3 h2, hk, List.map_append, List.map_cons]
    have hl : ((leads p i).map p).length = (leads p i).length := by simp
    constructor
    · rw [← hl, List.getElem?_append_right (Nat.le_refl _), Nat.sub_self]
      simp [h2]
    · intro q hq hx
      rw [List.getElem?_append_left (by rw [hl]; exact hq)] at hx
      have hm := List.mem_of_getElem? hx
      obtain ⟨j, hj, e⟩ := List.mem_map.1 hm
      exact isF_iff.1 h3 j (mem_leads.1 hj).1 (e.trans h2.symm)
set_option maxHeartbeats 2000000 in
theorem numbered_ok (n : Nat) (hn : n ≤ 100000) (p : Nat → Int) (m : Mem) : COk Tryd.prog 37 [.c (.sl (rowZ n p))] m (.c (.sl (rowZ n fun i => (numN p i : Nat)))) := by
  have hm1 : n * 8 ≤ 140737488355328 := by omega
  have hm2 : (n : Int) ≤ 9223372036854775807 := by omega
  have hn0 : (0 : Int) ≤ (n : Int) := by omega
  refine (ok_pure tab_ok Tryd.func37 (by kernel_rfl) rfl rfl (by rfl) (by rfl) (by rfl) (fun R hkeep => ?_) m)
  repeat (first | refine W.seq ?_ | refine W.block ?_ | refine W.skip ?_ | refine W.exit ?_ | refine W.region tab_ok 0 (by decide) (exec_run (by simp only [exa, beq_self_eq_true, ByteArray.size, Nat.reduceAdd, Nat.reduceLeDiff, Nat.reduceEqDiff, Nat.reduceMul, Int.reduceToNat, reduceIte, Int.reduceLE, Int.reduceNeg, rowZ_len, hm1, hm2, hn0, Int.toNat_natCast, and_self, Bool.false_eq_true, rep_rowZ]; rfl)) ?_)
  refine W.loop (ι := Nat) (fun k => ⟨upd (upd (upd (upd (upd (fun _ => .top) 3 (.map 9)) 4 (.own 12)) 13 (.c (.sl (rowZ n p)))) 14 (.c (.int .i64 n))) 15 (.c (.int .i64 k)),
      upd (upd Mem.nil 9 (some (.map (entsZ 0 ((leads p k).map p))))) 12 (some (.mrow 3 1 (rowZ n fun i => if i < k then (numN p i : Nat) else 0)))⟩) (fun k => k ≤ n) (fun k => n - k) 0 ?start (Nat.zero_le _) ?round
  case start =>
    refine le_mk ?sle ?mle ?swf ?mwf (kept_not hkeep) (by rfl)
    case swf => repeat (first | exact swf_top _ | refine swf_upd ?_ (by simp [A.ids, upd_app, Nat.not_lt_zero, if_false, entsZ_flat, leads, List.range_zero, List.filter_nil, entsZ]))
    case mwf => repeat (first | exact mwf_nil _ | refine mwf_upd ?_ (by simp [A.ids, O.ids, upd_app, Nat.not_lt_zero, if_false, entsZ_flat, leads, List.range_zero, List.filter_nil, entsZ]))
    case mle => repeat (first | exact mle_nil _ | exact mle_refl _ | refine mle_upd ?_ (by first | rfl | (simp only [upd_app, killM_app, O.kill, A.kill, Nat.reduceEqDiff, reduceIte, Option.map_some, Option.map_none, List.map_cons, List.map_nil, Nat.not_lt_zero, if_false, entsZ_flat, leads, List.range_zero, List.filter_nil, entsZ]; done)))
    case sle => repeat (first | exact sle_top _ | exact sle_refl _ | refine sle_upd ?_ (by first | rfl | (simp only [upd_app, killS_app, A.kill, entry_zero, entry_succ, Nat.reduceEqDiff, reduceIte, Nat.not_lt_zero, if_false, entsZ_flat, leads, List.range_zero, List.filter_nil, entsZ]; done)))
  case round =>
    intro k hk
    repeat (first | refine W.seq ?_ | refine W.block ?_ | refine W.skip ?_ | refine W.exit ?_ | refine W.region tab_ok 0 (by decide) (exec_run (by simp only [exa, beq_self_eq_true, ByteArray.size, Nat.reduceAdd, Nat.reduceLeDiff, Nat.reduceEqDiff, Nat.reduceMul, Int.reduceToNat, reduceIte, Int.reduceLE, Int.reduceNeg]; rfl)) ?_)
    refine W.cond rfl ?_ ?_
    · intro hlt
      simp only [decide_eq_true_eq, Int.ofNat_lt] at hlt
      have hlen : (entsZ 0 ((leads p k).map p)).length = (leads p k).length := by rw [entsZ_len, List.length_map]
      have hll := leads_len p k
      have hset : (rowZ n fun i => if i < k then ((numN p i : Nat) : Int) else 0).set k [C.int .i64 ((numN p k : Nat) : Int)] = rowZ n fun i => if i < k + 1 then ((numN p i : Nat) : Int) else 0 := by
        rw [rowZ_set]
        refine rowZ_congr fun i hi => ?_
        by_cases e : i = k
        · subst e; simp
        · by_cases q : i < k
          · simp [e, q, show i < k + 1 by omega]
          · simp [e, q, show ¬ i < k + 1 by omega]
      (repeat (first | refine W.seq ?_ | refine W.block ?_ | refine W.skip ?_ | refine W.exit ?_))
      refine W.region tab_ok 0 (by decide) (exec_run (by simp only [exa, beq_self_eq_true, ByteArray.size, Nat.reduceAdd, Nat.reduceLeDiff, Nat.reduceEqDiff, Nat.reduceMul, Int.reduceToNat, reduceIte, Int.reduceLE, Int.reduceNeg, rowZ_at hlt]; rfl)) ?_
      cases hf : isF p k with
      | true =>
        have hfind := findZ_none (p k) 0 _ (lead_at.1 hf)
        have hnum : numN p k = (leads p k).length := numN_eq hf rfl
        (repeat (first | refine W.seq ?_ | refine W.block ?_ | refine W.skip ?_ | refine W.exit ?_))
        refine W.region tab_ok 0 (by decide) (exec_run (by simp only [exa, beq_self_eq_true, ByteArray.size, Nat.reduceAdd, Nat.reduceLeDiff, Nat.reduceEqDiff, Nat.reduceMul, Int.reduceToNat, reduceIte, Int.reduceLE, Int.reduceNeg, hfind]; rfl)) ?_
        (repeat (first | refine W.seq ?_ | refine W.block ?_ | refine W.skip ?_ | refine W.exit ?_))
        refine W.region tab_ok 0 (by decide) (exec_run (by simp only [exa, beq_self_eq_true, ByteArray.size, Nat.reduceAdd, Nat.reduceLeDiff, Nat.reduceEqDiff, Nat.reduceMul, Int.reduceToNat, reduceIte, Int.reduceLE, Int.reduceNeg]; rfl)) ?_
        (repeat (first | refine W.seq ?_ | refine W.block ?_ | refine W.skip ?_ | refine W.exit ?_))
        refine W.cond rfl ?_ ?_
        · intro _
          (repeat (first | refine W.seq ?_ | refine W.block ?_ | refine W.skip ?_ | refine W.exit ?_))
          refine W.region tab_ok 0 (by decide) (exec_run (by simp only [exa, beq_self_eq_true, ByteArray.size, Nat.reduceAdd, Nat.reduceLeDiff, Nat.reduceEqDiff, Nat.reduceMul, Int.reduceToNat, reduceIte, Int.reduceLE, Int.reduceNeg, hlen, show (leads p k).length ≤ 4611686018427387904 by omega]; rfl)) ?_
          (repeat (first | refine W.seq ?_ | refine W.block ?_ | refine W.skip ?_ | refine W.exit ?_))
          refine W.regionK tab_ok 0 (by decide) ?_
          refine runk_split 3 (by simp only [exa, beq_self_eq_true, ByteArray.size, Nat.reduceAdd, Nat.reduceLeDiff, Nat.reduceEqDiff, Nat.reduceMul, Int.reduceToNat, reduceIte, Int.reduceLE, Int.reduceNeg]; rfl) ?_
          refine runk_put tab_ok (ents := (entsZ 0 ((leads p k).map p))) rfl (.inl rfl) rfl rfl (by first | rfl | (simp only [exa, beq_self_eq_true, ByteArray.size, Nat.reduceAdd, Nat.reduceLeDiff, Nat.reduceEqDiff, Nat.reduceMul, Int.reduceToNat, reduceIte, Int.reduceLE, Int.reduceNeg]; done)) rfl (by first | rfl | (simp only [exa, beq_self_eq_true, ByteArray.size, Nat.reduceAdd, Nat.reduceLeDiff, Nat.reduceEqDiff, Nat.reduceMul, Int.reduceToNat, reduceIte, Int.reduceLE, Int.reduceNeg]; rfl)) (by rfl) (by first | rfl | (simp only [exa, beq_self_eq_true, ByteArray.size, Nat.reduceAdd, Nat.reduceLeDiff, Nat.reduceEqDiff, Nat.reduceMul, Int.reduceToNat, reduceIte, Int.reduceLE, Int.reduceNeg]; rfl)) hfind ?_
          refine runk_exec (by simp only [exa, beq_self_eq_true, ByteArray.size, Nat.reduceAdd, Nat.reduceLeDiff, Nat.reduceEqDiff, Nat.reduceMul, Int.reduceToNat, reduceIte, Int.reduceLE, Int.reduceNeg]; rfl) ?_
          repeat (first | refine W.seq ?_ | refine W.block ?_ | refine W.skip ?_ | refine W.exit ?_ | refine W.region tab_ok 0 (by decide) (exec_run (by simp only [exa, beq_self_eq_true, ByteArray.size, Nat.reduceAdd, Nat.reduceLeDiff, Nat.reduceEqDiff, Nat.reduceMul, Int.reduceToNat, reduceIte, Int.reduceLE, Int.reduceNeg, rowZ_at hlt, rowZ_len, hlt, Int.toNat_natCast, and_self, putE]; rfl)) ?_)
          refine ⟨k + 1, hlt, by omega, ?_⟩
          rw [leads_succ, if_pos hf, List.map_append, List.map_cons, List.map_nil, entsZ_push, List.length_map, Nat.zero_add]
          rw [hnum] at hset
          refine le_mk ?sle ?mle ?swf ?mwf (kept_not hkeep) (by rfl)
          case swf => repeat (first | exact swf_top _ | refine swf_upd ?_ (by simp [A.ids, upd_app, hset, entsZ_flat, putE, List.flatMap_append, c_ids, wrap_succ (show k + 1 < 9223372036854775808 by omega)]))
          case mwf => repeat (first | exact mwf_nil _ | refine mwf_upd ?_ (by simp [A.ids, O.ids, upd_app, hset, entsZ_flat, putE, List.flatMap_append, c_ids, wrap_succ (show k + 1 < 9223372036854775808 by omega)]))
          case mle => repeat (first | exact mle_nil _ | exact mle_refl _ | refine mle_upd ?_ (by first | rfl | (simp only [upd_app, killM_app, O.kill, A.kill, Nat.reduceEqDiff, reduceIte, Option.map_some, Option.map_none, List.map_cons, List.map_nil, hset, entsZ_flat, putE, List.flatMap_append, c_ids, wrap_succ (show k + 1 < 9223372036854775808 by omega)]; done)))
          case sle => repeat (first | exact sle_top _ | exact sle_refl _ | refine sle_upd ?_ (by first | rfl | (simp only [upd_app, killS_app, A.kill, entry_zero, entry_succ, Nat.reduceEqDiff, reduceIte, hset, entsZ_flat, putE, List.flatMap_append, c_ids, wrap_succ (show k + 1 < 9223372036854775808 by omega)]; done)))
        · intro h; cases h
      | false =>
        have hfind := findZ_some (p k) 0 _ _ (lead_at.2 hf).1 (lead_at.2 hf).2
        rw [Nat.zero_add] at hfind
        (repeat (first | refine W.seq ?_ | refine W.block ?_ | refine W.skip ?_ | refine W.exit ?_))
        refine W.region tab_ok 0 (by decide) (exec_run (by simp only [exa, beq_self_eq_true, ByteArray.size, Nat.reduceAdd, Nat.reduceLeDiff, Nat.reduceEqDiff, Nat.reduceMul, Int.reduceToNat, reduceIte, Int.reduceLE, Int.reduceNeg, hfind]; rfl)) ?_
        (repeat (first | refine W.seq ?_ | refine W.block ?_ | refine W.skip ?_ | refine W.exit ?_))
        refine W.region tab_ok 0 (by decide) (exec_run (by simp only [exa, beq_self_eq_true, ByteArray.size, Nat.reduceAdd, Nat.reduceLeDiff, Nat.reduceEqDiff, Nat.reduceMul, Int.reduceToNat, reduceIte, Int.reduceLE, Int.reduceNeg]; rfl)) ?_
        (repeat (first | refine W.seq ?_ | refine W.block ?_ | refine W.skip ?_ | refine W.exit ?_))
        refine W.cond rfl ?_ ?_
        · intro h; cases h
        · intro _
          repeat (first | refine W.seq ?_ | refine W.block ?_ | refine W.skip ?_ | refine W.exit ?_ | refine W.region tab_ok 0 (by decide) (exec_run (by simp only [exa, beq_self_eq_true, ByteArray.size, Nat.reduceAdd, Nat.reduceLeDiff, Nat.reduceEqDiff, Nat.reduceMul, Int.reduceToNat, reduceIte, Int.reduceLE, Int.reduceNeg, rowZ_at hlt, rowZ_len, hlt, Int.toNat_natCast, and_self]; rfl)) ?_)
          refine ⟨k + 1, hlt, by omega, ?_⟩
          rw [leads_succ, if_neg (by simp [hf]), List.append_nil]
          refine le_mk ?sle ?mle ?swf ?mwf (kept_not hkeep) (by rfl)
          case swf => repeat (first | exact swf_top _ | refine swf_upd ?_ (by simp [A.ids, upd_app, hset, entsZ_flat, wrap_succ (show k + 1 < 9223372036854775808 by omega)]))
          case mwf => repeat (first | exact mwf_nil _ | refine mwf_upd ?_ (by simp [A.ids, O.ids, upd_app, hset, entsZ_flat, wrap_succ (show k + 1 < 9223372036854775808 by omega)]))
          case mle => repeat (first | exact mle_nil _ | exact mle_refl _ | refine mle_upd ?_ (by first | rfl | (simp only [upd_app, killM_app, O.kill, A.kill, Nat.reduceEqDiff, reduceIte, Option.map_some, Option.map_none, List.map_cons, List.map_nil, hset, entsZ_flat, wrap_succ (show k + 1 < 9223372036854775808 by omega)]; done)))
          case sle => repeat (first | exact sle_top _ | exact sle_refl _ | refine sle_upd ?_ (by first | rfl | (simp only [upd_app, killS_app, A.kill, entry_zero, entry_succ, Nat.reduceEqDiff, reduceIte, hset, entsZ_flat, wrap_succ (show k + 1 < 9223372036854775808 by omega)]; done)))
    · intro hge
      simp only [decide_eq_false_iff_not, Int.ofNat_lt] at hge
      obtain rfl : k = n := by omega
      repeat (first | refine W.seq ?_ | refine W.block ?_ | refine W.skip ?_ | refine W.exit ?_ | refine W.region tab_ok 0 (by decide) (exec_run (by simp only [exa, beq_self_eq_true, ByteArray.size, Nat.reduceAdd, Nat.reduceLeDiff, Nat.reduceEqDiff, Nat.reduceMul, Int.reduceToNat, reduceIte, Int.reduceLE, Int.reduceNeg]; rfl)) ?_)
      refine W.freeze 2 12 rfl (by simp only [exa, beq_self_eq_true, ByteArray.size, Nat.reduceAdd, Nat.reduceLeDiff, Nat.reduceEqDiff, Nat.reduceMul, Int.reduceToNat, reduceIte, Int.reduceLE, Int.reduceNeg]; rfl) (nokeep hkeep) ?_
      refine W.ret ⟨.inr rfl, by rfl, ?_⟩
      simp only [Tryd.f37, resA, resOne, toT, fin, exa, beq_self_eq_true, ByteArray.size, Nat.reduceAdd, Nat.reduceLeDiff, Nat.reduceEqDiff, Nat.reduceMul, Int.reduceToNat, reduceIte, Int.reduceLE, Int.reduceNeg]
      rw [rowZ_congr fun i hi => if_pos hi]
end V
end Go.Proofs.YtknmcmfdbfhadaaDoor
end
section
/- graph.Parts: which nodes stand in one. -/
set_option linter.unusedVariables false
set_option linter.unusedSimpArgs false
namespace Go.Proofs.YtknmcmfdbfhadaaDoor
namespace V
open Go.RowKit G
theorem nodup_stack {E : List (Nat × Nat)} {L : Nat → List Nat} {n : Nat} {s : TS} {pend : Option (Nat × Nat)} (h : TInv E L n s pend) : s.stack.Nodup ∧ s.stack.length ≤ n ∧ s.calls.length ≤ n := by
  have hn : s.stack.Nodup := h.incr.imp fun {a b} hab e => by subst e; exact Nat.lt_irrefl _ hab
  have hl : ∀ x ∈ s.stack, x < n := fun x hx => h.lt x ((h.stk x).1 hx).1
  have h1 := nodup_le hn hl
  exact ⟨hn, h1, Nat.le_trans h.sub.length_le h1⟩
/-- What is left to be gone through. -/
def remN (L : Nat → List Nat) (nx : Nat → Nat) : Nat → Nat
  | 0 => 0
  | n + 1 => remN L nx n + ((L n).length - nx n)
theorem remN_adv {L : Nat → List Nat} {nx : Nat → Nat} {i : Nat} (hi : nx i < (L i).length) : ∀ n, remN L (setF nx i (nx i + 1)) n + (if i < n then 1 else 0) = remN L nx n
  | 0 => by simp [remN]
  | n + 1 => by
    have ih := remN_adv hi n
    simp only [remN]
    by_cases e : n = i
    · subst e
      rw [if_neg (by omega)] at ih
      rw [setF_same, if_pos (by omega)]
      omega
    · rw [setF_ne _ e]
      by_cases q : i < n
      · rw [if_pos q] at ih; rw [if_pos (by omega)]; omega
      · rw [if_neg q] at ih; rw [if_neg (by omega)]; omega
theorem rowK_part (n : Nat) : rowK n n = rowP n (fun _ => none) := by
  refine List.ext_getElem? fun i => ?_
  by_cases hi : i < n
  · rw [rowK_at hi, rowP_at hi, if_pos hi]; rfl
  · rw [List.getElem?_eq_none (by rw [rowK_len]; omega), List.getElem?_eq_none (by rw [rowP_len]; omega)]
theorem rowF_K (n : Nat) : rowF n (fun _ => 0) = rowK n 0 := by rw [← rep_rowF, rowK_zero]
theorem rowP_Z (n : Nat) (p : Nat → Option Nat) : rowP n p = rowZ n (fun i => optI (p i)) := rfl
set_option maxHeartbeats 4000000 in
theorem partsG_ok (n : Nat) (hn : n ≤ 100000) (E : List (Nat × Nat)) (hlen : E.length ≤ 1000000) (hE : ∀ e ∈ E, e.1 < n ∧ e.2 < n) (m : Mem) :
    COk Tryd.prog 20 [.c (.int .i64 n), .c (.sl (E.map cEd))] m (.tup [(false, [.sl (rowZ n fun i => (partE E i : Nat))]), (false, [.int .i64 0])]) := by
  have hm1 : n * 8 ≤ 140737488355328 := by omega
  have hm2 : (n : Int) ≤ 9223372036854775807 := by omega
  have hn0 : (0 : Int) ≤ (n : Int) := by omega
  refine (ok_pure tab_ok Tryd.func20 (by kernel_rfl) rfl rfl (by rfl) (by rfl) (by rfl) (fun R hkeep => ?_) m)
  repeat (first | refine W.seq ?_ | refine W.block ?_ | refine W.skip ?_ | refine W.exit ?_ | refine W.region tab_ok 0 (by decide) (exec_run (by simp only [exa, beq_self_eq_true, ByteArray.size, Nat.reduceAdd, Nat.reduceLeDiff, Nat.reduceEqDiff, Nat.reduceMul, Int.reduceToNat, reduceIte, Int.reduceLE, Int.reduceNeg]; rfl)) ?_)
  refine W.regionK tab_ok 0 (by decide) ?_
  refine runk_split 2 (by simp only [exa, beq_self_eq_true, ByteArray.size, Nat.reduceAdd, Nat.reduceLeDiff, Nat.reduceEqDiff, Nat.reduceMul, Int.reduceToNat, reduceIte, Int.reduceLE, Int.reduceNeg]; rfl) ?_
  refine runk_call rfl rfl rfl rfl rfl (by simp) (cvs_cons cv_refl (cvs_cons cv_refl cvs_nil)) (checkN_ok hn hlen hE _) ?_
  refine runk_exec (by simp only [exa, beq_self_eq_true, ByteArray.size, Nat.reduceAdd, Nat.reduceLeDiff, Nat.reduceEqDiff, Nat.reduceMul, Int.reduceToNat, reduceIte, Int.reduceLE, Int.reduceNeg]; rfl) ?_
  (repeat (first | refine W.seq ?_ | refine W.block ?_ | refine W.skip ?_ | refine W.exit ?_))
  refine W.region tab_ok 0 (by decide) (exec_run (by simp only [exa, beq_self_eq_true, ByteArray.size, Nat.reduceAdd, Nat.reduceLeDiff, Nat.reduceEqDiff, Nat.reduceMul, Int.reduceToNat, reduceIte, Int.reduceLE, Int.reduceNeg]; rfl)) ?_
  (repeat (first | refine W.seq ?_ | refine W.block ?_ | refine W.skip ?_ | refine W.exit ?_))
  refine W.cond rfl ?_ ?_
  · intro h; cases h
  intro _
  (repeat (first | refine W.seq ?_ | refine W.block ?_ | refine W.skip ?_ | refine W.exit ?_))
  refine W.regionK tab_ok 0 (by decide) ?_
  refine runk_split 2 (by simp only [exa, beq_self_eq_true, ByteArray.size, Nat.reduceAdd, Nat.reduceLeDiff, Nat.reduceEqDiff, Nat.reduceMul, Int.reduceToNat, reduceIte, Int.reduceLE, Int.reduceNeg]; rfl) ?_
  refine runk_call rfl rfl rfl rfl rfl (by simp) (cvs_cons cv_refl (cvs_cons cv_refl cvs_nil)) (heads_ok n hn E hlen hE _) ?_
  refine runk_exec (by simp only [exa, beq_self_eq_true, ByteArray.size, Nat.reduceAdd, Nat.reduceLeDiff, Nat.reduceEqDiff, Nat.reduceMul, Int.reduceToNat, reduceIte, Int.reduceLE, Int.reduceNeg]; rfl) ?_
  (repeat (first | refine W.seq ?_ | refine W.block ?_ | refine W.skip ?_ | refine W.exit ?_))
  refine W.regionDK tab_ok 0 follows_mixed (by kernel_rfl) (by decide) ?_
  refine runk_exec (by simp only [exa, beq_self_eq_true, ByteArray.size, Nat.reduceAdd, Nat.reduceLeDiff, Nat.reduceEqDiff, Nat.reduceMul, Int.reduceToNat, reduceIte, Int.reduceLE, Int.reduceNeg, hm1, hm2, hn0, Int.toNat_natCast, and_self, Bool.false_eq_true, rep_rowF]; rfl) ?_
  (repeat (first | refine W.seq ?_ | refine W.block ?_ | refine W.skip ?_ | refine W.exit ?_))
  refine W.region tab_ok 0 (by decide) (exec_run (by simp only [exa, beq_self_eq_true, ByteArray.size, Nat.reduceAdd, Nat.reduceLeDiff, Nat.reduceEqDiff, Nat.reduceMul, Int.reduceToNat, reduceIte, Int.reduceLE, Int.reduceNeg, rowF_len]; rfl)) ?_
  refine W.block ?_
  refine W.loop (ι := Nat) (fun k => ⟨upd (upd (upd (upd (upd (upd (upd (upd (fun _ => .top) 0 (.c (.int .i64 n))) 7 (.c (.sl (tabC E n)))) 8 (.ptr 8 0)) 9 (.ptr 9 0)) 10 (.own 35)) 11 (.ptr 11 0)) 39 (.c (.int .i64 n))) 40 (.c (.int .i64 k)),
      upd (upd (upd (upd (upd (upd (upd Mem.nil 8 (some (.box 31 [.own 31]))) 9 (some (.box 31 [.own 33]))) 11 (some (.box 31 [.own 37]))) 31 (some (.mrow 3 1 (rowF n fun _ => 0)))) 33 (some (.mrow 3 1 (rowF n fun _ => 0)))) 35 (some (.mrow 3 1 (rowF n fun _ => 0)))) 37 (some (.mrow 3 1 (rowK n k)))⟩) (fun k => k ≤ n) (fun k => n - k) 0 ?start (Nat.zero_le _) ?round
  case start =>
    refine le_mk ?sle ?mle ?swf ?mwf (kept_not hkeep) (by rfl)
    case swf => repeat (first | exact swf_top _ | refine swf_upd ?_ (by simp [A.ids, upd_app, ← rowF_K]))
    case mwf => repeat (first | exact mwf_nil _ | refine mwf_upd ?_ (by simp [A.ids, O.ids, upd_app, ← rowF_K]))
    case mle => repeat (first | exact mle_nil _ | exact mle_refl _ | refine mle_upd ?_ (by first | rfl | (simp only [upd_app, killM_app, O.kill, A.kill, Nat.reduceEqDiff, reduceIte, Option.map_some, Option.map_none, List.map_cons, List.map_nil, ← rowF_K]; done)))
    case sle => repeat (first | exact sle_top _ | exact sle_refl _ | refine sle_upd ?_ (by first | rfl | (simp only [upd_app, killS_app, A.kill, entry_zero, entry_succ, Nat.reduceEqDiff, reduceIte, ← rowF_K]; done)))
  case round =>
    intro k hk
    repeat (first | refine W.seq ?_ | refine W.block ?_ | refine W.skip ?_ | refine W.exit ?_ | refine W.region tab_ok 0 (by decide) (exec_run (by simp only [exa, beq_self_eq_true, ByteArray.size, Nat.reduceAdd, Nat.reduceLeDiff, Nat.reduceEqDiff, Nat.reduceMul, Int.reduceToNat, reduceIte, Int.reduceLE, Int.reduceNeg]; rfl)) ?_)
    refine W.cond rfl ?_ ?_
    · intro hlt
      simp only [decide_eq_true_eq, Int.ofNat_lt] at hlt
      repeat (first | refine W.seq ?_ | refine W.block ?_ | refine W.skip ?_ | refine W.exit ?_ | refine W.region tab_ok 0 (by decide) (exec_run (by simp only [exa, beq_self_eq_true, ByteArray.size, Nat.reduceAdd, Nat.reduceLeDiff, Nat.reduceEqDiff, Nat.reduceMul, Int.reduceToNat, reduceIte, Int.reduceLE, Int.reduceNeg, rowK_at hlt, rowK_len, hlt, Int.toNat_natCast, and_self]; rfl)) ?_)
      refine ⟨k + 1, hlt, by omega, ?_⟩
      refine le_mk ?sle ?mle ?swf ?mwf (kept_not hkeep) (by rfl)
      case swf => repeat (first | exact swf_top _ | refine swf_upd ?_ (by simp [A.ids, upd_app, wrap_succ (show k + 1 < 9223372036854775808 by omega), rowK_set hlt]))
      case mwf => repeat (first | exact mwf_nil _ | refine mwf_upd ?_ (by simp [A.ids, O.ids, upd_app, wrap_succ (show k + 1 < 9223372036854775808 by omega), rowK_set hlt]))
      case mle => repeat (first | exact mle_nil _ | exact mle_refl _ | refine mle_upd ?_ (by first | rfl | (simp only [upd_app, killM_app, O.kill, A.kill, Nat.reduceEqDiff, reduceIte, Option.map_some, Option.map_none, List.map_cons, List.map_nil, wrap_succ (show k + 1 < 9223372036854775808 by omega), rowK_set hlt]; done)))
      case sle => repeat (first | exact sle_top _ | exact sle_refl _ | refine sle_upd ?_ (by first | rfl | (simp only [upd_app, killS_app, A.kill, entry_zero, entry_succ, Nat.reduceEqDiff, reduceIte, wrap_succ (show k + 1 < 9223372036854775808 by omega), rowK_set hlt]; done)))
    · intro hge
      simp only [decide_eq_false_iff_not, Int.ofNat_lt] at hge
      obtain rfl : n = k := by omega
      rw [rowK_part]
      repeat (first | refine W.seq ?_ | refine W.block ?_ | refine W.skip ?_ | refine W.exit ?_ | refine W.region tab_ok 0 (by decide) (exec_run (by simp only [exa, beq_self_eq_true, ByteArray.size, Nat.reduceAdd, Nat.reduceLeDiff, Nat.reduceEqDiff, Nat.reduceMul, Int.reduceToNat, reduceIte, Int.reduceLE, Int.reduceNeg, Bool.false_eq_true]; rfl)) ?_)
      refine W.newRowBox false 13 0 300 3 1 rfl rfl rfl ?_
      refine W.newRowBox false 14 0 301 3 1 rfl rfl rfl ?_
      refine W.loop (ι := Nat × TS) (fun x => ⟨upd (upd (upd (upd (upd (upd (upd (upd (upd (upd (fun _ => .top) 7 (.c (.sl (tabC E n)))) 8 (.ptr 8 0)) 9 (.ptr 9 0)) 10 (.own 35)) 11 (.ptr 11 0)) 14 (.ptr 14 0)) 16 (.fn 35 [15, 8, 9, 13, 14])) 17 (.fn 36 [14, 9, 8, 13, 11])) 49 (.c (.int .i64 n))) 50 (.c (.int .i64 (x.1 : Nat))), upd (upd (upd (upd (upd (upd (upd (upd (upd (upd (upd (upd Mem.nil 8 (some (.box 31 [.own 31]))) 9 (some (.box 31 [.own 33]))) 11 (some (.box 31 [.own 37]))) 13 (some (.box 31 [.own 300]))) 14 (some (.box 31 [.own 301]))) 15 (some (.box 3 [.c (.int .i64 ((x.2).cnt : Nat))]))) 31 (some (.mrow 3 1 (rowF n ((x.2).ord))))) 33 (some (.mrow 3 1 (rowF n ((x.2).low))))) 35 (some (.mrow 3 1 (rowF n ((x.2).nxt))))) 37 (some (.mrow 3 1 (rowP n ((x.2).part))))) 300 (some (.mrow 3 1 (((x.2).stack).map cN)))) 301 (some (.mrow 3 1 (((x.2).calls).map cN)))⟩) (fun x => x.1 ≤ n ∧ TInv E (sortN E) n x.2 none ∧ x.2.calls = [] ∧ (∀ j, j < x.1 → x.2.ord j ≠ 0) ∧ x.2.cnt + left (mF x.2.ord) n = n) (fun x => n - x.1) (0, ⟨fun _ => 0, fun _ => 0, fun _ => 0, fun _ => none, [], [], 0⟩) ?start2 ?inv2 ?round2
      case start2 =>
        refine le_mk ?sle ?mle ?swf ?mwf (kept_not hkeep) (by rfl)
        case swf => repeat (first | exact swf_top _ | refine swf_upd ?_ (by simp [A.ids, upd_app, List.set, Bool.false_eq_true, rowO]))
        case mwf => repeat (first | exact mwf_nil _ | refine mwf_upd ?_ (by simp [A.ids, O.ids, upd_app, List.set, Bool.false_eq_true, rowO]))
        case mle => repeat (first | exact mle_nil _ | exact mle_refl _ | refine mle_upd ?_ (by first | rfl | (simp only [upd_app, killM_app, O.kill, A.kill, Nat.reduceEqDiff, reduceIte, Option.map_some, Option.map_none, List.map_cons, List.map_nil, List.set, Bool.false_eq_true, rowO]; done)))
        case sle => repeat (first | exact sle_top _ | exact sle_refl _ | refine sle_upd ?_ (by first | rfl | (simp only [upd_app, killS_app, A.kill, entry_zero, entry_succ, Nat.reduceEqDiff, reduceIte, List.set, Bool.false_eq_true, rowO]; done)))
      case inv2 =>
        refine ⟨Nat.zero_le _, TInv.begin, rfl, fun j hj => absurd hj (Nat.not_lt_zero _), ?_⟩
        show 0 + left (mF fun _ => 0) n = n
        have h2 : ∀ k, left (mF fun _ => 0) k = k := fun k => by
          induction k with
          | zero => rfl
          | succ k ih => simp only [left, ih]; simp [mF]
        rw [h2]; omega
      case round2 =>
        rintro ⟨k, s⟩ ⟨hk, hinv, hcalls, hord, hcnt⟩
        simp only at hk hinv hcalls hord hcnt
        repeat (first | refine W.seq ?_ | refine W.block ?_ | refine W.skip ?_ | refine W.exit ?_ | refine W.region tab_ok 0 (by decide) (exec_run (by simp only [exa, beq_self_eq_true, ByteArray.size, Nat.reduceAdd, Nat.reduceLeDiff, Nat.reduceEqDiff, Nat.reduceMul, Int.reduceToNat, reduceIte, Int.reduceLE, Int.reduceNeg]; rfl)) ?_)
        refine W.cond rfl ?_ ?_
        · intro hlt
          simp only [decide_eq_true_eq, Int.ofNat_lt] at hlt
          have hk0 : (0 : Int) ≤ (k : Int) := by omega
          (repeat (first | refine W.seq ?_ | refine W.block ?_ | refine W.skip ?_ | refine W.exit ?_))
          refine W.region tab_ok 0 (by decide) (exec_run (by simp only [exa, beq_self_eq_true, ByteArray.size, Nat.reduceAdd, Nat.reduceLeDiff, Nat.reduceEqDiff, Nat.reduceMul, Int.reduceToNat, reduceIte, Int.reduceLE, Int.reduceNeg]; rfl)) ?_
          (repeat (first | refine W.seq ?_ | refine W.block ?_ | refine W.skip ?_ | refine W.exit ?_))
          refine W.region tab_ok 0 (by decide) (exec_run (by simp only [exa, beq_self_eq_true, ByteArray.size, Nat.reduceAdd, Nat.reduceLeDiff, Nat.reduceEqDiff, Nat.reduceMul, Int.reduceToNat, reduceIte, Int.reduceLE, Int.reduceNeg, rowF_at hlt, rowF_len, hlt, hk0, Int.toNat_natCast, and_self]; rfl)) ?_
          (repeat (first | refine W.seq ?_ | refine W.block ?_ | refine W.skip ?_ | refine W.exit ?_))
          by_cases hok : s.ord k = 0
          · refine W.cond rfl ?_ ?_
            · intro h; simp [hok] at h
            · intro _
              (repeat (first | refine W.seq ?_ | refine W.block ?_ | refine W.skip ?_ | refine W.exit ?_))
              refine W.regionK tab_ok 0 (by decide) ?_
              obtain ⟨-, hsl, hcl⟩ := nodup_stack hinv
              have hlm := left_mark (mF s.ord) k (by simp [mF, hok]) n
              rw [if_pos hlt] at hlm
              refine runk_split 2 (by simp only [exa, beq_self_eq_true, ByteArray.size, Nat.reduceAdd, Nat.reduceLeDiff, Nat.reduceEqDiff, Nat.reduceMul, Int.reduceToNat, reduceIte, Int.reduceLE, Int.reduceNeg]; rfl) ?_
              refine runk_callE (D := [300, 301]) rfl rfl rfl rfl rfl (fun j hj => nokeep hkeep) (by intro j hj; simp at hj; rcases hj with rfl | rfl | rfl | rfl | rfl <;> exact ⟨_, _, rfl⟩) (cvs_cons cv_refl (cvs_cons cv_refl (cvs_cons cv_refl (cvs_cons cv_refl (cvs_cons cv_refl (cvs_cons cv_refl cvs_nil)))))) (enter_ok n k hn hlt s (by omega) hsl hcl) ?_
              simp only [killL, putS]
              refine runk_exec (by simp only [exa, beq_self_eq_true, ByteArray.size, Nat.reduceAdd, Nat.reduceLeDiff, Nat.reduceEqDiff, Nat.reduceMul, Int.reduceToNat, reduceIte, Int.reduceLE, Int.reduceNeg]; rfl) ?_
              have hent := hinv.enter (k := k) (fun i j => mem_sortN) hok hlt (.inl ⟨rfl, hcalls⟩)
              have hmfe : ∀ (s : TS) (k : Nat), mF (enterS s k).ord = G.mark (mF s.ord) k := fun s k => mF_set (by omega)
              (repeat (first | refine W.seq ?_ | refine W.block ?_ | refine W.skip ?_ | refine W.exit ?_))
              refine W.loop (ι := TS) (fun x => ⟨upd (upd (upd (upd (upd (upd (upd (upd (upd (upd (fun _ => .top) 7 (.c (.sl (tabC E n)))) 8 (.ptr 8 0)) 9 (.ptr 9 0)) 10 (.own 35)) 11 (.ptr 11 0)) 14 (.ptr 14 0)) 16 (.fn 35 [15, 8, 9, 13, 14])) 17 (.fn 36 [14, 9, 8, 13, 11])) 49 (.c (.int .i64 n))) 50 (.c (.int .i64 (k : Nat))), upd (upd (upd (upd (upd (upd (upd (upd (upd (upd (upd (upd Mem.nil 8 (some (.box 31 [.own 31]))) 9 (some (.box 31 [.own 33]))) 11 (some (.box 31 [.own 37]))) 13 (some (.box 31 [.own 300]))) 14 (some (.box 31 [.own 301]))) 15 (some (.box 3 [.c (.int .i64 ((x).cnt : Nat))]))) 31 (some (.mrow 3 1 (rowF n ((x).ord))))) 33 (some (.mrow 3 1 (rowF n ((x).low))))) 35 (some (.mrow 3 1 (rowF n ((x).nxt))))) 37 (some (.mrow 3 1 (rowP n ((x).part))))) 300 (some (.mrow 3 1 (((x).stack).map cN)))) 301 (some (.mrow 3 1 (((x).calls).map cN)))⟩) (fun x => TInv E (sortN E) n x none ∧ (∀ j, j < k + 1 → x.ord j ≠ 0) ∧ x.cnt + left (mF x.ord) n = n) (fun x => 2 * remN (sortN E) x.nxt n + x.calls.length) (enterS s k) ?start3 ⟨hent, fun j hj => ?ord3, ?cnt3⟩ ?round3
              case ord3 =>
                simp only [enterS]
                by_cases e : j = k
                · subst e; rw [setF_same]; omega
                · rw [setF_ne _ e]; exact hord j (by omega)
              case cnt3 =>
                rw [hmfe]; simp only [enterS]; omega
              case start3 =>
                refine le_mk ?sle ?mle ?swf ?mwf (kept_not hkeep) (by rfl)
                case swf => repeat (first | exact swf_top _ | refine swf_upd ?_ (by simp [A.ids, upd_app]))
                case mwf => repeat (first | exact mwf_nil _ | refine mwf_upd ?_ (by simp [A.ids, O.ids, upd_app]))
                case mle => repeat (first | exact mle_nil _ | exact mle_refl _ | refine mle_upd ?_ (by first | rfl | (simp only [upd_app, killM_app, O.kill, A.kill, Nat.reduceEqDiff, reduceIte, Option.map_some, Option.map_none, List.map_cons, List.map_nil]; done)))
                case sle => repeat (first | exact sle_top _ | exact sle_refl _ | refine sle_upd ?_ (by first | rfl | (simp only [upd_app, killS_app, A.kill, entry_zero, entry_succ, Nat.reduceEqDiff, reduceIte]; done)))
              case round3 =>
                clear hent hlm hsl hcl hinv hcalls hord hcnt
                rintro s ⟨hinv, hord, hcnt⟩
                obtain ⟨hnd, hsl, hcl⟩ := nodup_stack hinv
                rcases list_last s.calls with hc0 | ⟨cs, i, hcs⟩
                · rw [hc0]
                  repeat (first | refine W.seq ?_ | refine W.block ?_ | refine W.skip ?_ | refine W.exit ?_ | refine W.region tab_ok 0 (by decide) (exec_run (by simp only [exa, beq_self_eq_true, ByteArray.size, Nat.reduceAdd, Nat.reduceLeDiff, Nat.reduceEqDiff, Nat.reduceMul, Int.reduceToNat, reduceIte, Int.reduceLE, Int.reduceNeg]; rfl)) ?_)
                  refine W.cond rfl ?_ ?_
                  · intro h; simp at h
                  · intro _
                    repeat (first | refine W.seq ?_ | refine W.block ?_ | refine W.skip ?_ | refine W.exit ?_ | refine W.region tab_ok 0 (by decide) (exec_run (by simp only [exa, beq_self_eq_true, ByteArray.size, Nat.reduceAdd, Nat.reduceLeDiff, Nat.reduceEqDiff, Nat.reduceMul, Int.reduceToNat, reduceIte, Int.reduceLE, Int.reduceNeg]; rfl)) ?_)
                    refine ⟨(k + 1, s), ⟨hlt, hinv, hc0, hord, hcnt⟩, by simp only; omega, ?_⟩
                    refine le_mk ?sle ?mle ?swf ?mwf (kept_not hkeep) (by rfl)
                    case swf => repeat (first | exact swf_top _ | refine swf_upd ?_ (by simp [A.ids, upd_app, wrap_succ (show k + 1 < 9223372036854775808 by omega), hc0]))
                    case mwf => repeat (first | exact mwf_nil _ | refine mwf_upd ?_ (by simp [A.ids, O.ids, upd_app, wrap_succ (show k + 1 < 9223372036854775808 by omega), hc0]))
                    case mle => repeat (first | exact mle_nil _ | exact mle_refl _ | refine mle_upd ?_ (by first | rfl | (simp only [upd_app, killM_app, O.kill, A.kill, Nat.reduceEqDiff, reduceIte, Option.map_some, Option.map_none, List.map_cons, List.map_nil, wrap_succ (show k + 1 < 9223372036854775808 by omega), hc0]; done)))
                    case sle => repeat (first | exact sle_top _ | exact sle_refl _ | refine sle_upd ?_ (by first | rfl | (simp only [upd_app, killS_app, A.kill, entry_zero, entry_succ, Nat.reduceEqDiff, reduceIte, wrap_succ (show k + 1 < 9223372036854775808 by omega), hc0]; done)))
                · have hist : i ∈ s.stack := hinv.mem (by rw [hcs]; simp)
                  have hio : s.ord i ≠ 0 := hinv.ne hist
                  have hi : i < n := hinv.lt i hio
                  have hi0 : (0 : Int) ≤ (i : Int) := by omega
                  have hcl2 : cs.length + 1 ≤ n := by rw [hcs] at hcl; simpa using hcl
                  have hw1 := wrap_last (k := cs.length) (by omega)
                  have hnx := hinv.nx i
                  have hsn := sortN_len E i
                  have hcsn : ∀ x ∈ cs, x < n := fun x hx => hinv.lt x (hinv.ne (hinv.mem (by rw [hcs]; simp [hx])))
                  have hup : ∀ up, cs.getLast? = some up → up ≠ i := fun up hu e => by
                    have hm : up ∈ cs := List.mem_of_getLast? hu
                    have := hinv.callsLt hcs hm
                    rw [e] at this; omega
                  repeat (first | refine W.seq ?_ | refine W.block ?_ | refine W.skip ?_ | refine W.exit ?_ | refine W.region tab_ok 0 (by decide) (exec_run (by simp only [exa, beq_self_eq_true, ByteArray.size, Nat.reduceAdd, Nat.reduceLeDiff, Nat.reduceEqDiff, Nat.reduceMul, Int.reduceToNat, reduceIte, Int.reduceLE, Int.reduceNeg, List.length_map, hcs, List.length_append]; rfl)) ?_)
                  refine W.cond rfl ?_ ?_
                  · intro _
                    (repeat (first | refine W.seq ?_ | refine W.block ?_ | refine W.skip ?_ | refine W.exit ?_))
                    refine W.region tab_ok 0 (by decide) (exec_run (by simp only [exa, beq_self_eq_true, ByteArray.size, Nat.reduceAdd, Nat.reduceLeDiff, Nat.reduceEqDiff, Nat.reduceMul, Int.reduceToNat, reduceIte, Int.reduceLE, Int.reduceNeg, List.length_map, List.length_append, hw1, last_at, cN, Int.toNat_natCast, Nat.lt_succ_self, and_self, Nat.zero_le]; rfl)) ?_
                    (repeat (first | refine W.seq ?_ | refine W.block ?_ | refine W.skip ?_ | refine W.exit ?_))
                    refine W.regionDK tab_ok 0 follows_mixed (by kernel_rfl) (by decide) ?_
                    refine runk_exec (by simp only [exa, beq_self_eq_true, ByteArray.size, Nat.reduceAdd, Nat.reduceLeDiff, Nat.reduceEqDiff, Nat.reduceMul, Int.reduceToNat, reduceIte, Int.reduceLE, Int.reduceNeg, rowF_at hi, rowF_len, tabN_at hi, tabC_len, hi, hi0, Int.toNat_natCast, and_self, List.length_map]; rfl) ?_
                    (repeat (first | refine W.seq ?_ | refine W.block ?_ | refine W.skip ?_ | refine W.exit ?_))
                    by_cases hfull : s.nxt i = (sortN E i).length
                    · refine W.cond rfl ?_ ?_
                      · intro _
                        (repeat (first | refine W.seq ?_ | refine W.block ?_ | refine W.skip ?_ | refine W.exit ?_))
                        refine W.regionK tab_ok 0 (by decide) ?_
                        have rs : ∃ part' stack', TInv E (sortN E) n { s with low := lowUp s cs i, calls := cs, stack := stack', part := part' } none ∧
                            ((s.low i ≠ s.ord i ∧ part' = s.part ∧ stack' = s.stack) ∨ (s.low i = s.ord i ∧ ∃ seg, s.stack = stack' ++ (i :: seg) ∧ part' = partL s.part i (i :: seg) ∧ i ∉ seg ∧ (∀ x ∈ seg, x < n) ∧ s.stack.length ≤ n)) := by
                          by_cases hlo : s.low i = s.ord i
                          · obtain ⟨st, seg, hst⟩ := List.append_of_mem hist
                            refine ⟨partL s.part i (i :: seg), st, hinv.pop (fun i j => mem_sortN) hcs hfull hlo hst, .inr ⟨hlo, seg, hst, rfl, fun h => ?_, fun x hx => hinv.lt x (hinv.ne (by rw [hst]; simp [hx])), hsl⟩⟩
                            rw [hst, List.nodup_append] at hnd
                            exact (List.nodup_cons.1 hnd.2.1).1 h
                          · exact ⟨s.part, s.stack, (hinv.leave hcs hfull hlo).1, .inl ⟨hlo, rfl, rfl⟩⟩
                        obtain ⟨part', stack', hinv', hcase⟩ := rs
                        have hlv := leave_ok n i hn hi s cs hcs hcl hcsn hup part' stack' hcase
                        rw [hcs] at hlv
                        refine runk_split 2 (by simp only [exa, beq_self_eq_true, ByteArray.size, Nat.reduceAdd, Nat.reduceLeDiff, Nat.reduceEqDiff, Nat.reduceMul, Int.reduceToNat, reduceIte, Int.reduceLE, Int.reduceNeg]; rfl) ?_
                        refine runk_callE (D := [300, 301]) rfl rfl rfl rfl rfl (fun j hj => nokeep hkeep) (by intro j hj; simp at hj; rcases hj with rfl | rfl | rfl | rfl | rfl <;> exact ⟨_, _, rfl⟩) (cvs_cons cv_refl (cvs_cons cv_refl (cvs_cons cv_refl (cvs_cons cv_refl (cvs_cons cv_refl (cvs_cons cv_refl cvs_nil)))))) hlv ?_
                        simp only [killL, putS]
                        refine runk_exec (by simp only [exa, beq_self_eq_true, ByteArray.size, Nat.reduceAdd, Nat.reduceLeDiff, Nat.reduceEqDiff, Nat.reduceMul, Int.reduceToNat, reduceIte, Int.reduceLE, Int.reduceNeg]; rfl) ?_
                        repeat (first | refine W.seq ?_ | refine W.block ?_ | refine W.skip ?_ | refine W.exit ?_ | refine W.region tab_ok 0 (by decide) (exec_run (by simp only [exa, beq_self_eq_true, ByteArray.size, Nat.reduceAdd, Nat.reduceLeDiff, Nat.reduceEqDiff, Nat.reduceMul, Int.reduceToNat, reduceIte, Int.reduceLE, Int.reduceNeg]; rfl)) ?_)
                        refine ⟨{ s with low := lowUp s cs i, calls := cs, stack := stack', part := part' }, ⟨hinv', hord, hcnt⟩, by simp only [hcs, List.length_append, List.length_cons, List.length_nil]; omega, ?_⟩
                        refine le_mk ?sle ?mle ?swf ?mwf (kept_not hkeep) (by rfl)
                        case swf => repeat (first | exact swf_top _ | refine swf_upd ?_ (by simp [A.ids, upd_app]))
                        case mwf => repeat (first | exact mwf_nil _ | refine mwf_upd ?_ (by simp [A.ids, O.ids, upd_app]))
                        case mle => repeat (first | exact mle_nil _ | exact mle_refl _ | refine mle_upd ?_ (by first | rfl | (simp only [upd_app, killM_app, O.kill, A.kill, Nat.reduceEqDiff, reduceIte, Option.map_some, Option.map_none, List.map_cons, List.map_nil]; done)))
                        case sle => repeat (first | exact sle_top _ | exact sle_refl _ | refine sle_upd ?_ (by first | rfl | (simp only [upd_app, killS_app, A.kill, entry_zero, entry_succ, Nat.reduceEqDiff, reduceIte]; done)))
                      · intro h; simp [hfull] at h
                    · refine W.cond rfl ?_ ?_
                      · intro h; simp at h; omega
                      · intro _
                        have hlt2 : s.nxt i < (sortN E i).length := by omega
                        obtain ⟨y, hy⟩ : ∃ y, (sortN E i)[s.nxt i]? = some y := ⟨_, List.getElem?_eq_getElem hlt2⟩
                        have hedge : (i, y) ∈ E := mem_sortN.1 (List.mem_of_getElem? hy)
                        have hyn : y < n := (hE _ hedge).2
                        have hy0 : (0 : Int) ≤ (y : Int) := by omega
                        have hnx0 : (0 : Int) ≤ (s.nxt i : Int) := by omega
                        have hadv := hinv.advance hcs hy
                        have hrem := remN_adv (L := sortN E) (nx := s.nxt) hlt2 n
                        rw [if_pos hi] at hrem
                        have hwn : IntKind.i64.wrap ((s.nxt i : Int) + 1) = ((s.nxt i + 1 : Nat) : Int) := wrap_succ (by omega)
                        (repeat (first | refine W.seq ?_ | refine W.block ?_ | refine W.skip ?_ | refine W.exit ?_))
                        refine W.regionDK tab_ok 0 follows_mixed (by kernel_rfl) (by decide) ?_
                        refine runk_exec (by simp only [exa, beq_self_eq_true, ByteArray.size, Nat.reduceAdd, Nat.reduceLeDiff, Nat.reduceEqDiff, Nat.reduceMul, Int.reduceToNat, reduceIte, Int.reduceLE, Int.reduceNeg, rowF_at hi, rowF_len, tabN_at hi, tabC_len, hi, hi0, Int.toNat_natCast, and_self, List.length_map, at_map hy, hnx0, cN]; rfl) ?_
                        (repeat (first | refine W.seq ?_ | refine W.block ?_ | refine W.skip ?_ | refine W.exit ?_))
                        refine W.region tab_ok 0 (by decide) (exec_run (by simp only [exa, beq_self_eq_true, ByteArray.size, Nat.reduceAdd, Nat.reduceLeDiff, Nat.reduceEqDiff, Nat.reduceMul, Int.reduceToNat, reduceIte, Int.reduceLE, Int.reduceNeg, rowF_at hi, rowF_len, hi, hi0, Int.toNat_natCast, and_self, hwn, rowF_set]; rfl)) ?_
                        refine W.weaken (st' := ⟨upd (upd (upd (upd (upd (upd (upd (upd (upd (upd (upd (upd (fun _ => .top) 7 (.c (.sl (tabC E n)))) 8 (.ptr 8 0)) 9 (.ptr 9 0)) 10 (.own 35)) 11 (.ptr 11 0)) 14 (.ptr 14 0)) 16 (.fn 35 [15, 8, 9, 13, 14])) 17 (.fn 36 [14, 9, 8, 13, 11])) 49 (.c (.int .i64 n))) 50 (.c (.int .i64 (k : Nat)))) 19 (.c (.int .i64 i))) 20 (.c (.int .i64 y)), upd (upd (upd (upd (upd (upd (upd (upd (upd (upd (upd (upd Mem.nil 8 (some (.box 31 [.own 31]))) 9 (some (.box 31 [.own 33]))) 11 (some (.box 31 [.own 37]))) 13 (some (.box 31 [.own 300]))) 14 (some (.box 31 [.own 301]))) 15 (some (.box 3 [.c (.int .i64 (s.cnt : Nat))]))) 31 (some (.mrow 3 1 (rowF n (s.ord))))) 33 (some (.mrow 3 1 (rowF n (s.low))))) 35 (some (.mrow 3 1 (rowF n ((setF s.nxt i (s.nxt i + 1))))))) 37 (some (.mrow 3 1 (rowP n (s.part))))) 300 (some (.mrow 3 1 ((s.stack).map cN)))) 301 (some (.mrow 3 1 (((cs ++ [i])).map cN)))⟩) ?_ ?_
                        · show Le _ _ _
                          refine le_mk ?sle ?mle ?swf ?mwf (kept_not hkeep) (by rfl)
                          case swf => repeat (first | exact swf_top _ | refine swf_upd ?_ (by simp [A.ids, upd_app, hcs, cN, List.map_append, List.map_cons, List.map_nil]))
                          case mwf => repeat (first | exact mwf_nil _ | refine mwf_upd ?_ (by simp [A.ids, O.ids, upd_app, hcs, cN, List.map_append, List.map_cons, List.map_nil]))
                          case mle => repeat (first | exact mle_nil _ | exact mle_refl _ | refine mle_upd ?_ (by first | rfl | (simp only [upd_app, killM_app, O.kill, A.kill, Nat.reduceEqDiff, reduceIte, Option.map_some, Option.map_none, List.map_cons, List.map_nil, hcs, cN, List.map_append, List.map_cons, List.map_nil]; done)))
                          case sle => repeat (first | exact sle_top _ | exact sle_refl _ | refine sle_upd ?_ (by first | rfl | (simp only [upd_app, killS_app, A.kill, entry_zero, entry_succ, Nat.reduceEqDiff, reduceIte, hcs, cN, List.map_append, List.map_cons, List.map_nil]; done)))
                        (repeat (first | refine W.seq ?_ | refine W.block ?_ | refine W.skip ?_ | refine W.exit ?_))
                        refine W.region tab_ok 0 (by decide) (exec_run (by simp only [exa, beq_self_eq_true, ByteArray.size, Nat.reduceAdd, Nat.reduceLeDiff, Nat.reduceEqDiff, Nat.reduceMul, Int.reduceToNat, reduceIte, Int.reduceLE, Int.reduceNeg, rowF_at hyn, rowF_len, hyn, hy0, Int.toNat_natCast, and_self]; rfl)) ?_
                        (repeat (first | refine W.seq ?_ | refine W.block ?_ | refine W.skip ?_ | refine W.exit ?_))
                        by_cases hyo : s.ord y = 0
                        · refine W.cond rfl ?_ ?_
                          · intro _
                            have hent := hadv.enter (k := y) (fun i j => mem_sortN) hyo hyn (.inr ⟨i, cs, rfl, hcs, hedge⟩)
                            have hlm := left_mark (mF s.ord) y (by simp [mF, hyo]) n
                            rw [if_pos hyn] at hlm
                            (repeat (first | refine W.seq ?_ | refine W.block ?_ | refine W.skip ?_ | refine W.exit ?_))
                            refine W.regionK tab_ok 0 (by decide) ?_
                            have hev := enter_ok n y hn hyn { s with nxt := setF s.nxt i (s.nxt i + 1) } (by simp only; omega) hsl hcl
                            simp only [enterS, hcs] at hev
                            refine runk_split 2 (by simp only [exa, beq_self_eq_true, ByteArray.size, Nat.reduceAdd, Nat.reduceLeDiff, Nat.reduceEqDiff, Nat.reduceMul, Int.reduceToNat, reduceIte, Int.reduceLE, Int.reduceNeg]; rfl) ?_
                            refine runk_callE (D := [300, 301]) rfl rfl rfl rfl rfl (fun j hj => nokeep hkeep) (by intro j hj; simp at hj; rcases hj with rfl | rfl | rfl | rfl | rfl <;> exact ⟨_, _, rfl⟩) (cvs_cons cv_refl (cvs_cons cv_refl (cvs_cons cv_refl (cvs_cons cv_refl (cvs_cons cv_refl (cvs_cons cv_refl cvs_nil)))))) hev ?_
                            simp only [killL, putS]
                            refine runk_exec (by simp only [exa, beq_self_eq_true, ByteArray.size, Nat.reduceAdd, Nat.reduceLeDiff, Nat.reduceEqDiff, Nat.reduceMul, Int.reduceToNat, reduceIte, Int.reduceLE, Int.reduceNeg]; rfl) ?_
                            repeat (first | refine W.seq ?_ | refine W.block ?_ | refine W.skip ?_ | refine W.exit ?_ | refine W.region tab_ok 0 (by decide) (exec_run (by simp only [exa, beq_self_eq_true, ByteArray.size, Nat.reduceAdd, Nat.reduceLeDiff, Nat.reduceEqDiff, Nat.reduceMul, Int.reduceToNat, reduceIte, Int.reduceLE, Int.reduceNeg]; rfl)) ?_)
                            refine ⟨enterS { s with nxt := setF s.nxt i (s.nxt i + 1) } y, ⟨hent, fun j hj => ?_, ?_⟩, ?_, ?_⟩
                            · simp only [enterS]
                              by_cases e : j = y
                              · subst e; rw [setF_same]; omega
                              · rw [setF_ne _ e]; exact hord j hj
                            · rw [hmfe]; simp only [enterS]; omega
                            · simp only [enterS, List.length_append, List.length_cons, List.length_nil]; omega
                            refine le_mk ?sle ?mle ?swf ?mwf (kept_not hkeep) (by rfl)
                            case swf => repeat (first | exact swf_top _ | refine swf_upd ?_ (by simp [A.ids, upd_app, hcs, enterS]))
                            case mwf => repeat (first | exact mwf_nil _ | refine mwf_upd ?_ (by simp [A.ids, O.ids, upd_app, hcs, enterS]))
                            case mle => repeat (first | exact mle_nil _ | exact mle_refl _ | refine mle_upd ?_ (by first | rfl | (simp only [upd_app, killM_app, O.kill, A.kill, Nat.reduceEqDiff, reduceIte, Option.map_some, Option.map_none, List.map_cons, List.map_nil, hcs, enterS]; done)))
                            case sle => repeat (first | exact sle_top _ | exact sle_refl _ | refine sle_upd ?_ (by first | rfl | (simp only [upd_app, killS_app, A.kill, entry_zero, entry_succ, Nat.reduceEqDiff, reduceIte, hcs, enterS]; done)))
                          · intro h; simp [hyo] at h
                        · refine W.cond rfl ?_ ?_
                          · intro h; simp [hyo] at h
                          · intro _
                            (repeat (first | refine W.seq ?_ | refine W.block ?_ | refine W.skip ?_ | refine W.exit ?_))
                            (repeat (first | refine W.seq ?_ | refine W.block ?_ | refine W.skip ?_ | refine W.exit ?_))
                            refine W.region tab_ok 0 (by decide) (exec_run (by simp only [exa, beq_self_eq_true, ByteArray.size, Nat.reduceAdd, Nat.reduceLeDiff, Nat.reduceEqDiff, Nat.reduceMul, Int.reduceToNat, reduceIte, Int.reduceLE, Int.reduceNeg, rowP_at hyn, rowP_len, hyn, hy0, Int.toNat_natCast, and_self]; rfl)) ?_
                            (repeat (first | refine W.seq ?_ | refine W.block ?_ | refine W.skip ?_ | refine W.exit ?_))
                            cases hyp : s.part y with
                            | none =>
                              refine W.cond rfl ?_ ?_
                              · intro _
                                have hys : y ∈ s.stack := (hinv.stk y).2 ⟨hyo, hyp⟩
                                have hbk := hadv.back hcs hedge hys
                                have hmin : (if (s.ord y : Int) < (s.low i : Int) then (s.ord y : Int) else (s.low i : Int)) = ((min (s.low i) (s.ord y) : Nat) : Int) := by split <;> omega
                                (repeat (first | refine W.seq ?_ | refine W.block ?_ | refine W.skip ?_ | refine W.exit ?_))
                                refine W.regionDK tab_ok 0 follows_mixed (by kernel_rfl) (by decide) ?_
                                refine runk_exec (by simp only [exa, beq_self_eq_true, ByteArray.size, Nat.reduceAdd, Nat.reduceLeDiff, Nat.reduceEqDiff, Nat.reduceMul, Int.reduceToNat, reduceIte, Int.reduceLE, Int.reduceNeg, rowF_at hyn, rowF_at hi, rowF_len, hyn, hy0, hi, hi0, Int.toNat_natCast, and_self, hmin, rowF_set]; rfl) ?_
                                repeat (first | refine W.seq ?_ | refine W.block ?_ | refine W.skip ?_ | refine W.exit ?_ | refine W.region tab_ok 0 (by decide) (exec_run (by simp only [exa, beq_self_eq_true, ByteArray.size, Nat.reduceAdd, Nat.reduceLeDiff, Nat.reduceEqDiff, Nat.reduceMul, Int.reduceToNat, reduceIte, Int.reduceLE, Int.reduceNeg]; rfl)) ?_)
                                refine ⟨_, ⟨hbk, hord, hcnt⟩, ?_, ?_⟩
                                · simp only; omega
                                refine le_mk ?sle ?mle ?swf ?mwf (kept_not hkeep) (by rfl)
                                case swf => repeat (first | exact swf_top _ | refine swf_upd ?_ (by simp [A.ids, upd_app, hcs]))
                                case mwf => repeat (first | exact mwf_nil _ | refine mwf_upd ?_ (by simp [A.ids, O.ids, upd_app, hcs]))
                                case mle => repeat (first | exact mle_nil _ | exact mle_refl _ | refine mle_upd ?_ (by first | rfl | (simp only [upd_app, killM_app, O.kill, A.kill, Nat.reduceEqDiff, reduceIte, Option.map_some, Option.map_none, List.map_cons, List.map_nil, hcs]; done)))
                                case sle => repeat (first | exact sle_top _ | exact sle_refl _ | refine sle_upd ?_ (by first | rfl | (simp only [upd_app, killS_app, A.kill, entry_zero, entry_succ, Nat.reduceEqDiff, reduceIte, hcs]; done)))
                              · intro h; simp [hyp, optI] at h
                            | some r =>
                              refine W.cond rfl ?_ ?_
                              · intro h
                                have hneg : decide (optI (some r) < 0) = false := decide_eq_false (by simp only [optI]; omega)
                                rw [hneg] at h; cases h
                              · intro _
                                have hold := hadv.old (by simp only [hyp]; exact fun h => by cases h)
                                repeat (first | refine W.seq ?_ | refine W.block ?_ | refine W.skip ?_ | refine W.exit ?_ | refine W.region tab_ok 0 (by decide) (exec_run (by simp only [exa, beq_self_eq_true, ByteArray.size, Nat.reduceAdd, Nat.reduceLeDiff, Nat.reduceEqDiff, Nat.reduceMul, Int.reduceToNat, reduceIte, Int.reduceLE, Int.reduceNeg]; rfl)) ?_)
                                refine ⟨_, ⟨hold, hord, hcnt⟩, ?_, ?_⟩
                                · simp only; omega
                                refine le_mk ?sle ?mle ?swf ?mwf (kept_not hkeep) (by rfl)
                                case swf => repeat (first | exact swf_top _ | refine swf_upd ?_ (by simp [A.ids, upd_app, hcs]))
                                case mwf => repeat (first | exact mwf_nil _ | refine mwf_upd ?_ (by simp [A.ids, O.ids, upd_app, hcs]))
                                case mle => repeat (first | exact mle_nil _ | exact mle_refl _ | refine mle_upd ?_ (by first | rfl | (simp only [upd_app, killM_app, O.kill, A.kill, Nat.reduceEqDiff, reduceIte, Option.map_some, Option.map_none, List.map_cons, List.map_nil, hcs]; done)))
                                case sle => repeat (first | exact sle_top _ | exact sle_refl _ | refine sle_upd ?_ (by first | rfl | (simp only [upd_app, killS_app, A.kill, entry_zero, entry_succ, Nat.reduceEqDiff, reduceIte, hcs]; done)))
                  · intro h; simp at h
          · refine W.cond rfl ?_ ?_
            · intro _
              repeat (first | refine W.seq ?_ | refine W.block ?_ | refine W.skip ?_ | refine W.exit ?_ | refine W.region tab_ok 0 (by decide) (exec_run (by simp only [exa, beq_self_eq_true, ByteArray.size, Nat.reduceAdd, Nat.reduceLeDiff, Nat.reduceEqDiff, Nat.reduceMul, Int.reduceToNat, reduceIte, Int.reduceLE, Int.reduceNeg]; rfl)) ?_)
              refine ⟨(k + 1, s), ⟨hlt, hinv, hcalls, fun j hj => ?_, hcnt⟩, by simp only; omega, ?_⟩
              · by_cases e : j = k
                · subst e; exact hok
                · exact hord j (by omega)
              refine le_mk ?sle ?mle ?swf ?mwf (kept_not hkeep) (by rfl)
              case swf => repeat (first | exact swf_top _ | refine swf_upd ?_ (by simp [A.ids, upd_app, wrap_succ (show k + 1 < 9223372036854775808 by omega)]))
              case mwf => repeat (first | exact mwf_nil _ | refine mwf_upd ?_ (by simp [A.ids, O.ids, upd_app, wrap_succ (show k + 1 < 9223372036854775808 by omega)]))
              case mle => repeat (first | exact mle_nil _ | exact mle_refl _ | refine mle_upd ?_ (by first | rfl | (simp only [upd_app, killM_app, O.kill, A.kill, Nat.reduceEqDiff, reduceIte, Option.map_some, Option.map_none, List.map_cons, List.map_nil, wrap_succ (show k + 1 < 9223372036854775808 by omega)]; done)))
              case sle => repeat (first | exact sle_top _ | exact sle_refl _ | refine sle_upd ?_ (by first | rfl | (simp only [upd_app, killS_app, A.kill, entry_zero, entry_succ, Nat.reduceEqDiff, reduceIte, wrap_succ (show k + 1 < 9223372036854775808 by omega)]; done)))
            · intro h; simp at h; omega
        · intro hge
          simp only [decide_eq_false_iff_not, Int.ofNat_lt] at hge
          obtain rfl : n = k := by omega
          (repeat (first | refine W.seq ?_ | refine W.block ?_ | refine W.skip ?_ | refine W.exit ?_))
          have hall : ∀ x, x < n → ∃ r, s.part x = some r := fun x hx => hinv.done hcalls (hord x hx)
          refine W.freezeBox 11 0 37 rfl rfl rfl (by decide) (nokeep hkeep) ?_
          refine W.regionK tab_ok 0 (by decide) ?_
          refine runk_split 1 (by simp only [exa, beq_self_eq_true, ByteArray.size, Nat.reduceAdd, Nat.reduceLeDiff, Nat.reduceEqDiff, Nat.reduceMul, Int.reduceToNat, reduceIte, Int.reduceLE, Int.reduceNeg, List.set, rowP_Z]; rfl) ?_
          refine runk_call rfl rfl rfl rfl rfl (by simp) (cvs_cons cv_refl cvs_nil) (numbered_ok n hn (fun i => optI (s.part i)) _) ?_
          refine runk_exec (by simp only [exa, beq_self_eq_true, ByteArray.size, Nat.reduceAdd, Nat.reduceLeDiff, Nat.reduceEqDiff, Nat.reduceMul, Int.reduceToNat, reduceIte, Int.reduceLE, Int.reduceNeg]; rfl) ?_
          repeat (first | refine W.seq ?_ | refine W.block ?_ | refine W.skip ?_ | refine W.exit ?_ | refine W.region tab_ok 0 (by decide) (exec_run (by simp only [exa, beq_self_eq_true, ByteArray.size, Nat.reduceAdd, Nat.reduceLeDiff, Nat.reduceEqDiff, Nat.reduceMul, Int.reduceToNat, reduceIte, Int.reduceLE, Int.reduceNeg]; rfl)) ?_)
          refine W.ret ⟨.inr rfl, by rfl, ?_⟩
          simp only [Tryd.f20, resA, resOne, toT, fin, exa, beq_self_eq_true, ByteArray.size, Nat.reduceAdd, Nat.reduceLeDiff, Nat.reduceEqDiff, Nat.reduceMul, Int.reduceToNat, reduceIte, Int.reduceLE, Int.reduceNeg]
          rw [rowZ_congr fun i hi => congrArg (fun q : Nat => (q : Int)) (partE_of (E := E) (p := fun i => optI (s.part i)) (n := n) (fun i j hi hj => by
            obtain ⟨r, hr⟩ := hall i hi
            obtain ⟨q, hq⟩ := hall j hj
            simp only [hr, hq, optI]
            have := hinv.scc i j r q hr hq
            unfold Mut
            rw [← this]; omega) hi)]
end V
end Go.Proofs.YtknmcmfdbfhadaaDoor
end
section
/- What Parts answers of any graph; the reference's Parts; the example of the chapter. -/
set_option linter.unusedVariables false
set_option linter.unusedSimpArgs false
namespace Go.Proofs.YtknmcmfdbfhadaaDoor
namespace V
open Go.RowKit G
noncomputable def partsR (n : Int) (l : List (Int × Int)) : List (Bool × List C) :=
  if chkB n l = false then [(false, [.sl []]), (false, [.int .i64 150])]
  else [(false, [.sl (rowZ n.toNat fun i => (partE (l.map fun e => (e.1.toNat, e.2.toNat)) i : Nat))]), (false, [.int .i64 0])]
theorem parts_ok (n : Int) (l : List (Int × Int)) (hl : l.length ≤ 1000000) (m : Mem) :
    COk Tryd.prog 20 [.c (.int .i64 n), .c (.sl (l.map cE))] m (.tup (partsR n l)) := by
  cases hc : chkB n l with
  | false =>
    have hr : partsR n l = [(false, [.sl []]), (false, [.int .i64 150])] := by unfold partsR; rw [if_pos hc]
    rw [hr]
    have hk := check_ok n l (by omega)
    rw [hc] at hk
    refine (ok_pure tab_ok Tryd.func20 (by kernel_rfl) rfl rfl (by rfl) (by rfl) (by rfl) (fun R hkeep => ?_) m)
    repeat (first | refine W.seq ?_ | refine W.block ?_ | refine W.skip ?_ | refine W.exit ?_ | refine W.region tab_ok 0 (by decide) (exec_run (by simp only [exa, beq_self_eq_true, ByteArray.size, Nat.reduceAdd, Nat.reduceLeDiff, Nat.reduceEqDiff, Nat.reduceMul, Int.reduceToNat, reduceIte, Int.reduceLE, Int.reduceNeg]; rfl)) ?_)
    refine W.regionK tab_ok 0 (by decide) ?_
    refine runk_split 2 (by simp only [exa, beq_self_eq_true, ByteArray.size, Nat.reduceAdd, Nat.reduceLeDiff, Nat.reduceEqDiff, Nat.reduceMul, Int.reduceToNat, reduceIte, Int.reduceLE, Int.reduceNeg]; rfl) ?_
    refine runk_call rfl rfl rfl rfl rfl (by simp) (cvs_cons cv_refl (cvs_cons cv_refl cvs_nil)) (hk _) ?_
    refine runk_exec (by simp only [exa, beq_self_eq_true, ByteArray.size, Nat.reduceAdd, Nat.reduceLeDiff, Nat.reduceEqDiff, Nat.reduceMul, Int.reduceToNat, reduceIte, Int.reduceLE, Int.reduceNeg]; rfl) ?_
    repeat (first | refine W.seq ?_ | refine W.block ?_ | refine W.skip ?_ | refine W.exit ?_ | refine W.region tab_ok 0 (by decide) (exec_run (by simp only [exa, beq_self_eq_true, ByteArray.size, Nat.reduceAdd, Nat.reduceLeDiff, Nat.reduceEqDiff, Nat.reduceMul, Int.reduceToNat, reduceIte, Int.reduceLE, Int.reduceNeg, errG, Bool.false_eq_true]; rfl)) ?_)
    refine W.cond rfl ?_ ?_
    · intro _
      repeat (first | refine W.seq ?_ | refine W.block ?_ | refine W.skip ?_ | refine W.exit ?_ | refine W.region tab_ok 0 (by decide) (exec_run (by simp only [exa, beq_self_eq_true, ByteArray.size, Nat.reduceAdd, Nat.reduceLeDiff, Nat.reduceEqDiff, Nat.reduceMul, Int.reduceToNat, reduceIte, Int.reduceLE, Int.reduceNeg]; rfl)) ?_)
      refine W.ret ⟨.inr rfl, by rfl, ?_⟩
      simp only [Tryd.f20, resA, resOne, toT, fin, exa, beq_self_eq_true, ByteArray.size, Nat.reduceAdd, Nat.reduceLeDiff, Nat.reduceEqDiff, Nat.reduceMul, Int.reduceToNat, reduceIte, Int.reduceLE, Int.reduceNeg]
    · intro h; cases h
  | true =>
    obtain ⟨N, E, rfl, rfl, hN, hE, e1, e2, e3⟩ := chk_parts hc
    have hr : partsR N (E.map castE) = [(false, [.sl (rowZ N fun i => (partE E i : Nat))]), (false, [.int .i64 0])] := by
      unfold partsR; rw [if_neg (by simp [hc]), e1, e2]
    rw [hr, cE_cast]
    exact partsG_ok N hN E (by omega) hE m
/-- A class's first. -/
noncomputable def fst (p : Nat → Int) (k : Nat) : Nat := Classical.choose (first_of p k)
theorem fst_spec (p : Nat → Int) (k : Nat) : fst p k ≤ k ∧ p (fst p k) = p k ∧ isF p (fst p k) = true := Classical.choose_spec (first_of p k)
theorem fst_self {p : Nat → Int} {i : Nat} (h : isF p i = true) : fst p i = i := first_uniq (fst_spec p i).2.2 h (fst_spec p i).2.1
theorem fst_iff {p : Nat → Int} {i k : Nat} (h : isF p i = true) : fst p k = i ↔ p i = p k :=
  ⟨fun e => by rw [← e]; exact (fst_spec p k).2.1, fun e => first_uniq (fst_spec p k).2.2 h ((fst_spec p k).2.1.trans e.symm)⟩
theorem fst_lt {p : Nat → Int} {i : Nat} : fst p i < i ↔ isF p i = false := by
  constructor
  · intro h
    cases hf : isF p i with
    | false => rfl
    | true => rw [fst_self hf] at h; omega
  · intro h
    have h1 := fst_spec p i
    rcases Nat.lt_or_ge (fst p i) i with q | q
    · exact q
    · have e : fst p i = i := by omega
      rw [e, h] at h1; cases h1.2.2
/-- The reference's row, when the firsts below i have been gone through. -/
noncomputable def outI (p : Nat → Int) (i k : Nat) : Int := if fst p k < i then (numN p k : Nat) else -1
theorem outI_next {p : Nat → Int} {i : Nat} (h : isF p i = false) (k : Nat) : outI p (i + 1) k = outI p i k := by
  unfold outI
  have hne : fst p k ≠ i := fun e => by have := (fst_spec p k).2.2; rw [e, h] at this; cases this
  by_cases q : fst p k < i
  · rw [if_pos q, if_pos (by omega)]
  · rw [if_neg q, if_neg (by omega)]
theorem outI_lead {p : Nat → Int} {i : Nat} (h : isF p i = true) (k : Nat) : outI p (i + 1) k = if fst p k = i then ((leads p i).length : Int) else outI p i k := by
  unfold outI
  by_cases e : fst p k = i
  · rw [if_pos e, if_pos (by omega)]
    have := numN_eq h ((fst_iff h).1 e)
    rw [this]
  · rw [if_neg e]
    by_cases q : fst p k < i
    · rw [if_pos q, if_pos (by omega)]
    · rw [if_neg q, if_neg (by omega)]
theorem rowK_Z (n k : Nat) : rowK n k = rowZ n (fun i => if i < k then -1 else 0) := rfl
set_option maxHeartbeats 4000000 in
theorem refPartsG_ok (n : Nat) (hn : n ≤ 100000) (E : List (Nat × Nat)) (hlen : E.length ≤ 1000000) (hE : ∀ e ∈ E, e.1 < n ∧ e.2 < n) (m : Mem) :
    COk Tryd.prog 21 [.c (.int .i64 n), .c (.sl (E.map cEd))] m (.tup [(false, [.sl (rowZ n fun i => (partE E i : Nat))]), (false, [.int .i64 0])]) := by
  have hm1 : n * 8 ≤ 140737488355328 := by omega
  have hm2 : (n : Int) ≤ 9223372036854775807 := by omega
  have hn0 : (0 : Int) ≤ (n : Int) := by omega
  have hturn : ∀ m, COk Tryd.prog 13 [.c (.sl (E.map cEd))] m (.c (.sl ((swapE E).map cEd))) := fun m => by
    have := refTurn_ok (E.map castE) (by simp; omega) m
    have e : ((E.map castE).map turnE).map cE = (swapE E).map cEd := by simp [swapE, castE, turnE, cE, cEd, Function.comp_def]
    rwa [cE_cast, e] at this
  refine (ok_pure tab_ok Tryd.func21 (by kernel_rfl) rfl rfl (by rfl) (by rfl) (by rfl) (fun R hkeep => ?_) m)
  repeat (first | refine W.seq ?_ | refine W.block ?_ | refine W.skip ?_ | refine W.exit ?_ | refine W.region tab_ok 0 (by decide) (exec_run (by simp only [exa, beq_self_eq_true, ByteArray.size, Nat.reduceAdd, Nat.reduceLeDiff, Nat.reduceEqDiff, Nat.reduceMul, Int.reduceToNat, reduceIte, Int.reduceLE, Int.reduceNeg]; rfl)) ?_)
  refine W.regionK tab_ok 0 (by decide) ?_
  refine runk_split 2 (by simp only [exa, beq_self_eq_true, ByteArray.size, Nat.reduceAdd, Nat.reduceLeDiff, Nat.reduceEqDiff, Nat.reduceMul, Int.reduceToNat, reduceIte, Int.reduceLE, Int.reduceNeg]; rfl) ?_
  refine runk_call rfl rfl rfl rfl rfl (by simp) (cvs_cons cv_refl (cvs_cons cv_refl cvs_nil)) (refCheckN_ok hn hlen hE _) ?_
  refine runk_exec (by simp only [exa, beq_self_eq_true, ByteArray.size, Nat.reduceAdd, Nat.reduceLeDiff, Nat.reduceEqDiff, Nat.reduceMul, Int.reduceToNat, reduceIte, Int.reduceLE, Int.reduceNeg]; rfl) ?_
  (repeat (first | refine W.seq ?_ | refine W.block ?_ | refine W.skip ?_ | refine W.exit ?_))
  refine W.region tab_ok 0 (by decide) (exec_run (by simp only [exa, beq_self_eq_true, ByteArray.size, Nat.reduceAdd, Nat.reduceLeDiff, Nat.reduceEqDiff, Nat.reduceMul, Int.reduceToNat, reduceIte, Int.reduceLE, Int.reduceNeg]; rfl)) ?_
  (repeat (first | refine W.seq ?_ | refine W.block ?_ | refine W.skip ?_ | refine W.exit ?_))
  refine W.cond rfl ?_ ?_
  · intro h; cases h
  intro _
  repeat (first | refine W.seq ?_ | refine W.block ?_ | refine W.skip ?_ | refine W.exit ?_ | refine W.region tab_ok 0 (by decide) (exec_run (by simp only [exa, beq_self_eq_true, ByteArray.size, Nat.reduceAdd, Nat.reduceLeDiff, Nat.reduceEqDiff, Nat.reduceMul, Int.reduceToNat, reduceIte, Int.reduceLE, Int.reduceNeg, hm1, hm2, hn0, Int.toNat_natCast, and_self, Bool.false_eq_true, rowK_zero, rowK_len]; rfl)) ?_)
  refine W.loop (ι := Nat) (fun k => ⟨upd (upd (upd (upd (upd (fun _ => .top) 0 (.c (.int .i64 n))) 1 (.c (.sl (E.map cEd)))) 7 (.own 21)) 23 (.c (.int .i64 n))) 24 (.c (.int .i64 k)), upd Mem.nil 21 (some (.mrow 3 1 (rowK n k)))⟩) (fun k => k ≤ n) (fun k => n - k) 0 ?start (Nat.zero_le _) ?round
  case start =>
    refine le_mk ?sle ?mle ?swf ?mwf ?kept (by rfl)
    case kept => exact kept_not hkeep
    case swf => repeat (first | exact swf_top _ | refine swf_upd ?_ (by simp [A.ids, upd_app]))
    case mwf => repeat (first | exact mwf_nil _ | refine mwf_upd ?_ (by simp [A.ids, O.ids, upd_app]))
    case mle => repeat (first | exact mle_nil _ | exact mle_refl _ | refine mle_upd ?_ (by first | rfl | (simp only [upd_app, killM_app, Nat.reduceEqDiff, reduceIte]; done)))
    case sle => repeat (first | exact sle_top _ | exact sle_refl _ | refine sle_upd ?_ (by first | rfl | (simp only [upd_app, entry_zero, entry_succ, Nat.reduceEqDiff, reduceIte]; done)))
  case round =>
    intro k hk
    repeat (first | refine W.seq ?_ | refine W.block ?_ | refine W.skip ?_ | refine W.exit ?_ | refine W.region tab_ok 0 (by decide) (exec_run (by simp only [exa, beq_self_eq_true, ByteArray.size, Nat.reduceAdd, Nat.reduceLeDiff, Nat.reduceEqDiff, Nat.reduceMul, Int.reduceToNat, reduceIte, Int.reduceLE, Int.reduceNeg]; rfl)) ?_)
    refine W.cond rfl ?_ ?_
    · intro hlt
      simp only [decide_eq_true_eq, Int.ofNat_lt] at hlt
      repeat (first | refine W.seq ?_ | refine W.block ?_ | refine W.skip ?_ | refine W.exit ?_ | refine W.region tab_ok 0 (by decide) (exec_run (by simp only [exa, beq_self_eq_true, ByteArray.size, Nat.reduceAdd, Nat.reduceLeDiff, Nat.reduceEqDiff, Nat.reduceMul, Int.reduceToNat, reduceIte, Int.reduceLE, Int.reduceNeg, rowK_at hlt, rowK_len, hlt, Int.toNat_natCast, and_self]; rfl)) ?_)
      refine ⟨k + 1, hlt, by omega, ?_⟩
      refine le_mk ?sle ?mle ?swf ?mwf ?kept (by rfl)
      case kept => exact kept_not hkeep
      case swf => repeat (first | exact swf_top _ | refine swf_upd ?_ (by simp [A.ids, upd_app]))
      case mwf => repeat (first | exact mwf_nil _ | refine mwf_upd ?_ (by simp [A.ids, O.ids, upd_app]))
      case mle => repeat (first | exact mle_nil _ | exact mle_refl _ | refine mle_upd ?_ (by first | rfl | (simp only [upd_app, killM_app, Nat.reduceEqDiff, reduceIte, wrap_succ (show k + 1 < 9223372036854775808 by omega), rowK_set hlt]; done)))
      case sle => repeat (first | exact sle_top _ | exact sle_refl _ | refine sle_upd ?_ (by first | rfl | (simp only [upd_app, entry_zero, entry_succ, Nat.reduceEqDiff, reduceIte, wrap_succ (show k + 1 < 9223372036854775808 by omega), rowK_set hlt]; done)))
    · intro hge
      simp only [decide_eq_false_iff_not, Int.ofNat_lt] at hge
      obtain rfl : n = k := by omega
      have h0 : rowK n n = rowZ n (outI (keyE E) 0) := by
        rw [rowK_Z]
        exact rowZ_congr fun i hi => by rw [if_pos hi]; unfold outI; rw [if_neg (Nat.not_lt_zero _)]
      rw [h0]
      repeat (first | refine W.seq ?_ | refine W.block ?_ | refine W.skip ?_ | refine W.exit ?_ | refine W.region tab_ok 0 (by decide) (exec_run (by simp only [exa, beq_self_eq_true, ByteArray.size, Nat.reduceAdd, Nat.reduceLeDiff, Nat.reduceEqDiff, Nat.reduceMul, Int.reduceToNat, reduceIte, Int.reduceLE, Int.reduceNeg]; rfl)) ?_)
      refine W.loop (ι := Nat) (fun i => ⟨upd (upd (upd (upd (upd (upd (fun _ => .top) 0 (.c (.int .i64 n))) 1 (.c (.sl (E.map cEd)))) 7 (.own 21)) 9 (.c (.int .i64 (leads (keyE E) i).length))) 31 (.c (.int .i64 n))) 32 (.c (.int .i64 i)), upd Mem.nil 21 (some (.mrow 3 1 (rowZ n (outI (keyE E) i))))⟩) (fun i => i ≤ n) (fun i => n - i) 0 ?start2 (Nat.zero_le _) ?round2
      case start2 =>
        refine le_mk ?sle ?mle ?swf ?mwf (kept_not hkeep) (by rfl)
        case swf => repeat (first | exact swf_top _ | refine swf_upd ?_ (by simp [A.ids, upd_app, leads, List.range_zero, List.filter_nil]))
        case mwf => repeat (first | exact mwf_nil _ | refine mwf_upd ?_ (by simp [A.ids, O.ids, upd_app, leads, List.range_zero, List.filter_nil]))
        case mle => repeat (first | exact mle_nil _ | exact mle_refl _ | refine mle_upd ?_ (by first | rfl | (simp only [upd_app, killM_app, O.kill, A.kill, Nat.reduceEqDiff, reduceIte, Option.map_some, Option.map_none, List.map_cons, List.map_nil, leads, List.range_zero, List.filter_nil]; done)))
        case sle => repeat (first | exact sle_top _ | exact sle_refl _ | refine sle_upd ?_ (by first | rfl | (simp only [upd_app, killS_app, A.kill, entry_zero, entry_succ, Nat.reduceEqDiff, reduceIte, leads, List.range_zero, List.filter_nil]; done)))
      case round2 =>
        intro i hi
        repeat (first | refine W.seq ?_ | refine W.block ?_ | refine W.skip ?_ | refine W.exit ?_ | refine W.region tab_ok 0 (by decide) (exec_run (by simp only [exa, beq_self_eq_true, ByteArray.size, Nat.reduceAdd, Nat.reduceLeDiff, Nat.reduceEqDiff, Nat.reduceMul, Int.reduceToNat, reduceIte, Int.reduceLE, Int.reduceNeg]; rfl)) ?_)
        refine W.cond rfl ?_ ?_
        · intro hlt
          simp only [decide_eq_true_eq, Int.ofNat_lt] at hlt
          have hi0 : (0 : Int) ≤ (i : Int) := by omega
          have hll := leads_len (keyE E) i
          repeat (first | refine W.seq ?_ | refine W.block ?_ | refine W.skip ?_ | refine W.exit ?_ | refine W.region tab_ok 0 (by decide) (exec_run (by simp only [exa, beq_self_eq_true, ByteArray.size, Nat.reduceAdd, Nat.reduceLeDiff, Nat.reduceEqDiff, Nat.reduceMul, Int.reduceToNat, reduceIte, Int.reduceLE, Int.reduceNeg, rowZ_at hlt, rowZ_len, hlt, hi0, Int.toNat_natCast, and_self]; rfl)) ?_)
          cases hf : isF (keyE E) i with
          | false =>
            have hge : (0 : Int) ≤ outI (keyE E) i i := by unfold outI; rw [if_pos (fst_lt.2 hf)]; omega
            refine W.cond rfl ?_ ?_
            · intro _
              repeat (first | refine W.seq ?_ | refine W.block ?_ | refine W.skip ?_ | refine W.exit ?_ | refine W.region tab_ok 0 (by decide) (exec_run (by simp only [exa, beq_self_eq_true, ByteArray.size, Nat.reduceAdd, Nat.reduceLeDiff, Nat.reduceEqDiff, Nat.reduceMul, Int.reduceToNat, reduceIte, Int.reduceLE, Int.reduceNeg]; rfl)) ?_)
              refine ⟨i + 1, hlt, by omega, ?_⟩
              rw [leads_succ, if_neg (by simp [hf]), List.append_nil, rowZ_congr fun k hk => outI_next hf k]
              refine le_mk ?sle ?mle ?swf ?mwf (kept_not hkeep) (by rfl)
              case swf => repeat (first | exact swf_top _ | refine swf_upd ?_ (by simp [A.ids, upd_app, wrap_succ (show i + 1 < 9223372036854775808 by omega)]))
              case mwf => repeat (first | exact mwf_nil _ | refine mwf_upd ?_ (by simp [A.ids, O.ids, upd_app, wrap_succ (show i + 1 < 9223372036854775808 by omega)]))
              case mle => repeat (first | exact mle_nil _ | exact mle_refl _ | refine mle_upd ?_ (by first | rfl | (simp only [upd_app, killM_app, O.kill, A.kill, Nat.reduceEqDiff, reduceIte, Option.map_some, Option.map_none, List.map_cons, List.map_nil, wrap_succ (show i + 1 < 9223372036854775808 by omega)]; done)))
              case sle => repeat (first | exact sle_top _ | exact sle_refl _ | refine sle_upd ?_ (by first | rfl | (simp only [upd_app, killS_app, A.kill, entry_zero, entry_succ, Nat.reduceEqDiff, reduceIte, wrap_succ (show i + 1 < 9223372036854775808 by omega)]; done)))
            · intro h; simp [hge] at h
          | true =>
            have hlo : ¬ (0 : Int) ≤ outI (keyE E) i i := by unfold outI; rw [fst_self hf, if_neg (Nat.lt_irrefl _)]; omega
            have hone : ∀ j ∈ [i], j < n := fun j hj => by simp at hj; omega
            refine W.cond rfl ?_ ?_
            · intro h; simp [hlo] at h
            · intro _
              (repeat (first | refine W.seq ?_ | refine W.block ?_ | refine W.skip ?_ | refine W.exit ?_))
              refine W.regionK tab_ok 0 (by decide) ?_
              refine runk_split 4 (by simp only [exa, beq_self_eq_true, ByteArray.size, Nat.reduceAdd, Nat.reduceLeDiff, Nat.reduceEqDiff, Nat.reduceMul, Int.reduceToNat, reduceIte, Int.reduceLE, Int.reduceNeg]; rfl) ?_
              refine runk_call rfl rfl rfl rfl rfl (by simp) (cvs_cons cv_refl (cvs_cons cv_refl (cvs_cons cv_refl cvs_nil))) (marks_ok n hn E hlen hE [i] (by simp) hone _) ?_
              refine runk_exec (by simp only [exa, beq_self_eq_true, ByteArray.size, Nat.reduceAdd, Nat.reduceLeDiff, Nat.reduceEqDiff, Nat.reduceMul, Int.reduceToNat, reduceIte, Int.reduceLE, Int.reduceNeg]; rfl) ?_
              (repeat (first | refine W.seq ?_ | refine W.block ?_ | refine W.skip ?_ | refine W.exit ?_))
              refine W.regionK tab_ok 0 (by decide) ?_
              refine runk_split 2 (by simp only [exa, beq_self_eq_true, ByteArray.size, Nat.reduceAdd, Nat.reduceLeDiff, Nat.reduceEqDiff, Nat.reduceMul, Int.reduceToNat, reduceIte, Int.reduceLE, Int.reduceNeg]; rfl) ?_
              refine runk_call rfl rfl rfl rfl rfl (by simp) (cvs_cons cv_refl cvs_nil) (hturn _) ?_
              refine runk_split 2 (by simp only [exa, beq_self_eq_true, ByteArray.size, Nat.reduceAdd, Nat.reduceLeDiff, Nat.reduceEqDiff, Nat.reduceMul, Int.reduceToNat, reduceIte, Int.reduceLE, Int.reduceNeg]; rfl) ?_
              refine runk_call rfl rfl rfl rfl rfl (by simp) (cvs_cons cv_refl (cvs_cons cv_refl (cvs_cons cv_refl cvs_nil))) (marks_ok n hn (swapE E) (by simpa [swapE] using hlen) (swap_lt hE) [i] (by simp) hone _) ?_
              refine runk_exec (by simp only [exa, beq_self_eq_true, ByteArray.size, Nat.reduceAdd, Nat.reduceLeDiff, Nat.reduceEqDiff, Nat.reduceMul, Int.reduceToNat, reduceIte, Int.reduceLE, Int.reduceNeg]; rfl) ?_
              repeat (first | refine W.seq ?_ | refine W.block ?_ | refine W.skip ?_ | refine W.exit ?_ | refine W.region tab_ok 0 (by decide) (exec_run (by simp only [exa, beq_self_eq_true, ByteArray.size, Nat.reduceAdd, Nat.reduceLeDiff, Nat.reduceEqDiff, Nat.reduceMul, Int.reduceToNat, reduceIte, Int.reduceLE, Int.reduceNeg]; rfl)) ?_)
              refine W.loop (ι := Nat) (fun k => ⟨upd (upd (upd (upd (upd (upd (upd (upd (upd (upd (fun _ => .top) 0 (.c (.int .i64 n))) 1 (.c (.sl (E.map cEd)))) 7 (.own 21)) 9 (.c (.int .i64 (leads (keyE E) i).length))) 31 (.c (.int .i64 n))) 32 (.c (.int .i64 i))) 11 (.c (.sl (rowB n (reachB E [i]))))) 12 (.c (.sl (rowB n (reachB (swapE E) [i]))))) 51 (.c (.int .i64 n))) 52 (.c (.int .i64 k)),
                  upd Mem.nil 21 (some (.mrow 3 1 (rowZ n fun j => if j < k then outI (keyE E) (i + 1) j else outI (keyE E) i j)))⟩) (fun k => k ≤ n) (fun k => n - k) 0 ?start3 (Nat.zero_le _) ?round3
              case start3 =>
                refine le_mk ?sle ?mle ?swf ?mwf (kept_not hkeep) (by rfl)
                case swf => repeat (first | exact swf_top _ | refine swf_upd ?_ (by simp [A.ids, upd_app, Nat.not_lt_zero, if_false]))
                case mwf => repeat (first | exact mwf_nil _ | refine mwf_upd ?_ (by simp [A.ids, O.ids, upd_app, Nat.not_lt_zero, if_false]))
                case mle => repeat (first | exact mle_nil _ | exact mle_refl _ | refine mle_upd ?_ (by first | rfl | (simp only [upd_app, killM_app, O.kill, A.kill, Nat.reduceEqDiff, reduceIte, Option.map_some, Option.map_none, List.map_cons, List.map_nil, Nat.not_lt_zero, if_false]; done)))
                case sle => repeat (first | exact sle_top _ | exact sle_refl _ | refine sle_upd ?_ (by first | rfl | (simp only [upd_app, killS_app, A.kill, entry_zero, entry_succ, Nat.reduceEqDiff, reduceIte, Nat.not_lt_zero, if_false]; done)))
              case round3 =>
                intro k hk
                repeat (first | refine W.seq ?_ | refine W.block ?_ | refine W.skip ?_ | refine W.exit ?_ | refine W.region tab_ok 0 (by decide) (exec_run (by simp only [exa, beq_self_eq_true, ByteArray.size, Nat.reduceAdd, Nat.reduceLeDiff, Nat.reduceEqDiff, Nat.reduceMul, Int.reduceToNat, reduceIte, Int.reduceLE, Int.reduceNeg]; rfl)) ?_)
                refine W.cond rfl ?_ ?_
                · intro hkl
                  simp only [decide_eq_true_eq, Int.ofNat_lt] at hkl
                  have hk0 : (0 : Int) ≤ (k : Int) := by omega
                  have hmut : (reachB E [i] k = true ∧ reachB (swapE E) [i] k = true) ↔ fst (keyE E) k = i := by
                    rw [fst_iff hf, keyE_iff, reachB_iff, reachB_iff, rch_rev (fun a b => mem_swap)]
                    exact Iff.rfl
                  have hsame : fst (keyE E) k ≠ i → (rowZ n fun j => if j < k then outI (keyE E) (i + 1) j else outI (keyE E) i j) = rowZ n fun j => if j < k + 1 then outI (keyE E) (i + 1) j else outI (keyE E) i j := fun hne => by
                    refine rowZ_congr fun j hj => ?_
                    by_cases e : j = k
                    · subst e
                      rw [if_neg (Nat.lt_irrefl _), if_pos (by omega), outI_lead hf, if_neg hne]
                    · by_cases q : j < k
                      · rw [if_pos q, if_pos (by omega)]
                      · rw [if_neg q, if_neg (by omega)]
                  cases h1 : reachB E [i] k with
                  | true =>
                    cases h2 : reachB (swapE E) [i] k with
                    | true =>
                      have hfk : fst (keyE E) k = i := hmut.1 ⟨h1, h2⟩
                      have hset : (rowZ n fun j => if j < k then outI (keyE E) (i + 1) j else outI (keyE E) i j).set k [C.int .i64 ((leads (keyE E) i).length : Int)] = rowZ n fun j => if j < k + 1 then outI (keyE E) (i + 1) j else outI (keyE E) i j := by
                        rw [rowZ_set]
                        refine rowZ_congr fun j hj => ?_
                        by_cases e : j = k
                        · subst e
                          rw [if_pos rfl, if_pos (by omega), outI_lead hf, if_pos hfk]
                        · rw [if_neg e]
                          by_cases q : j < k
                          · rw [if_pos q, if_pos (by omega)]
                          · rw [if_neg q, if_neg (by omega)]
                      repeat (first | refine W.seq ?_ | refine W.block ?_ | refine W.skip ?_ | refine W.exit ?_ | refine W.region tab_ok 0 (by decide) (exec_run (by simp only [exa, beq_self_eq_true, ByteArray.size, Nat.reduceAdd, Nat.reduceLeDiff, Nat.reduceEqDiff, Nat.reduceMul, Int.reduceToNat, reduceIte, Int.reduceLE, Int.reduceNeg, rowB_at hkl, rowB_len, hkl, hk0, h1, h2, Int.toNat_natCast, and_self]; rfl)) ?_)
                      refine W.cond rfl ?_ ?_
                      · intro _
                        repeat (first | refine W.seq ?_ | refine W.block ?_ | refine W.skip ?_ | refine W.exit ?_ | refine W.region tab_ok 0 (by decide) (exec_run (by simp only [exa, beq_self_eq_true, ByteArray.size, Nat.reduceAdd, Nat.reduceLeDiff, Nat.reduceEqDiff, Nat.reduceMul, Int.reduceToNat, reduceIte, Int.reduceLE, Int.reduceNeg, rowZ_at hkl, rowZ_len, hkl, hk0, Int.toNat_natCast, and_self]; rfl)) ?_)
                        refine ⟨k + 1, hkl, by omega, ?_⟩
                        refine le_mk ?sle ?mle ?swf ?mwf (kept_not hkeep) (by rfl)
                        case swf => repeat (first | exact swf_top _ | refine swf_upd ?_ (by simp [A.ids, upd_app, hset, wrap_succ (show k + 1 < 9223372036854775808 by omega)]))
                        case mwf => repeat (first | exact mwf_nil _ | refine mwf_upd ?_ (by simp [A.ids, O.ids, upd_app, hset, wrap_succ (show k + 1 < 9223372036854775808 by omega)]))
                        case mle => repeat (first | exact mle_nil _ | exact mle_refl _ | refine mle_upd ?_ (by first | rfl | (simp only [upd_app, killM_app, O.kill, A.kill, Nat.reduceEqDiff, reduceIte, Option.map_some, Option.map_none, List.map_cons, List.map_nil, hset, wrap_succ (show k + 1 < 9223372036854775808 by omega)]; done)))
                        case sle => repeat (first | exact sle_top _ | exact sle_refl _ | refine sle_upd ?_ (by first | rfl | (simp only [upd_app, killS_app, A.kill, entry_zero, entry_succ, Nat.reduceEqDiff, reduceIte, hset, wrap_succ (show k + 1 < 9223372036854775808 by omega)]; done)))
                      · intro h; cases h
                    | false =>
                      have hfk : fst (keyE E) k ≠ i := fun e => by have := (hmut.2 e).2; rw [h2] at this; cases this
                      repeat (first | refine W.seq ?_ | refine W.block ?_ | refine W.skip ?_ | refine W.exit ?_ | refine W.region tab_ok 0 (by decide) (exec_run (by simp only [exa, beq_self_eq_true, ByteArray.size, Nat.reduceAdd, Nat.reduceLeDiff, Nat.reduceEqDiff, Nat.reduceMul, Int.reduceToNat, reduceIte, Int.reduceLE, Int.reduceNeg, rowB_at hkl, rowB_len, hkl, hk0, h1, h2, Int.toNat_natCast, and_self]; rfl)) ?_)
                      refine W.cond rfl ?_ ?_
                      · intro h; cases h
                      · intro _
                        repeat (first | refine W.seq ?_ | refine W.block ?_ | refine W.skip ?_ | refine W.exit ?_ | refine W.region tab_ok 0 (by decide) (exec_run (by simp only [exa, beq_self_eq_true, ByteArray.size, Nat.reduceAdd, Nat.reduceLeDiff, Nat.reduceEqDiff, Nat.reduceMul, Int.reduceToNat, reduceIte, Int.reduceLE, Int.reduceNeg]; rfl)) ?_)
                        refine ⟨k + 1, hkl, by omega, ?_⟩
                        rw [hsame hfk]
                        refine le_mk ?sle ?mle ?swf ?mwf (kept_not hkeep) (by rfl)
                        case swf => repeat (first | exact swf_top _ | refine swf_upd ?_ (by simp [A.ids, upd_app, wrap_succ (show k + 1 < 9223372036854775808 by omega)]))
                        case mwf => repeat (first | exact mwf_nil _ | refine mwf_upd ?_ (by simp [A.ids, O.ids, upd_app, wrap_succ (show k + 1 < 9223372036854775808 by omega)]))
                        case mle => repeat (first | exact mle_nil _ | exact mle_refl _ | refine mle_upd ?_ (by first | rfl | (simp only [upd_app, killM_app, O.kill, A.kill, Nat.reduceEqDiff, reduceIte, Option.map_some, Option.map_none, List.map_cons, List.map_nil, wrap_succ (show k + 1 < 9223372036854775808 by omega)]; done)))
                        case sle => repeat (first | exact sle_top _ | exact sle_refl _ | refine sle_upd ?_ (by first | rfl | (simp only [upd_app, killS_app, A.kill, entry_zero, entry_succ, Nat.reduceEqDiff, reduceIte, wrap_succ (show k + 1 < 9223372036854775808 by omega)]; done)))
                  | false =>
                    have hfk : fst (keyE E) k ≠ i := fun e => by have := (hmut.2 e).1; rw [h1] at this; cases this
                    repeat (first | refine W.seq ?_ | refine W.block ?_ | refine W.skip ?_ | refine W.exit ?_ | refine W.region tab_ok 0 (by decide) (exec_run (by simp only [exa, beq_self_eq_true, ByteArray.size, Nat.reduceAdd, Nat.reduceLeDiff, Nat.reduceEqDiff, Nat.reduceMul, Int.reduceToNat, reduceIte, Int.reduceLE, Int.reduceNeg, rowB_at hkl, rowB_len, hkl, hk0, h1, Int.toNat_natCast, and_self]; rfl)) ?_)
                    refine W.cond rfl ?_ ?_
                    · intro h; cases h
                    · intro _
                      repeat (first | refine W.seq ?_ | refine W.block ?_ | refine W.skip ?_ | refine W.exit ?_ | refine W.region tab_ok 0 (by decide) (exec_run (by simp only [exa, beq_self_eq_true, ByteArray.size, Nat.reduceAdd, Nat.reduceLeDiff, Nat.reduceEqDiff, Nat.reduceMul, Int.reduceToNat, reduceIte, Int.reduceLE, Int.reduceNeg]; rfl)) ?_)
                      refine ⟨k + 1, hkl, by omega, ?_⟩
                      rw [hsame hfk]
                      refine le_mk ?sle ?mle ?swf ?mwf (kept_not hkeep) (by rfl)
                      case swf => repeat (first | exact swf_top _ | refine swf_upd ?_ (by simp [A.ids, upd_app, wrap_succ (show k + 1 < 9223372036854775808 by omega)]))
                      case mwf => repeat (first | exact mwf_nil _ | refine mwf_upd ?_ (by simp [A.ids, O.ids, upd_app, wrap_succ (show k + 1 < 9223372036854775808 by omega)]))
                      case mle => repeat (first | exact mle_nil _ | exact mle_refl _ | refine mle_upd ?_ (by first | rfl | (simp only [upd_app, killM_app, O.kill, A.kill, Nat.reduceEqDiff, reduceIte, Option.map_some, Option.map_none, List.map_cons, List.map_nil, wrap_succ (show k + 1 < 9223372036854775808 by omega)]; done)))
                      case sle => repeat (first | exact sle_top _ | exact sle_refl _ | refine sle_upd ?_ (by first | rfl | (simp only [upd_app, killS_app, A.kill, entry_zero, entry_succ, Nat.reduceEqDiff, reduceIte, wrap_succ (show k + 1 < 9223372036854775808 by omega)]; done)))
                · intro hge
                  simp only [decide_eq_false_iff_not, Int.ofNat_lt] at hge
                  obtain rfl : n = k := by omega
                  repeat (first | refine W.seq ?_ | refine W.block ?_ | refine W.skip ?_ | refine W.exit ?_ | refine W.region tab_ok 0 (by decide) (exec_run (by simp only [exa, beq_self_eq_true, ByteArray.size, Nat.reduceAdd, Nat.reduceLeDiff, Nat.reduceEqDiff, Nat.reduceMul, Int.reduceToNat, reduceIte, Int.reduceLE, Int.reduceNeg]; rfl)) ?_)
                  refine ⟨i + 1, hlt, by omega, ?_⟩
                  have hfin : (rowZ n fun j => if j < n then outI (keyE E) (i + 1) j else outI (keyE E) i j) = rowZ n (outI (keyE E) (i + 1)) := rowZ_congr fun j hj => by rw [if_pos hj]
                  rw [hfin, leads_succ, if_pos hf]
                  refine le_mk ?sle ?mle ?swf ?mwf (kept_not hkeep) (by rfl)
                  case swf => repeat (first | exact swf_top _ | refine swf_upd ?_ (by simp [A.ids, upd_app, List.length_append, List.length_cons, List.length_nil, wrap_succ (show i + 1 < 9223372036854775808 by omega), wrap_succ (show (leads (keyE E) i).length + 1 < 9223372036854775808 by omega)]))
                  case mwf => repeat (first | exact mwf_nil _ | refine mwf_upd ?_ (by simp [A.ids, O.ids, upd_app, List.length_append, List.length_cons, List.length_nil, wrap_succ (show i + 1 < 9223372036854775808 by omega), wrap_succ (show (leads (keyE E) i).length + 1 < 9223372036854775808 by omega)]))
                  case mle => repeat (first | exact mle_nil _ | exact mle_refl _ | refine mle_upd ?_ (by first | rfl | (simp only [upd_app, killM_app, O.kill, A.kill, Nat.reduceEqDiff, reduceIte, Option.map_some, Option.map_none, List.map_cons, List.map_nil, List.length_append, List.length_cons, List.length_nil, wrap_succ (show i + 1 < 9223372036854775808 by omega), wrap_succ (show (leads (keyE E) i).length + 1 < 9223372036854775808 by omega)]; done)))
                  case sle => repeat (first | exact sle_top _ | exact sle_refl _ | refine sle_upd ?_ (by first | rfl | (simp only [upd_app, killS_app, A.kill, entry_zero, entry_succ, Nat.reduceEqDiff, reduceIte, List.length_append, List.length_cons, List.length_nil, wrap_succ (show i + 1 < 9223372036854775808 by omega), wrap_succ (show (leads (keyE E) i).length + 1 < 9223372036854775808 by omega)]; done)))
        · intro hge
          simp only [decide_eq_false_iff_not, Int.ofNat_lt] at hge
          obtain rfl : n = i := by omega
          have hfin : rowZ n (outI (keyE E) n) = rowZ n fun i => (partE E i : Nat) := rowZ_congr fun j hj => by
            unfold outI partE
            rw [if_pos (Nat.lt_of_le_of_lt (fst_spec (keyE E) j).1 hj)]
          repeat (first | refine W.seq ?_ | refine W.block ?_ | refine W.skip ?_ | refine W.exit ?_ | refine W.region tab_ok 0 (by decide) (exec_run (by simp only [exa, beq_self_eq_true, ByteArray.size, Nat.reduceAdd, Nat.reduceLeDiff, Nat.reduceEqDiff, Nat.reduceMul, Int.reduceToNat, reduceIte, Int.reduceLE, Int.reduceNeg]; rfl)) ?_)
          refine W.freeze 4 21 rfl (by simp only [exa, beq_self_eq_true, ByteArray.size, Nat.reduceAdd, Nat.reduceLeDiff, Nat.reduceEqDiff, Nat.reduceMul, Int.reduceToNat, reduceIte, Int.reduceLE, Int.reduceNeg]; rfl) (nokeep hkeep) ?_
          refine W.ret ⟨.inr rfl, by rfl, ?_⟩
          simp only [Tryd.f21, resA, resOne, toT, fin, exa, beq_self_eq_true, ByteArray.size, Nat.reduceAdd, Nat.reduceLeDiff, Nat.reduceEqDiff, Nat.reduceMul, Int.reduceToNat, reduceIte, Int.reduceLE, Int.reduceNeg]
          rw [hfin]
end V
end Go.Proofs.YtknmcmfdbfhadaaDoor
end
section
/- Layer 15's laws: what Reach, Parts and Path answer is as the reference's. -/
set_option linter.unusedVariables false
set_option linter.unusedSimpArgs false
namespace Go.Proofs.YtknmcmfdbfhadaaDoor
namespace V
open Go.RowKit G
theorem refParts_ok (n : Int) (l : List (Int × Int)) (hl : l.length ≤ 1000000) (m : Mem) :
    COk Tryd.prog 21 [.c (.int .i64 n), .c (.sl (l.map cE))] m (.tup (partsR n l)) := by
  cases hc : chkB n l with
  | false =>
    have hr : partsR n l = [(false, [.sl []]), (false, [.int .i64 150])] := by unfold partsR; rw [if_pos hc]
    rw [hr]
    have hk := refCheck_ok n l (by omega)
    rw [hc] at hk
    refine (ok_pure tab_ok Tryd.func21 (by kernel_rfl) rfl rfl (by rfl) (by rfl) (by rfl) (fun R hkeep => ?_) m)
    repeat (first | refine W.seq ?_ | refine W.block ?_ | refine W.skip ?_ | refine W.exit ?_ | refine W.region tab_ok 0 (by decide) (exec_run (by simp only [exa, beq_self_eq_true, ByteArray.size, Nat.reduceAdd, Nat.reduceLeDiff, Nat.reduceEqDiff, Nat.reduceMul, Int.reduceToNat, reduceIte, Int.reduceLE, Int.reduceNeg]; rfl)) ?_)
    refine W.regionK tab_ok 0 (by decide) ?_
    refine runk_split 2 (by simp only [exa, beq_self_eq_true, ByteArray.size, Nat.reduceAdd, Nat.reduceLeDiff, Nat.reduceEqDiff, Nat.reduceMul, Int.reduceToNat, reduceIte, Int.reduceLE, Int.reduceNeg]; rfl) ?_
    refine runk_call rfl rfl rfl rfl rfl (by simp) (cvs_cons cv_refl (cvs_cons cv_refl cvs_nil)) (hk _) ?_
    refine runk_exec (by simp only [exa, beq_self_eq_true, ByteArray.size, Nat.reduceAdd, Nat.reduceLeDiff, Nat.reduceEqDiff, Nat.reduceMul, Int.reduceToNat, reduceIte, Int.reduceLE, Int.reduceNeg]; rfl) ?_
    repeat (first | refine W.seq ?_ | refine W.block ?_ | refine W.skip ?_ | refine W.exit ?_ | refine W.region tab_ok 0 (by decide) (exec_run (by simp only [exa, beq_self_eq_true, ByteArray.size, Nat.reduceAdd, Nat.reduceLeDiff, Nat.reduceEqDiff, Nat.reduceMul, Int.reduceToNat, reduceIte, Int.reduceLE, Int.reduceNeg, errG, Bool.false_eq_true]; rfl)) ?_)
    refine W.cond rfl ?_ ?_
    · intro _
      repeat (first | refine W.seq ?_ | refine W.block ?_ | refine W.skip ?_ | refine W.exit ?_ | refine W.region tab_ok 0 (by decide) (exec_run (by simp only [exa, beq_self_eq_true, ByteArray.size, Nat.reduceAdd, Nat.reduceLeDiff, Nat.reduceEqDiff, Nat.reduceMul, Int.reduceToNat, reduceIte, Int.reduceLE, Int.reduceNeg]; rfl)) ?_)
      refine W.ret ⟨.inr rfl, by rfl, ?_⟩
      simp only [Tryd.f21, resA, resOne, toT, fin, exa, beq_self_eq_true, ByteArray.size, Nat.reduceAdd, Nat.reduceLeDiff, Nat.reduceEqDiff, Nat.reduceMul, Int.reduceToNat, reduceIte, Int.reduceLE, Int.reduceNeg]
    · intro h; cases h
  | true =>
    obtain ⟨N, E, rfl, rfl, hN, hE, e1, e2, e3⟩ := chk_parts hc
    have hr : partsR N (E.map castE) = [(false, [.sl (rowZ N fun i => (partE E i : Nat))]), (false, [.int .i64 0])] := by
      unfold partsR; rw [if_neg (by simp [hc]), e1, e2]
    rw [hr, cE_cast]
    exact refPartsG_ok N hN E (by omega) hE m
/-! ### All answers are a row of ints and an error -/
theorem rowZ_cZ (n : Nat) (f : Nat → Int) : rowZ n f = ((List.range n).map f).map cZ := by simp [rowZ, cZ, Function.comp_def]
theorem cN_cZ (l : List Nat) : l.map cN = (l.map fun i : Nat => (i : Int)).map cZ := by simp [cZ, cN, Function.comp_def]
theorem reachR_shape (n : Int) (l : List (Int × Int)) (src : List Int) : ∃ (L : List Int) (e : Int), reachR n l src = [(false, [.sl (L.map cZ)]), (false, [.int .i64 e])] ∧ L.length ≤ 100000 := by
  unfold reachR
  by_cases h1 : chkB n l = false
  · rw [if_pos h1]; exact ⟨[], 150, rfl, by simp⟩
  · rw [if_neg h1]
    by_cases h2 : src.any (badI n) = true
    · rw [if_pos h2]; exact ⟨[], 1, rfl, by simp⟩
    · rw [if_neg h2, cN_cZ]
      refine ⟨_, 0, rfl, ?_⟩
      have := chk_good (by simpa using h1)
      rw [List.length_map]
      unfold reachL
      refine Nat.le_trans (List.length_filter_le _ _) ?_
      rw [List.length_range]; omega
theorem partsR_shape (n : Int) (l : List (Int × Int)) : ∃ (L : List Int) (e : Int), partsR n l = [(false, [.sl (L.map cZ)]), (false, [.int .i64 e])] ∧ L.length ≤ 100000 := by
  unfold partsR
  by_cases h1 : chkB n l = false
  · rw [if_pos h1]; exact ⟨[], 150, rfl, by simp⟩
  · rw [if_neg h1, rowZ_cZ]
    refine ⟨_, 0, rfl, ?_⟩
    have := chk_good (by simpa using h1)
    simp; omega
theorem pathR_shape (n : Int) (l : List (Int × Int)) (f t : Int) : ∃ (L : List Int) (e : Int), pathR n l f t = [(false, [.sl (L.map cZ)]), (false, [.int .i64 e])] ∧ L.length ≤ 1000000 := by
  unfold pathR
  by_cases h1 : chkB n l = false
  · rw [if_pos h1]; exact ⟨[], 150, rfl, by simp⟩
  · rw [if_neg h1]
    by_cases h2 : (badI n f || badI n t) = true
    · rw [if_pos h2]; exact ⟨[], 1, rfl, by simp⟩
    · rw [if_neg h2]
      have h1' : chkB n l = true := by simpa using h1
      obtain ⟨N, E, rfl, rfl, hN, hE, e1, e2, e3⟩ := chk_parts h1'
      have h2' : (badI N f || badI N t) = false := by simpa using h2
      rw [Bool.or_eq_false_iff] at h2'
      obtain ⟨a, rfl, ha, e4⟩ := node_of h2'.1
      obtain ⟨b, rfl, hb, e5⟩ := node_of h2'.2
      rw [e2, e4, e5]
      rcases pathA_cases E b a with ⟨K, hK, e⟩ | ⟨-, e⟩
      · rw [e, cN_cZ]
        refine ⟨_, 0, rfl, ?_⟩
        have := dst_lt hE hb hK
        rw [List.length_map, pathN_len]; omega
      · rw [e]; exact ⟨[], 4, rfl, by simp⟩
/-! ### The example -/
def E3 : List (Nat × Nat) := [(0, 1), (1, 0), (1, 2)]
theorem E3_cast : threeL = E3.map castE := rfl
theorem r01 : Rch E3 [0] 1 := .step (i := 0) (.here (by simp)) (by simp [E3])
theorem r02 : Rch E3 [0] 2 := .step (i := 1) r01 (by simp [E3])
theorem r10 : Rch E3 [1] 0 := .step (i := 1) (.here (by simp)) (by simp [E3])
theorem r2 {j : Nat} (h : Rch E3 [2] j) : j = 2 := by
  induction h with
  | here h => simpa using h
  | step _ e ih => subst ih; simp [E3] at e
theorem live_reach : reachR 3 threeL [0] = [(false, [.sl (([0, 1, 2] : List Int).map cZ)]), (false, [.int .i64 0])] := by
  have h1 : chkB 3 threeL = true := by decide
  have h2 : ([0] : List Int).any (badI 3) = false := by decide
  unfold reachR
  rw [if_neg (by simp [h1]), if_neg (by simp [h2])]
  have e1 : (threeL.map fun e => (e.1.toNat, e.2.toNat)) = E3 := by decide
  have e2 : ([0] : List Int).map Int.toNat = [0] := rfl
  have e3 : Int.toNat 3 = 3 := rfl
  rw [e1, e2, e3]
  have e4 : reachL E3 [0] 3 = [0, 1, 2] := by
    unfold reachL
    have q0 : reachB E3 [0] 0 = true := reachB_iff.2 (.here (by simp))
    have q1 : reachB E3 [0] 1 = true := reachB_iff.2 r01
    have q2 : reachB E3 [0] 2 = true := reachB_iff.2 r02
    show List.filter _ [0, 1, 2] = _
    simp [q0, q1, q2]
  rw [e4]; rfl
theorem live_parts : partsR 3 threeL = [(false, [.sl (([0, 0, 1] : List Int).map cZ)]), (false, [.int .i64 0])] := by
  have h1 : chkB 3 threeL = true := by decide
  unfold partsR
  rw [if_neg (by simp [h1])]
  have e1 : (threeL.map fun e => (e.1.toNat, e.2.toNat)) = E3 := by decide
  have e3 : Int.toNat 3 = 3 := rfl
  rw [e1, e3]
  have m01 : Mut E3 0 1 := ⟨r01, r10⟩
  have m02 : ¬ Mut E3 0 2 := fun h => by have := r2 h.2; omega
  have m12 : ¬ Mut E3 1 2 := fun h => by have := r2 h.2; omega
  have f0 : isF (keyE E3) 0 = true := isF_iff.2 fun i hi => by omega
  have f1 : isF (keyE E3) 1 = false := by
    cases h : isF (keyE E3) 1 with
    | false => rfl
    | true => exact absurd (keyE_iff.2 m01) (isF_iff.1 h 0 (by omega))
  have f2 : isF (keyE E3) 2 = true := isF_iff.2 fun i hi e => by
    have : i = 0 ∨ i = 1 := by omega
    rcases this with rfl | rfl
    · exact m02 (keyE_iff.1 e)
    · exact m12 (keyE_iff.1 e)
  have l0 : leads (keyE E3) 0 = [] := rfl
  have l1 : leads (keyE E3) 1 = [0] := by rw [leads_succ, l0, if_pos f0]; rfl
  have l2 : leads (keyE E3) 2 = [0] := by rw [leads_succ, l1, if_neg (by simp [f1])]; rfl
  have n0 : partE E3 0 = 0 := by unfold partE; rw [numN_eq f0 rfl, l0]; rfl
  have n1 : partE E3 1 = 0 := by unfold partE; rw [numN_eq f0 (keyE_iff.2 m01), l0]; rfl
  have n2 : partE E3 2 = 1 := by unfold partE; rw [numN_eq f2 rfl, l2]; rfl
  show [(false, [C.sl [[.int .i64 ((partE E3 0 : Nat) : Int)], [.int .i64 ((partE E3 1 : Nat) : Int)], [.int .i64 ((partE E3 2 : Nat) : Int)]]]), (false, [.int .i64 0])] = _
  rw [n0, n1, n2]; rfl
theorem live_path : pathR 3 threeL 0 2 = [(false, [.sl (([0, 1, 2] : List Int).map cZ)]), (false, [.int .i64 0])] := by
  have h1 : chkB 3 threeL = true := by decide
  have h2 : (badI 3 0 || badI 3 2) = false := by decide
  unfold pathR
  rw [if_neg (by simp [h1]), if_neg (by simp [h2])]
  have e1 : (threeL.map fun e => (e.1.toNat, e.2.toNat)) = E3 := by decide
  have e3 : Int.toNat 0 = 0 := rfl
  have e4 : Int.toNat 2 = 2 := rfl
  rw [e1, e3, e4]
  have d2 : Dst E3 2 2 0 := dst_zero.2 rfl
  have d1 : Dst E3 2 1 1 := ⟨.cons (j := 2) (by simp [E3]) .nil, fun m hm hw => by
    obtain rfl : m = 0 := by omega
    exact absurd (way_zero.1 hw) (by decide)⟩
  have d0 : Dst E3 2 0 2 := ⟨.cons (j := 1) (by simp [E3]) d1.1, fun m hm hw => by
    have : m = 0 ∨ m = 1 := by omega
    rcases this with rfl | rfl
    · exact absurd (way_zero.1 hw) (by decide)
    · obtain ⟨j, hj, hw⟩ := way_succ.1 hw
      have := way_zero.1 hw
      subst this
      simp [E3] at hj⟩
  rw [pathA_some d0]
  have x1 : nextN E3 2 1 0 = 1 := nextN_eq (by simp [E3]) d1 (fun m hm _ => by simp [E3] at hm; omega)
  have x2 : nextN E3 2 0 1 = 2 := nextN_eq (by simp [E3]) d2 (fun m hm hd => by have := dst_zero.1 hd; omega)
  simp only [pathN, x1, x2]
  rfl
theorem live_ok (m : Mem) : COk Tryd.prog 10 [] m (.c (.bool true)) := by
  have h1 := reach_ok 3 threeL (by simp [threeL]) [0] (by simp)
  have h2 := parts_ok 3 threeL (by simp [threeL])
  have h3 := path_ok 3 threeL (by simp [threeL]) 0 2
  rw [live_reach] at h1
  rw [live_parts] at h2
  rw [live_path] at h3
  have s1 : ∀ m, COk Tryd.prog 19 [.c (.sl (([0, 1, 2] : List Int).map cZ)), .c (.sl (([0, 1, 2] : List Int).map cZ))] m (.c (.bool true)) := fun m => sameInts_ok [0, 1, 2] [0, 1, 2] (by simp) m
  have s2 : ∀ m, COk Tryd.prog 19 [.c (.sl (([0, 0, 1] : List Int).map cZ)), .c (.sl (([0, 0, 1] : List Int).map cZ))] m (.c (.bool true)) := fun m => sameInts_ok [0, 0, 1] [0, 0, 1] (by simp) m
  refine (ok_pure tab_ok Tryd.func10 (by kernel_rfl) rfl rfl (by rfl) (by rfl) (by rfl) (fun R hkeep => ?_) m)
  repeat (first | refine W.seq ?_ | refine W.block ?_ | refine W.skip ?_ | refine W.exit ?_ | refine W.region tab_ok 0 (by decide) (exec_run (by simp only [exa, beq_self_eq_true, ByteArray.size, Nat.reduceAdd, Nat.reduceLeDiff, Nat.reduceEqDiff, Nat.reduceMul, Int.reduceToNat, reduceIte, Int.reduceLE, Int.reduceNeg]; rfl)) ?_)
  refine W.regionK tab_ok 0 (by decide) ?_
  refine runk_split 0 (by simp only [exa, beq_self_eq_true, ByteArray.size, Nat.reduceAdd, Nat.reduceLeDiff, Nat.reduceEqDiff, Nat.reduceMul, Int.reduceToNat, reduceIte, Int.reduceLE, Int.reduceNeg]; rfl) ?_
  refine runk_call rfl rfl rfl rfl rfl (by simp) cvs_nil (three_ok _) ?_
  refine runk_split 1 (by simp only [exa, beq_self_eq_true, ByteArray.size, Nat.reduceAdd, Nat.reduceLeDiff, Nat.reduceEqDiff, Nat.reduceMul, Int.reduceToNat, reduceIte, Int.reduceLE, Int.reduceNeg]; rfl) ?_
  refine runk_call rfl rfl rfl rfl rfl (by simp) (cvs_cons cv_refl (cvs_cons cv_refl (cvs_cons cv_refl cvs_nil))) (h1 _) ?_
  refine runk_exec (by simp only [exa, beq_self_eq_true, ByteArray.size, Nat.reduceAdd, Nat.reduceLeDiff, Nat.reduceEqDiff, Nat.reduceMul, Int.reduceToNat, reduceIte, Int.reduceLE, Int.reduceNeg]; rfl) ?_
  (repeat (first | refine W.seq ?_ | refine W.block ?_ | refine W.skip ?_ | refine W.exit ?_))
  refine W.regionK tab_ok 0 (by decide) ?_
  refine runk_split 0 (by simp only [exa, beq_self_eq_true, ByteArray.size, Nat.reduceAdd, Nat.reduceLeDiff, Nat.reduceEqDiff, Nat.reduceMul, Int.reduceToNat, reduceIte, Int.reduceLE, Int.reduceNeg]; rfl) ?_
  refine runk_call rfl rfl rfl rfl rfl (by simp) cvs_nil (three_ok _) ?_
  refine runk_split 0 (by simp only [exa, beq_self_eq_true, ByteArray.size, Nat.reduceAdd, Nat.reduceLeDiff, Nat.reduceEqDiff, Nat.reduceMul, Int.reduceToNat, reduceIte, Int.reduceLE, Int.reduceNeg]; rfl) ?_
  refine runk_call rfl rfl rfl rfl rfl (by simp) (cvs_cons cv_refl (cvs_cons cv_refl cvs_nil)) (h2 _) ?_
  refine runk_exec (by simp only [exa, beq_self_eq_true, ByteArray.size, Nat.reduceAdd, Nat.reduceLeDiff, Nat.reduceEqDiff, Nat.reduceMul, Int.reduceToNat, reduceIte, Int.reduceLE, Int.reduceNeg]; rfl) ?_
  (repeat (first | refine W.seq ?_ | refine W.block ?_ | refine W.skip ?_ | refine W.exit ?_))
  refine W.regionK tab_ok 0 (by decide) ?_
  refine runk_split 0 (by simp only [exa, beq_self_eq_true, ByteArray.size, Nat.reduceAdd, Nat.reduceLeDiff, Nat.reduceEqDiff, Nat.reduceMul, Int.reduceToNat, reduceIte, Int.reduceLE, Int.reduceNeg]; rfl) ?_
  refine runk_call rfl rfl rfl rfl rfl (by simp) cvs_nil (three_ok _) ?_
  refine runk_split 0 (by simp only [exa, beq_self_eq_true, ByteArray.size, Nat.reduceAdd, Nat.reduceLeDiff, Nat.reduceEqDiff, Nat.reduceMul, Int.reduceToNat, reduceIte, Int.reduceLE, Int.reduceNeg]; rfl) ?_
  refine runk_call rfl rfl rfl rfl rfl (by simp) (cvs_cons cv_refl (cvs_cons cv_refl (cvs_cons cv_refl (cvs_cons cv_refl cvs_nil)))) (h3 _) ?_
  refine runk_exec (by simp only [exa, beq_self_eq_true, ByteArray.size, Nat.reduceAdd, Nat.reduceLeDiff, Nat.reduceEqDiff, Nat.reduceMul, Int.reduceToNat, reduceIte, Int.reduceLE, Int.reduceNeg]; rfl) ?_
  (repeat (first | refine W.seq ?_ | refine W.block ?_ | refine W.skip ?_ | refine W.exit ?_))
  refine W.regionK tab_ok 0 (by decide) ?_
  refine runk_split 13 (by simp only [exa, beq_self_eq_true, ByteArray.size, Nat.reduceAdd, Nat.reduceLeDiff, Nat.reduceEqDiff, Nat.reduceMul, Int.reduceToNat, reduceIte, Int.reduceLE, Int.reduceNeg, eq_self, Int.cast_ofNat_Int]; rfl) ?_
  refine runk_call rfl rfl rfl rfl rfl (by simp) (cvs_cons cv_refl (cvs_cons cv_refl cvs_nil)) (s1 _) ?_
  refine runk_split 4 (by simp only [exa, beq_self_eq_true, ByteArray.size, Nat.reduceAdd, Nat.reduceLeDiff, Nat.reduceEqDiff, Nat.reduceMul, Int.reduceToNat, reduceIte, Int.reduceLE, Int.reduceNeg, eq_self, Int.cast_ofNat_Int]; rfl) ?_
  refine runk_call rfl rfl rfl rfl rfl (by simp) (cvs_cons cv_refl (cvs_cons cv_refl cvs_nil)) (s2 _) ?_
  refine runk_split 4 (by simp only [exa, beq_self_eq_true, ByteArray.size, Nat.reduceAdd, Nat.reduceLeDiff, Nat.reduceEqDiff, Nat.reduceMul, Int.reduceToNat, reduceIte, Int.reduceLE, Int.reduceNeg, eq_self, Int.cast_ofNat_Int]; rfl) ?_
  refine runk_call rfl rfl rfl rfl rfl (by simp) (cvs_cons cv_refl (cvs_cons cv_refl cvs_nil)) (s1 _) ?_
  refine runk_exec (by simp only [exa, beq_self_eq_true, ByteArray.size, Nat.reduceAdd, Nat.reduceLeDiff, Nat.reduceEqDiff, Nat.reduceMul, Int.reduceToNat, reduceIte, Int.reduceLE, Int.reduceNeg]; rfl) ?_
  repeat (first | refine W.seq ?_ | refine W.block ?_ | refine W.skip ?_ | refine W.exit ?_ | refine W.region tab_ok 0 (by decide) (exec_run (by simp only [exa, beq_self_eq_true, ByteArray.size, Nat.reduceAdd, Nat.reduceLeDiff, Nat.reduceEqDiff, Nat.reduceMul, Int.reduceToNat, reduceIte, Int.reduceLE, Int.reduceNeg]; rfl)) ?_)
  refine W.ret ⟨.inr rfl, by rfl, ?_⟩
  simp only [Tryd.f10, resA, resOne, toT, fin, exa, beq_self_eq_true, ByteArray.size, Nat.reduceAdd, Nat.reduceLeDiff, Nat.reduceEqDiff, Nat.reduceMul, Int.reduceToNat, reduceIte, Int.reduceLE, Int.reduceNeg]
end V
end Go.Proofs.YtknmcmfdbfhadaaDoor
end
section
/- GraphParts, GraphPaths, GraphReaches: true for every input. -/
set_option linter.unusedVariables false
set_option linter.unusedSimpArgs false
namespace Go.Proofs.YtknmcmfdbfhadaaDoor
namespace V
open Go.RowKit G
theorem small_of_big {n : Int} {l : List (Int × Int)} (h : bigB n l = false) : l.length ≤ 1000 := by
  simp only [bigB, Bool.or_eq_false_iff, decide_eq_false_iff_not] at h
  omega
theorem same_ok (L : List Int) (hL : L.length ≤ 1000000) (m : Mem) : COk Tryd.prog 19 [.c (.sl (L.map cZ)), .c (.sl (L.map cZ))] m (.c (.bool true)) := by
  have := sameInts_ok L L (by omega) m
  rwa [show decide (L = L) = true by simp] at this
theorem lawParts_ok (n : Int) (l : List (Int × Int)) (m : Mem) : COk Tryd.prog 5 [.c (.int .i64 n), .c (.sl (l.map cE))] m (.c (.bool true)) := by
  refine (ok_pure tab_ok Tryd.func5 (by kernel_rfl) rfl rfl (by rfl) (by rfl) (by rfl) (fun R hkeep => ?_) m)
  repeat (first | refine W.seq ?_ | refine W.block ?_ | refine W.skip ?_ | refine W.exit ?_ | refine W.region tab_ok 0 (by decide) (exec_run (by simp only [exa, beq_self_eq_true, ByteArray.size, Nat.reduceAdd, Nat.reduceLeDiff, Nat.reduceEqDiff, Nat.reduceMul, Int.reduceToNat, reduceIte, Int.reduceLE, Int.reduceNeg]; rfl)) ?_)
  refine W.regionK tab_ok 0 (by decide) ?_
  refine runk_split 0 (by simp only [exa, beq_self_eq_true, ByteArray.size, Nat.reduceAdd, Nat.reduceLeDiff, Nat.reduceEqDiff, Nat.reduceMul, Int.reduceToNat, reduceIte, Int.reduceLE, Int.reduceNeg]; rfl) ?_
  refine runk_call rfl rfl rfl rfl rfl (by simp) cvs_nil (live_ok _) ?_
  refine runk_exec (by simp only [exa, beq_self_eq_true, ByteArray.size, Nat.reduceAdd, Nat.reduceLeDiff, Nat.reduceEqDiff, Nat.reduceMul, Int.reduceToNat, reduceIte, Int.reduceLE, Int.reduceNeg]; rfl) ?_
  (repeat (first | refine W.seq ?_ | refine W.block ?_ | refine W.skip ?_ | refine W.exit ?_))
  refine W.regionK tab_ok 0 (by decide) ?_
  refine runk_split 2 (by simp only [exa, beq_self_eq_true, ByteArray.size, Nat.reduceAdd, Nat.reduceLeDiff, Nat.reduceEqDiff, Nat.reduceMul, Int.reduceToNat, reduceIte, Int.reduceLE, Int.reduceNeg]; rfl) ?_
  refine runk_call rfl rfl rfl rfl rfl (by simp) (cvs_cons cv_refl (cvs_cons cv_refl cvs_nil)) (big_ok n l _) ?_
  refine runk_exec (by simp only [exa, beq_self_eq_true, ByteArray.size, Nat.reduceAdd, Nat.reduceLeDiff, Nat.reduceEqDiff, Nat.reduceMul, Int.reduceToNat, reduceIte, Int.reduceLE, Int.reduceNeg]; rfl) ?_
  cases hb : bigB n l with
  | true =>
    refine W.cond rfl ?_ ?_
    · intro _
      repeat (first | refine W.seq ?_ | refine W.block ?_ | refine W.skip ?_ | refine W.exit ?_ | refine W.region tab_ok 0 (by decide) (exec_run (by simp only [exa, beq_self_eq_true, ByteArray.size, Nat.reduceAdd, Nat.reduceLeDiff, Nat.reduceEqDiff, Nat.reduceMul, Int.reduceToNat, reduceIte, Int.reduceLE, Int.reduceNeg]; rfl)) ?_)
      refine W.ret ⟨.inr rfl, by rfl, ?_⟩
      simp only [Tryd.f5, resA, resOne, toT, fin, exa, beq_self_eq_true, ByteArray.size, Nat.reduceAdd, Nat.reduceLeDiff, Nat.reduceEqDiff, Nat.reduceMul, Int.reduceToNat, reduceIte, Int.reduceLE, Int.reduceNeg]
    · intro h; cases h
  | false =>
    have hl := small_of_big hb
    obtain ⟨L, e, hL, hlen⟩ := partsR_shape n l
    have h1 := parts_ok n l (by omega)
    have h2 := refParts_ok n l (by omega)
    rw [hL] at h1 h2
    refine W.cond rfl ?_ ?_
    · intro h; cases h
    · intro _
      (repeat (first | refine W.seq ?_ | refine W.block ?_ | refine W.skip ?_ | refine W.exit ?_))
      refine W.regionK tab_ok 0 (by decide) ?_
      refine runk_split 2 (by simp only [exa, beq_self_eq_true, ByteArray.size, Nat.reduceAdd, Nat.reduceLeDiff, Nat.reduceEqDiff, Nat.reduceMul, Int.reduceToNat, reduceIte, Int.reduceLE, Int.reduceNeg]; rfl) ?_
      refine runk_call rfl rfl rfl rfl rfl (by simp) (cvs_cons cv_refl (cvs_cons cv_refl cvs_nil)) (h1 _) ?_
      refine runk_exec (by simp only [exa, beq_self_eq_true, ByteArray.size, Nat.reduceAdd, Nat.reduceLeDiff, Nat.reduceEqDiff, Nat.reduceMul, Int.reduceToNat, reduceIte, Int.reduceLE, Int.reduceNeg]; rfl) ?_
      (repeat (first | refine W.seq ?_ | refine W.block ?_ | refine W.skip ?_ | refine W.exit ?_))
      refine W.regionK tab_ok 0 (by decide) ?_
      refine runk_split 2 (by simp only [exa, beq_self_eq_true, ByteArray.size, Nat.reduceAdd, Nat.reduceLeDiff, Nat.reduceEqDiff, Nat.reduceMul, Int.reduceToNat, reduceIte, Int.reduceLE, Int.reduceNeg]; rfl) ?_
      refine runk_call rfl rfl rfl rfl rfl (by simp) (cvs_cons cv_refl (cvs_cons cv_refl cvs_nil)) (h2 _) ?_
      refine runk_exec (by simp only [exa, beq_self_eq_true, ByteArray.size, Nat.reduceAdd, Nat.reduceLeDiff, Nat.reduceEqDiff, Nat.reduceMul, Int.reduceToNat, reduceIte, Int.reduceLE, Int.reduceNeg]; rfl) ?_
      (repeat (first | refine W.seq ?_ | refine W.block ?_ | refine W.skip ?_ | refine W.exit ?_))
      refine W.regionK tab_ok 0 (by decide) ?_
      refine runk_split 4 (by simp only [exa, beq_self_eq_true, ByteArray.size, Nat.reduceAdd, Nat.reduceLeDiff, Nat.reduceEqDiff, Nat.reduceMul, Int.reduceToNat, reduceIte, Int.reduceLE, Int.reduceNeg]; rfl) ?_
      refine runk_call rfl rfl rfl rfl rfl (by simp) (cvs_cons cv_refl (cvs_cons cv_refl cvs_nil)) (same_ok L (by omega) _) ?_
      refine runk_exec (by simp only [exa, beq_self_eq_true, ByteArray.size, Nat.reduceAdd, Nat.reduceLeDiff, Nat.reduceEqDiff, Nat.reduceMul, Int.reduceToNat, reduceIte, Int.reduceLE, Int.reduceNeg, eq_self]; rfl) ?_
      repeat (first | refine W.seq ?_ | refine W.block ?_ | refine W.skip ?_ | refine W.exit ?_ | refine W.region tab_ok 0 (by decide) (exec_run (by simp only [exa, beq_self_eq_true, ByteArray.size, Nat.reduceAdd, Nat.reduceLeDiff, Nat.reduceEqDiff, Nat.reduceMul, Int.reduceToNat, reduceIte, Int.reduceLE, Int.reduceNeg]; rfl)) ?_)
      refine W.ret ⟨.inr rfl, by rfl, ?_⟩
      simp only [Tryd.f5, resA, resOne, toT, fin, exa, beq_self_eq_true, ByteArray.size, Nat.reduceAdd, Nat.reduceLeDiff, Nat.reduceEqDiff, Nat.reduceMul, Int.reduceToNat, reduceIte, Int.reduceLE, Int.reduceNeg]
theorem lawPaths_ok (n : Int) (l : List (Int × Int)) (f t : Int) (m : Mem) : COk Tryd.prog 6 [.c (.int .i64 n), .c (.sl (l.map cE)), .c (.int .i64 f), .c (.int .i64 t)] m (.c (.bool true)) := by
  refine (ok_pure tab_ok Tryd.func6 (by kernel_rfl) rfl rfl (by rfl) (by rfl) (by rfl) (fun R hkeep => ?_) m)
  repeat (first | refine W.seq ?_ | refine W.block ?_ | refine W.skip ?_ | refine W.exit ?_ | refine W.region tab_ok 0 (by decide) (exec_run (by simp only [exa, beq_self_eq_true, ByteArray.size, Nat.reduceAdd, Nat.reduceLeDiff, Nat.reduceEqDiff, Nat.reduceMul, Int.reduceToNat, reduceIte, Int.reduceLE, Int.reduceNeg]; rfl)) ?_)
  refine W.regionK tab_ok 0 (by decide) ?_
  refine runk_split 0 (by simp only [exa, beq_self_eq_true, ByteArray.size, Nat.reduceAdd, Nat.reduceLeDiff, Nat.reduceEqDiff, Nat.reduceMul, Int.reduceToNat, reduceIte, Int.reduceLE, Int.reduceNeg]; rfl) ?_
  refine runk_call rfl rfl rfl rfl rfl (by simp) cvs_nil (live_ok _) ?_
  refine runk_exec (by simp only [exa, beq_self_eq_true, ByteArray.size, Nat.reduceAdd, Nat.reduceLeDiff, Nat.reduceEqDiff, Nat.reduceMul, Int.reduceToNat, reduceIte, Int.reduceLE, Int.reduceNeg]; rfl) ?_
  (repeat (first | refine W.seq ?_ | refine W.block ?_ | refine W.skip ?_ | refine W.exit ?_))
  refine W.regionK tab_ok 0 (by decide) ?_
  refine runk_split 2 (by simp only [exa, beq_self_eq_true, ByteArray.size, Nat.reduceAdd, Nat.reduceLeDiff, Nat.reduceEqDiff, Nat.reduceMul, Int.reduceToNat, reduceIte, Int.reduceLE, Int.reduceNeg]; rfl) ?_
  refine runk_call rfl rfl rfl rfl rfl (by simp) (cvs_cons cv_refl (cvs_cons cv_refl cvs_nil)) (big_ok n l _) ?_
  refine runk_exec (by simp only [exa, beq_self_eq_true, ByteArray.size, Nat.reduceAdd, Nat.reduceLeDiff, Nat.reduceEqDiff, Nat.reduceMul, Int.reduceToNat, reduceIte, Int.reduceLE, Int.reduceNeg]; rfl) ?_
  cases hb : bigB n l with
  | true =>
    refine W.cond rfl ?_ ?_
    · intro _
      repeat (first | refine W.seq ?_ | refine W.block ?_ | refine W.skip ?_ | refine W.exit ?_ | refine W.region tab_ok 0 (by decide) (exec_run (by simp only [exa, beq_self_eq_true, ByteArray.size, Nat.reduceAdd, Nat.reduceLeDiff, Nat.reduceEqDiff, Nat.reduceMul, Int.reduceToNat, reduceIte, Int.reduceLE, Int.reduceNeg]; rfl)) ?_)
      refine W.ret ⟨.inr rfl, by rfl, ?_⟩
      simp only [Tryd.f6, resA, resOne, toT, fin, exa, beq_self_eq_true, ByteArray.size, Nat.reduceAdd, Nat.reduceLeDiff, Nat.reduceEqDiff, Nat.reduceMul, Int.reduceToNat, reduceIte, Int.reduceLE, Int.reduceNeg]
    · intro h; cases h
  | false =>
    have hl := small_of_big hb
    obtain ⟨L, e, hL, hlen⟩ := pathR_shape n l f t
    have h1 := path_ok n l (by omega) f t
    have h2 := refPath_ok n l (by omega) f t
    rw [hL] at h1 h2
    refine W.cond rfl ?_ ?_
    · intro h; cases h
    · intro _
      (repeat (first | refine W.seq ?_ | refine W.block ?_ | refine W.skip ?_ | refine W.exit ?_))
      refine W.regionK tab_ok 0 (by decide) ?_
      refine runk_split 4 (by simp only [exa, beq_self_eq_true, ByteArray.size, Nat.reduceAdd, Nat.reduceLeDiff, Nat.reduceEqDiff, Nat.reduceMul, Int.reduceToNat, reduceIte, Int.reduceLE, Int.reduceNeg]; rfl) ?_
      refine runk_call rfl rfl rfl rfl rfl (by simp) (cvs_cons cv_refl (cvs_cons cv_refl (cvs_cons cv_refl (cvs_cons cv_refl cvs_nil)))) (h1 _) ?_
      refine runk_exec (by simp only [exa, beq_self_eq_true, ByteArray.size, Nat.reduceAdd, Nat.reduceLeDiff, Nat.reduceEqDiff, Nat.reduceMul, Int.reduceToNat, reduceIte, Int.reduceLE, Int.reduceNeg]; rfl) ?_
      (repeat (first | refine W.seq ?_ | refine W.block ?_ | refine W.skip ?_ | refine W.exit ?_))
      refine W.regionK tab_ok 0 (by decide) ?_
      refine runk_split 4 (by simp only [exa, beq_self_eq_true, ByteArray.size, Nat.reduceAdd, Nat.reduceLeDiff, Nat.reduceEqDiff, Nat.reduceMul, Int.reduceToNat, reduceIte, Int.reduceLE, Int.reduceNeg]; rfl) ?_
      refine runk_call rfl rfl rfl rfl rfl (by simp) (cvs_cons cv_refl (cvs_cons cv_refl (cvs_cons cv_refl (cvs_cons cv_refl cvs_nil)))) (h2 _) ?_
      refine runk_exec (by simp only [exa, beq_self_eq_true, ByteArray.size, Nat.reduceAdd, Nat.reduceLeDiff, Nat.reduceEqDiff, Nat.reduceMul, Int.reduceToNat, reduceIte, Int.reduceLE, Int.reduceNeg]; rfl) ?_
      (repeat (first | refine W.seq ?_ | refine W.block ?_ | refine W.skip ?_ | refine W.exit ?_))
      refine W.regionK tab_ok 0 (by decide) ?_
      refine runk_split 4 (by simp only [exa, beq_self_eq_true, ByteArray.size, Nat.reduceAdd, Nat.reduceLeDiff, Nat.reduceEqDiff, Nat.reduceMul, Int.reduceToNat, reduceIte, Int.reduceLE, Int.reduceNeg]; rfl) ?_
      refine runk_call rfl rfl rfl rfl rfl (by simp) (cvs_cons cv_refl (cvs_cons cv_refl cvs_nil)) (same_ok L (by omega) _) ?_
      refine runk_exec (by simp only [exa, beq_self_eq_true, ByteArray.size, Nat.reduceAdd, Nat.reduceLeDiff, Nat.reduceEqDiff, Nat.reduceMul, Int.reduceToNat, reduceIte, Int.reduceLE, Int.reduceNeg, eq_self]; rfl) ?_
      repeat (first | refine W.seq ?_ | refine W.block ?_ | refine W.skip ?_ | refine W.exit ?_ | refine W.region tab_ok 0 (by decide) (exec_run (by simp only [exa, beq_self_eq_true, ByteArray.size, Nat.reduceAdd, Nat.reduceLeDiff, Nat.reduceEqDiff, Nat.reduceMul, Int.reduceToNat, reduceIte, Int.reduceLE, Int.reduceNeg]; rfl)) ?_)
      refine W.ret ⟨.inr rfl, by rfl, ?_⟩
      simp only [Tryd.f6, resA, resOne, toT, fin, exa, beq_self_eq_true, ByteArray.size, Nat.reduceAdd, Nat.reduceLeDiff, Nat.reduceEqDiff, Nat.reduceMul, Int.reduceToNat, reduceIte, Int.reduceLE, Int.reduceNeg]
theorem lawReaches_ok (n : Int) (l : List (Int × Int)) (src : List Int) (hs : src.length ≤ 1048576) (m : Mem) : COk Tryd.prog 4 [.c (.int .i64 n), .c (.sl (l.map cE)), .c (.sl (src.map cZ))] m (.c (.bool true)) := by
  refine (ok_pure tab_ok Tryd.func4 (by kernel_rfl) rfl rfl (by rfl) (by rfl) (by rfl) (fun R hkeep => ?_) m)
  repeat (first | refine W.seq ?_ | refine W.block ?_ | refine W.skip ?_ | refine W.exit ?_ | refine W.region tab_ok 0 (by decide) (exec_run (by simp only [exa, beq_self_eq_true, ByteArray.size, Nat.reduceAdd, Nat.reduceLeDiff, Nat.reduceEqDiff, Nat.reduceMul, Int.reduceToNat, reduceIte, Int.reduceLE, Int.reduceNeg]; rfl)) ?_)
  refine W.regionK tab_ok 0 (by decide) ?_
  refine runk_split 0 (by simp only [exa, beq_self_eq_true, ByteArray.size, Nat.reduceAdd, Nat.reduceLeDiff, Nat.reduceEqDiff, Nat.reduceMul, Int.reduceToNat, reduceIte, Int.reduceLE, Int.reduceNeg]; rfl) ?_
  refine runk_call rfl rfl rfl rfl rfl (by simp) cvs_nil (live_ok _) ?_
  refine runk_exec (by simp only [exa, beq_self_eq_true, ByteArray.size, Nat.reduceAdd, Nat.reduceLeDiff, Nat.reduceEqDiff, Nat.reduceMul, Int.reduceToNat, reduceIte, Int.reduceLE, Int.reduceNeg]; rfl) ?_
  (repeat (first | refine W.seq ?_ | refine W.block ?_ | refine W.skip ?_ | refine W.exit ?_))
  refine W.regionK tab_ok 0 (by decide) ?_
  refine runk_split 2 (by simp only [exa, beq_self_eq_true, ByteArray.size, Nat.reduceAdd, Nat.reduceLeDiff, Nat.reduceEqDiff, Nat.reduceMul, Int.reduceToNat, reduceIte, Int.reduceLE, Int.reduceNeg]; rfl) ?_
  refine runk_call rfl rfl rfl rfl rfl (by simp) (cvs_cons cv_refl (cvs_cons cv_refl cvs_nil)) (big_ok n l _) ?_
  refine runk_exec (by simp only [exa, beq_self_eq_true, ByteArray.size, Nat.reduceAdd, Nat.reduceLeDiff, Nat.reduceEqDiff, Nat.reduceMul, Int.reduceToNat, reduceIte, Int.reduceLE, Int.reduceNeg]; rfl) ?_
  cases hb : bigB n l with
  | true =>
    refine W.cond rfl ?_ ?_
    · intro _
      repeat (first | refine W.seq ?_ | refine W.block ?_ | refine W.skip ?_ | refine W.exit ?_ | refine W.region tab_ok 0 (by decide) (exec_run (by simp only [exa, beq_self_eq_true, ByteArray.size, Nat.reduceAdd, Nat.reduceLeDiff, Nat.reduceEqDiff, Nat.reduceMul, Int.reduceToNat, reduceIte, Int.reduceLE, Int.reduceNeg]; rfl)) ?_)
      refine W.ret ⟨.inr rfl, by rfl, ?_⟩
      simp only [Tryd.f4, resA, resOne, toT, fin, exa, beq_self_eq_true, ByteArray.size, Nat.reduceAdd, Nat.reduceLeDiff, Nat.reduceEqDiff, Nat.reduceMul, Int.reduceToNat, reduceIte, Int.reduceLE, Int.reduceNeg]
    · intro h; cases h
  | false =>
    have hl := small_of_big hb
    obtain ⟨L, e, hL, hlen⟩ := reachR_shape n l src
    have h1 := reach_ok n l (by omega) src (by omega)
    have h2 := refReach_ok n l (by omega) src (by omega)
    rw [hL] at h1 h2
    have h3 : ∀ m, COk Tryd.prog 19 [.c (.sl (src.map cZ)), .c (.sl (src.map cZ))] m (.c (.bool true)) := fun m => by
      have := sameInts_ok src src (by omega) m
      rwa [show decide (src = src) = true by simp] at this
    refine W.cond rfl ?_ ?_
    · intro h; cases h
    · intro _
      (repeat (first | refine W.seq ?_ | refine W.block ?_ | refine W.skip ?_ | refine W.exit ?_))
      refine W.regionK tab_ok 0 (by decide) ?_
      refine runk_split 1 (by simp only [exa, beq_self_eq_true, ByteArray.size, Nat.reduceAdd, Nat.reduceLeDiff, Nat.reduceEqDiff, Nat.reduceMul, Int.reduceToNat, reduceIte, Int.reduceLE, Int.reduceNeg]; rfl) ?_
      refine runk_appendNil tab_ok 200 true rfl rfl rfl rfl rfl rfl rfl (by simp only [exa, beq_self_eq_true, ByteArray.size, Nat.reduceAdd, Nat.reduceLeDiff, Nat.reduceEqDiff, Nat.reduceMul, Int.reduceToNat, reduceIte, Int.reduceLE, Int.reduceNeg]) (by first | rfl | (simp only [exa, beq_self_eq_true, ByteArray.size, Nat.reduceAdd, Nat.reduceLeDiff, Nat.reduceEqDiff, Nat.reduceMul, Int.reduceToNat, reduceIte, Int.reduceLE, Int.reduceNeg]; rfl)) rfl rfl rfl rfl (fun z hz => by obtain ⟨y, -, rfl⟩ := List.mem_map.1 hz; rfl) (by rw [List.length_map]; omega) (by decide) ?_
      refine runk_exec (by simp only [exa, beq_self_eq_true, ByteArray.size, Nat.reduceAdd, Nat.reduceLeDiff, Nat.reduceEqDiff, Nat.reduceMul, Int.reduceToNat, reduceIte, Int.reduceLE, Int.reduceNeg]; rfl) ?_
      (repeat (first | refine W.seq ?_ | refine W.block ?_ | refine W.skip ?_ | refine W.exit ?_))
      refine W.regionK tab_ok 0 (by decide) ?_
      refine runk_split 3 (by simp only [exa, beq_self_eq_true, ByteArray.size, Nat.reduceAdd, Nat.reduceLeDiff, Nat.reduceEqDiff, Nat.reduceMul, Int.reduceToNat, reduceIte, Int.reduceLE, Int.reduceNeg]; rfl) ?_
      refine runk_call rfl rfl rfl rfl rfl (by simp) (cvs_cons cv_refl (cvs_cons cv_refl (cvs_cons (cv_own rfl) cvs_nil))) (h1 _) ?_
      refine runk_exec (by simp only [exa, beq_self_eq_true, ByteArray.size, Nat.reduceAdd, Nat.reduceLeDiff, Nat.reduceEqDiff, Nat.reduceMul, Int.reduceToNat, reduceIte, Int.reduceLE, Int.reduceNeg]; rfl) ?_
      (repeat (first | refine W.seq ?_ | refine W.block ?_ | refine W.skip ?_ | refine W.exit ?_))
      refine W.regionK tab_ok 0 (by decide) ?_
      refine runk_split 3 (by simp only [exa, beq_self_eq_true, ByteArray.size, Nat.reduceAdd, Nat.reduceLeDiff, Nat.reduceEqDiff, Nat.reduceMul, Int.reduceToNat, reduceIte, Int.reduceLE, Int.reduceNeg]; rfl) ?_
      refine runk_call rfl rfl rfl rfl rfl (by simp) (cvs_cons cv_refl (cvs_cons cv_refl (cvs_cons cv_refl cvs_nil))) (h2 _) ?_
      refine runk_exec (by simp only [exa, beq_self_eq_true, ByteArray.size, Nat.reduceAdd, Nat.reduceLeDiff, Nat.reduceEqDiff, Nat.reduceMul, Int.reduceToNat, reduceIte, Int.reduceLE, Int.reduceNeg]; rfl) ?_
      (repeat (first | refine W.seq ?_ | refine W.block ?_ | refine W.skip ?_ | refine W.exit ?_))
      refine W.regionK tab_ok 0 (by decide) ?_
      refine runk_split 4 (by simp only [exa, beq_self_eq_true, ByteArray.size, Nat.reduceAdd, Nat.reduceLeDiff, Nat.reduceEqDiff, Nat.reduceMul, Int.reduceToNat, reduceIte, Int.reduceLE, Int.reduceNeg]; rfl) ?_
      refine runk_call rfl rfl rfl rfl rfl (by simp) (cvs_cons cv_refl (cvs_cons cv_refl cvs_nil)) (same_ok L (by omega) _) ?_
      refine runk_split 9 (by simp only [exa, beq_self_eq_true, ByteArray.size, Nat.reduceAdd, Nat.reduceLeDiff, Nat.reduceEqDiff, Nat.reduceMul, Int.reduceToNat, reduceIte, Int.reduceLE, Int.reduceNeg, eq_self]; rfl) ?_
      refine runk_call rfl rfl rfl rfl rfl (by simp) (cvs_cons (cv_own rfl) (cvs_cons cv_refl cvs_nil)) (h3 _) ?_
      refine runk_exec (by simp only [exa, beq_self_eq_true, ByteArray.size, Nat.reduceAdd, Nat.reduceLeDiff, Nat.reduceEqDiff, Nat.reduceMul, Int.reduceToNat, reduceIte, Int.reduceLE, Int.reduceNeg, eq_self]; rfl) ?_
      repeat (first | refine W.seq ?_ | refine W.block ?_ | refine W.skip ?_ | refine W.exit ?_ | refine W.region tab_ok 0 (by decide) (exec_run (by simp only [exa, beq_self_eq_true, ByteArray.size, Nat.reduceAdd, Nat.reduceLeDiff, Nat.reduceEqDiff, Nat.reduceMul, Int.reduceToNat, reduceIte, Int.reduceLE, Int.reduceNeg]; rfl)) ?_)
      refine W.ret ⟨.inr rfl, by rfl, ?_⟩
      simp only [Tryd.f4, resA, resOne, toT, fin, exa, beq_self_eq_true, ByteArray.size, Nat.reduceAdd, Nat.reduceLeDiff, Nat.reduceEqDiff, Nat.reduceMul, Int.reduceToNat, reduceIte, Int.reduceLE, Int.reduceNeg]
end V
end Go.Proofs.YtknmcmfdbfhadaaDoor
end
