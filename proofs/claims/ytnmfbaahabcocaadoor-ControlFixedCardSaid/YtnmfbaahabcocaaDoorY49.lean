/- Joined by my own program, in build order: Mk. -/
import Derived.Test.YtnmfbaahabcocaaDoorY46
import Derived.Test.YtnmfbaahabcocaaDoorY40
import Derived.Test.YtnmfbaahabcocaaDoorY48
set_option linter.unusedVariables false
set_option linter.unusedSimpArgs false
section
namespace Go.Proofs.YtnmfbaahabcocaaDoor
namespace V
open Go.RowKit G
theorem take_last2 (ws : List Nat) (x : List C) : (ws.map cN ++ [x]).take ws.length = ws.map cN := by rw [List.take_append_of_le_length (by simp), List.take_of_length_le (by simp)]
def rowB (n : Nat) (R : Nat → Bool) : List (List C) := (List.range n).map fun i => [.bool (R i)]
theorem rowB_len (n : Nat) (R : Nat → Bool) : (rowB n R).length = n := by simp [rowB]
theorem rowB_at {n k : Nat} {R : Nat → Bool} (h : k < n) : (rowB n R)[k]? = some [.bool (R k)] := by simp [rowB, h]
theorem rowB_set {n k : Nat} {R : Nat → Bool} : (rowB n R).set k [.bool true] = rowB n (G.mark R k) := by
 refine List.ext_getElem? fun i => ?_
 rw [List.getElem?_set, rowB_len]
 by_cases hi : i < n
 ·rw [rowB_at hi, rowB_at hi]
  by_cases e : k = i
  ·subst e; rw [if_pos rfl, if_pos hi]; simp [G.mark]
  ·rw [if_neg e]; simp [G.mark, Ne.symm e]
 ·have h1 : (rowB n R)[i]? = none := by rw [List.getElem?_eq_none]; rw [rowB_len]; omega
  have h2 : (rowB n (G.mark R k))[i]? = none := by rw [List.getElem?_eq_none]; rw [rowB_len]; omega
  rw [h1, h2]
  split
  ·rw [if_neg (by omega)]
  ·rfl
theorem rep_rowB (n : Nat) : List.replicate n [C.bool false] = rowB n (fun _ => false) := by
 refine List.ext_getElem? fun i => ?_
 by_cases hi : i < n
 ·rw [rowB_at hi]; simp [hi]
 ·rw [List.getElem?_eq_none (by simpa using hi), List.getElem?_eq_none (by rw [rowB_len]; omega)]
def tabA (E : List (Nat × Nat)) (n : Nat) : List (List C) := (List.range n).map fun i => [.sl (adjL E i)]
theorem tabA_at {E : List (Nat × Nat)} {n i : Nat} (h : i < n) : (tabA E n)[i]? = some [.sl ((outs E i).map cN)] := by simp [tabA, h, adjL, cI_zN]
theorem tabA_len (E : List (Nat × Nat)) (n : Nat) : (tabA E n).length = n := by simp [tabA]
set_option maxHeartbeats 4000000 in
theorem marks_ok (n : Nat) (hn : n ≤ 100000) (E : List (Nat × Nat)) (hlen : E.length ≤ 1000000) (hE : ∀ e ∈ E, e.1 < n ∧ e.2 < n) (S : List Nat) (hsl : S.length ≤ 1000000000000) (hS : ∀ i ∈ S, i < n) (m : Mem) :
  COk Tryd.prog 27 [.c (.int .i64 n), .c (.sl (E.map cEd)), .c (.sl (S.map cN))] m (.c (.sl (rowB n (reachB E S)))) := by
 have hm1 : n * 24 ≤ 140737488355328 := by omega
 have hm1' : n * 1 ≤ 140737488355328 := by omega
 have hm1'' : n ≤ 140737488355328 := by omega
 have hm2 : (n : Int) ≤ 9223372036854775807 := by omega
 have hn0 : (0 : Int) ≤ (n : Int) := by omega
 refine (ok_pure tab_ok Tryd.func27 (by kernel_rfl) rfl rfl (by rfl) (by rfl) (by rfl) (fun R hkeep => ?_) m)
 repeat (first | refine W.seq ?_ | refine W.block ?_ | refine W.skip ?_ | refine W.exit ?_ | refine W.region tab_ok 0 (by decide) (exec_run (by simp only [exa, beq_self_eq_true, ByteArray.size, Nat.reduceAdd, Nat.reduceLeDiff, Nat.reduceEqDiff, Nat.reduceMul, Int.reduceToNat, reduceIte, Int.reduceLE, Int.reduceNeg, Int.toNat_natCast, hm1, hm2, hn0, and_self]; rfl)) ?_)
 refine W.famStart false 14 1000 n 26 3 1 rfl (by decide) (fun i _ => ?_) ?_
 ·simp only [upd_app, mem_nil_app, Nat.reduceEqDiff, reduceIte]
 refine W.loop (ι := Nat) (fun k => ⟨upd (upd (upd (upd (upd (upd (fun _ => .top) 0 (.c (.int .i64 n))) 2 (.c (.sl (S.map cN)))) 7 (.own 14)) 15 (.c (.sl (E.map cEd)))) 16 (.c (.int .i64 E.length))) 17 (.c (.int .i64 k)),
  upd (famM 1000 n (fun i => rowO false 3 1 (adjL (E.take k) i)) Mem.nil) 14 (some (.rows 26 (tabR 1000 n)))⟩) (fun k => k ≤ E.length) (fun k => E.length - k) 0 ?start (Nat.zero_le _) ?round
 case start =>
  refine le_mk ?sle ?_ ?swf ?mwf (kept_not hkeep) (by rfl)
  case swf => repeat (first | exact swf_top _ | refine swf_upd ?_ (by simp [A.ids, upd_app]))
  case sle => repeat (first | exact sle_top _ | exact sle_refl _ | refine sle_upd ?_ (by first | rfl | (simp only [upd_app, killS_app, A.kill, entry_zero, entry_succ, Nat.reduceEqDiff, reduceIte]; done)))
  case mwf =>
   refine mwf_upd (mwf_fam (mwf_nil _) (fun i hi => by first | exact rowO_ids | rfl)) (fun j hj => ?_)
   obtain ⟨q, hq, rfl⟩ := tabR_ids.1 hj
   simp only [upd_app, Nat.reduceEqDiff, reduceIte, fam_at hq, Option.isSome_some]
  refine mle_upd (mle_fam fun i hi => ?_) (by simp only [exa, beq_self_eq_true, ByteArray.size, Nat.reduceAdd, Nat.reduceLeDiff, Nat.reduceEqDiff, Nat.reduceMul, Int.reduceToNat, reduceIte, Int.reduceLE, Int.reduceNeg]; done)
  simp only [exa, beq_self_eq_true, ByteArray.size, Nat.reduceAdd, Nat.reduceLeDiff, Nat.reduceEqDiff, Nat.reduceMul, Int.reduceToNat, reduceIte, Int.reduceLE, Int.reduceNeg, fam_at hi, adjL]
  rfl
 case round =>
  intro k hk
  repeat (first | refine W.seq ?_ | refine W.block ?_ | refine W.skip ?_ | refine W.exit ?_ | refine W.region tab_ok 0 (by decide) (exec_run (by simp only [exa, beq_self_eq_true, ByteArray.size, Nat.reduceAdd, Nat.reduceLeDiff, Nat.reduceEqDiff, Nat.reduceMul, Int.reduceToNat, reduceIte, Int.reduceLE, Int.reduceNeg]; rfl)) ?_)
  refine W.cond rfl ?_ ?_
  ·intro hlt
   simp only [decide_eq_true_eq, Int.ofNat_lt] at hlt
   obtain ⟨⟨f, t⟩, hx⟩ : ∃ x, E[k]? = some x := ⟨_, List.getElem?_eq_getElem hlt⟩
   obtain ⟨hf, ht⟩ := hE _ (List.mem_of_getElem? hx)
   replace hf : f < n := hf
   replace ht : t < n := ht
   have hf0 : (0 : Int) ≤ (f : Int) := by omega
   repeat (first | refine W.seq ?_ | refine W.block ?_ | refine W.skip ?_ | refine W.exit ?_ | refine W.region tab_ok 0 (by decide) (exec_run (by simp only [exa, beq_self_eq_true, ByteArray.size, Nat.reduceAdd, Nat.reduceLeDiff, Nat.reduceEqDiff, Nat.reduceMul, Int.reduceToNat, reduceIte, Int.reduceLE, Int.reduceNeg, at_map hx, cEd]; rfl)) ?_)
   refine W.regionPC tab_ok 0 follows_mixed (by decide) ⟨upd (upd (upd (upd (upd (upd (fun _ => .top) 0 (.c (.int .i64 n))) 2 (.c (.sl (S.map cN)))) 7 (.own 14)) 15 (.c (.sl (E.map cEd)))) 16 (.c (.int .i64 E.length))) 17 (.c (.int .i64 k)),
    upd (famM 1000 n (fun i => rowO false 3 1 (adjL (E.take (k + 1)) i)) Mem.nil) 14 (some (.rows 26 (tabR 1000 n)))⟩ ?_ ?_
   ·refine first_exec 3 (by decide +kernel) ⟨_, by simp only [exec1, exa, beq_self_eq_true, ByteArray.size, Nat.reduceAdd, Nat.reduceLeDiff, Nat.reduceEqDiff, Nat.reduceMul, Int.reduceToNat, reduceIte, Int.reduceLE, Int.reduceNeg, hf0, hf, Int.toNat_natCast, tabR_len, and_self]; rfl, ?_⟩
    refine first_exec 4 (by decide +kernel) ⟨_, by simp only [exec1, exa, beq_self_eq_true, ByteArray.size, Nat.reduceAdd, Nat.reduceLeDiff, Nat.reduceEqDiff, Nat.reduceMul, Int.reduceToNat, reduceIte, Int.reduceLE, Int.reduceNeg, hf0, hf, Int.toNat_natCast, tabR_len, and_self]; rfl, ?_⟩
    refine first_exec 5 (by decide +kernel) ⟨_, by simp only [exec1, exa, beq_self_eq_true, ByteArray.size, Nat.reduceAdd, Nat.reduceLeDiff, Nat.reduceEqDiff, Nat.reduceMul, Int.reduceToNat, reduceIte, Int.reduceLE, Int.reduceNeg, hf0, hf, Int.toNat_natCast, tabR_len, and_self]; rfl, ?_⟩
    refine first_exec 6 (by decide +kernel) ⟨_, by simp only [exec1, exa, beq_self_eq_true, ByteArray.size, Nat.reduceAdd, Nat.reduceLeDiff, Nat.reduceEqDiff, Nat.reduceMul, Int.reduceToNat, reduceIte, Int.reduceLE, Int.reduceNeg, hf0, hf, Int.toNat_natCast, tabR_len, and_self]; rfl, ?_⟩
    refine first_exec 7 (by decide +kernel) ⟨_, by simp only [exec1, exa, beq_self_eq_true, ByteArray.size, Nat.reduceAdd, Nat.reduceLeDiff, Nat.reduceEqDiff, Nat.reduceMul, Int.reduceToNat, reduceIte, Int.reduceLE, Int.reduceNeg, hf0, hf, Int.toNat_natCast, tabR_len, and_self, tabR_at hf]; rfl, ?_⟩
    refine first_exec 8 (by decide +kernel) ⟨_, by simp only [exec1, exa, beq_self_eq_true, ByteArray.size, Nat.reduceAdd, Nat.reduceLeDiff, Nat.reduceEqDiff, Nat.reduceMul, Int.reduceToNat, reduceIte, Int.reduceLE, Int.reduceNeg, hf0, hf, Int.toNat_natCast, tabR_len, and_self]; rfl, ?_⟩
    refine first_exec 9 (by decide +kernel) ⟨_, by simp only [exec1, exa, beq_self_eq_true, ByteArray.size, Nat.reduceAdd, Nat.reduceLeDiff, Nat.reduceEqDiff, Nat.reduceMul, Int.reduceToNat, reduceIte, Int.reduceLE, Int.reduceNeg, hf0, hf, Int.toNat_natCast, tabR_len, and_self]; rfl, ?_⟩
    refine first_exec 10 (by decide +kernel) ⟨_, by simp only [exec1, exa, beq_self_eq_true, ByteArray.size, Nat.reduceAdd, Nat.reduceLeDiff, Nat.reduceEqDiff, Nat.reduceMul, Int.reduceToNat, reduceIte, Int.reduceLE, Int.reduceNeg, hf0, hf, Int.toNat_natCast, tabR_len, and_self]; rfl, ?_⟩
    repeat' (first
     | exact trivial
     | refine runsw_end (by decide +kernel) ?_
     | refine first_exec 12 (by decide +kernel) ⟨_, by simp only [exec1, exa, beq_self_eq_true, ByteArray.size, Nat.reduceAdd, Nat.reduceLeDiff, Nat.reduceEqDiff, Nat.reduceMul, Int.reduceToNat, reduceIte, Int.reduceLE, Int.reduceNeg, stO, hf0, hf, Int.toNat_natCast, tabR_len, and_self, tabR_at hf, fam_at hf, List.length_map, tabR_set hf, Option.map_some, Option.map_none]; rfl, ?_⟩
     | refine first_exec 13 (by decide +kernel) ⟨_, by simp only [exec1, exa, beq_self_eq_true, ByteArray.size, Nat.reduceAdd, Nat.reduceLeDiff, Nat.reduceEqDiff, Nat.reduceMul, Int.reduceToNat, reduceIte, Int.reduceLE, Int.reduceNeg, stO, hf0, hf, Int.toNat_natCast, tabR_len, and_self, tabR_at hf, fam_at hf, List.length_map, tabR_set hf, Option.map_some, Option.map_none]; rfl, ?_⟩
     | refine first_exec 0 (by decide +kernel) ⟨_, by simp only [exec1, exa, beq_self_eq_true, ByteArray.size, Nat.reduceAdd, Nat.reduceLeDiff, Nat.reduceEqDiff, Nat.reduceMul, Int.reduceToNat, reduceIte, Int.reduceLE, Int.reduceNeg, stO, hf0, hf, Int.toNat_natCast, tabR_len, and_self, tabR_at hf, fam_at hf, List.length_map, tabR_set hf, Option.map_some, Option.map_none]; rfl, ?_⟩
     | refine first_exec 1 (by decide +kernel) ⟨_, by simp only [exec1, exa, beq_self_eq_true, ByteArray.size, Nat.reduceAdd, Nat.reduceLeDiff, Nat.reduceEqDiff, Nat.reduceMul, Int.reduceToNat, reduceIte, Int.reduceLE, Int.reduceNeg, stO, hf0, hf, Int.toNat_natCast, tabR_len, and_self, tabR_at hf, fam_at hf, List.length_map, tabR_set hf, Option.map_some, Option.map_none]; rfl, ?_⟩
     | refine first_exec 2 (by decide +kernel) ⟨_, by simp only [exec1, exa, beq_self_eq_true, ByteArray.size, Nat.reduceAdd, Nat.reduceLeDiff, Nat.reduceEqDiff, Nat.reduceMul, Int.reduceToNat, reduceIte, Int.reduceLE, Int.reduceNeg, stO, hf0, hf, Int.toNat_natCast, tabR_len, and_self, tabR_at hf, fam_at hf, List.length_map, tabR_set hf, Option.map_some, Option.map_none]; rfl, ?_⟩
     | refine runs_node [0, 1, 11] (by decide +kernel) (by decide) ?_
     | refine runs_node [1, 11] (by decide +kernel) (by decide) ?_
     | refine runs_node [0, 2, 11] (by decide +kernel) (by decide) ?_
     | refine runs_node [2, 11] (by decide +kernel) (by decide) ?_
     | refine runs_node [0, 11] (by decide +kernel) (by decide) ?_
     | refine runs_node [11] (by decide +kernel) (by decide) ?_
     | refine step_exec ⟨_, by simp only [exec1, exa, beq_self_eq_true, ByteArray.size, Nat.reduceAdd, Nat.reduceLeDiff, Nat.reduceEqDiff, Nat.reduceMul, Int.reduceToNat, reduceIte, Int.reduceLE, Int.reduceNeg, stO, hf0, hf, Int.toNat_natCast, tabR_len, and_self, tabR_at hf, fam_at hf, List.length_map, tabR_set hf, Option.map_some, Option.map_none]; rfl, ?_⟩ ?_
     | refine step_append tab_ok rfl (f + 1000) false rfl rfl rfl rfl rfl rfl (by simp only [exa, beq_self_eq_true, ByteArray.size, Nat.reduceAdd, Nat.reduceLeDiff, Nat.reduceEqDiff, Nat.reduceMul, Int.reduceToNat, reduceIte, Int.reduceLE, Int.reduceNeg, stO, hf0, hf, Int.toNat_natCast, tabR_len, and_self, tabR_at hf, fam_at hf, List.length_map, tabR_set hf, Option.map_some, Option.map_none]; done) (by simp only [exa, beq_self_eq_true, ByteArray.size, Nat.reduceAdd, Nat.reduceLeDiff, Nat.reduceEqDiff, Nat.reduceMul, Int.reduceToNat, reduceIte, Int.reduceLE, Int.reduceNeg, stO, hf0, hf, Int.toNat_natCast, tabR_len, and_self, tabR_at hf, fam_at hf, List.length_map, tabR_set hf, Option.map_some, Option.map_none]; rfl) (by simp only [exa, beq_self_eq_true, ByteArray.size, Nat.reduceAdd, Nat.reduceLeDiff, Nat.reduceEqDiff, Nat.reduceMul, Int.reduceToNat, reduceIte, Int.reduceLE, Int.reduceNeg, stO, hf0, hf, Int.toNat_natCast, tabR_len, and_self, tabR_at hf, fam_at hf, List.length_map, tabR_set hf, Option.map_some, Option.map_none]; rfl) rfl rfl rfl rfl (nokeep hkeep) (by simp) (by have := adjL_len E k f; simp only [List.length_cons, List.length_nil]; omega) (by decide) ?_ ?_)
    all_goals
     refine le_mk ?sle ?_ ?swf ?mwf (kept_not hkeep) (by rfl)
     case swf => repeat (first | exact swf_top _ | refine swf_upd ?_ (by simp [A.ids, upd_app]))
     case sle => repeat (first | exact sle_top _ | exact sle_refl _ | refine sle_upd ?_ (by first | rfl | (simp only [upd_app, killS_app, A.kill, entry_zero, entry_succ, Nat.reduceEqDiff, reduceIte, tabR_set hf, Option.map_some, Option.map_none]; done)))
     case mwf =>
      refine mwf_upd (mwf_fam (mwf_nil _) (fun i hi => by first | exact rowO_ids | rfl)) (fun j hj => ?_)
      obtain ⟨q, hq, rfl⟩ := tabR_ids.1 hj
      simp only [upd_app, Nat.reduceEqDiff, reduceIte, fam_at hq, Option.isSome_some]
     refine mle_upd (mle_fam fun i hi => ?_) (by simp only [exa, beq_self_eq_true, ByteArray.size, Nat.reduceAdd, Nat.reduceLeDiff, Nat.reduceEqDiff, Nat.reduceMul, Int.reduceToNat, reduceIte, Int.reduceLE, Int.reduceNeg, tabR_set hf, Option.map_some, Option.map_none]; done)
     rw [adjL_next hx]
     by_cases e : i = f
     ·subst e
      simp only [exa, beq_self_eq_true, ByteArray.size, Nat.reduceAdd, Nat.reduceLeDiff, Nat.reduceEqDiff, Nat.reduceMul, Int.reduceToNat, reduceIte, Int.reduceLE, Int.reduceNeg, fam_at hi, Option.map_some, Option.map_none]
      rfl
     ·simp only [exa, beq_self_eq_true, ByteArray.size, Nat.reduceAdd, Nat.reduceLeDiff, Nat.reduceEqDiff, Nat.reduceMul, Int.reduceToNat, reduceIte, Int.reduceLE, Int.reduceNeg, fam_at hi, e, Nat.add_right_cancel_iff, Option.map_some, kill_rowO]
      rfl
   ·intro st' hle
    refine W.weaken hle ?_
    repeat (first | refine W.seq ?_ | refine W.block ?_ | refine W.skip ?_ | refine W.exit ?_ | refine W.region tab_ok 0 (by decide) (exec_run (by simp only [exa, beq_self_eq_true, ByteArray.size, Nat.reduceAdd, Nat.reduceLeDiff, Nat.reduceEqDiff, Nat.reduceMul, Int.reduceToNat, reduceIte, Int.reduceLE, Int.reduceNeg]; rfl)) ?_)
    refine ⟨k + 1, hlt, by omega, ?_⟩
    refine le_mk ?sle ?_ ?swf ?mwf (kept_not hkeep) (by rfl)
    case swf => repeat (first | exact swf_top _ | refine swf_upd ?_ (by simp [A.ids, upd_app]))
    case sle => repeat (first | exact sle_top _ | exact sle_refl _ | refine sle_upd ?_ (by first | rfl | (simp only [upd_app, killS_app, A.kill, entry_zero, entry_succ, Nat.reduceEqDiff, reduceIte, wrap_succ (show k + 1 < 9223372036854775808 by omega)]; done)))
    case mwf =>
     refine mwf_upd (mwf_fam (mwf_nil _) (fun i hi => by first | exact rowO_ids | rfl)) (fun j hj => ?_)
     obtain ⟨q, hq, rfl⟩ := tabR_ids.1 hj
     simp only [upd_app, Nat.reduceEqDiff, reduceIte, fam_at hq, Option.isSome_some]
    refine mle_upd (mle_fam fun i hi => ?_) (by simp only [exa, beq_self_eq_true, ByteArray.size, Nat.reduceAdd, Nat.reduceLeDiff, Nat.reduceEqDiff, Nat.reduceMul, Int.reduceToNat, reduceIte, Int.reduceLE, Int.reduceNeg, wrap_succ (show k + 1 < 9223372036854775808 by omega)]; done)
    simp only [exa, beq_self_eq_true, ByteArray.size, Nat.reduceAdd, Nat.reduceLeDiff, Nat.reduceEqDiff, Nat.reduceMul, Int.reduceToNat, reduceIte, Int.reduceLE, Int.reduceNeg, fam_at hi]
  ·intro hge
   simp only [decide_eq_false_iff_not, Int.ofNat_lt] at hge
   obtain rfl : k = E.length := by omega
   rw [List.take_length]
   (repeat (first | refine W.seq ?_ | refine W.block ?_ | refine W.skip ?_ | refine W.exit ?_))
   refine W.tabData 7 14 1000 n (e := 3) (ce := 1) (L := fun i => adjL E i) (upd (upd (fun _ => .top) 0 (.c (.int .i64 n))) 2 (.c (.sl (S.map cN)))) hkeep rfl rfl (fun i hi => ?_) (fun u => ?_) rfl (by decide) ?_
   ·simp only [exa, beq_self_eq_true, ByteArray.size, Nat.reduceAdd, Nat.reduceLeDiff, Nat.reduceEqDiff, Nat.reduceMul, Int.reduceToNat, reduceIte, Int.reduceLE, Int.reduceNeg, fam_at hi]
    rfl
   ·by_cases h0 : u = 0
    ·subst h0; exact .inr ⟨rfl, rfl⟩
    ·by_cases h2 : u = 2
     ·subst h2; exact .inr ⟨rfl, rfl⟩
     ·exact .inl (by simp [upd_app, h0, h2])
   have hta : ((List.range n).map fun i => [C.sl (adjL E i)]) = tabA E n := rfl
   rw [hta]
   (repeat (first | refine W.seq ?_ | refine W.block ?_ | refine W.skip ?_ | refine W.exit ?_))
   refine W.region tab_ok 0 (by decide) (exec_run (by simp only [exa, beq_self_eq_true, ByteArray.size, Nat.reduceAdd, Nat.reduceLeDiff, Nat.reduceEqDiff, Nat.reduceMul, Int.reduceToNat, reduceIte, Int.reduceLE, Int.reduceNeg, Int.toNat_natCast, hm1', hm1'', hm2, hn0, and_self, Bool.false_eq_true, rep_rowB, Nat.mul_one]; rfl)) ?_
   (repeat (first | refine W.seq ?_ | refine W.block ?_ | refine W.skip ?_ | refine W.exit ?_))
   refine W.regionK tab_ok 0 (by decide) ?_
   refine runk_split 1 (by simp only [exa, beq_self_eq_true, ByteArray.size, Nat.reduceAdd, Nat.reduceLeDiff, Nat.reduceEqDiff, Nat.reduceMul, Int.reduceToNat, reduceIte, Int.reduceLE, Int.reduceNeg]; rfl) ?_
   refine runk_appendNil tab_ok 200 false rfl rfl rfl rfl rfl rfl rfl (by simp only [exa, beq_self_eq_true, ByteArray.size, Nat.reduceAdd, Nat.reduceLeDiff, Nat.reduceEqDiff, Nat.reduceMul, Int.reduceToNat, reduceIte, Int.reduceLE, Int.reduceNeg]) (by first | rfl | (simp only [exa, beq_self_eq_true, ByteArray.size, Nat.reduceAdd, Nat.reduceLeDiff, Nat.reduceEqDiff, Nat.reduceMul, Int.reduceToNat, reduceIte, Int.reduceLE, Int.reduceNeg]; rfl)) rfl rfl rfl rfl (fun z hz => by obtain ⟨y, -, rfl⟩ := List.mem_map.1 hz; rfl) (by rw [List.length_map]; omega) (by decide) ?_
   refine runk_exec (by simp only [exa, beq_self_eq_true, ByteArray.size, Nat.reduceAdd, Nat.reduceLeDiff, Nat.reduceEqDiff, Nat.reduceMul, Int.reduceToNat, reduceIte, Int.reduceLE, Int.reduceNeg]; rfl) ?_
   (repeat (first | refine W.seq ?_ | refine W.block ?_ | refine W.skip ?_ | refine W.exit ?_))
   have hpot : ∀ Q : Nat → Bool, pot (outs E) Q n ≤ 100000000000 := fun Q => by
    have := pot_le (outs E) Q E.length (fun i => outs_len E i) n
    have : n * E.length ≤ 100000 * 1000000 := Nat.mul_le_mul hn hlen
    omega
   refine W.loop (ι := List Nat × (Nat → Bool)) (fun x => ⟨upd (upd (upd (fun _ => .top) 7 (.c (.sl (tabA E n)))) 10 (.own 36)) 11 (.own 200),
     upd (upd Mem.nil 36 (some (.mrow 4 1 (rowB n x.2)))) 200 (some (.mrow 3 1 (x.1.map cN)))⟩) (fun x => MInv E S n x.1 x.2 ∧ pot (outs E) x.2 n + x.1.length ≤ S.length + 100000000000) (fun x => pot (outs E) x.2 n + x.1.length) (S, fun _ => false) ?start2
     ⟨⟨hS, fun i hi => .here hi, (fun i hi => by cases hi), (fun i hi => by cases hi), (fun s hs => .inr hs)⟩, by have := hpot (fun _ => false); simp only; omega⟩ ?round2
   case start2 =>
    refine le_mk ?sle ?mle ?swf ?mwf (kept_not hkeep) (by rfl)
    case swf => repeat (first | exact swf_top _ | refine swf_upd ?_ (by simp [A.ids, upd_app, Bool.false_eq_true, if_false]))
    case mwf => repeat (first | exact mwf_nil _ | refine mwf_upd ?_ (by simp [A.ids, O.ids, upd_app, Bool.false_eq_true, if_false]))
    case mle => repeat (first | exact mle_nil _ | exact mle_refl _ | refine mle_upd ?_ (by first | rfl | (simp only [upd_app, killM_app, O.kill, A.kill, Nat.reduceEqDiff, reduceIte, Option.map_some, Option.map_none, List.map_cons, List.map_nil, Bool.false_eq_true, if_false]; done)))
    case sle => repeat (first | exact sle_top _ | exact sle_refl _ | refine sle_upd ?_ (by first | rfl | (simp only [upd_app, killS_app, A.kill, entry_zero, entry_succ, Nat.reduceEqDiff, reduceIte, Bool.false_eq_true, if_false]; done)))
   case round2 =>
    rintro ⟨ws, Q⟩ ⟨hinv, hbd⟩
    simp only at hinv hbd
    rcases list_last ws with rfl | ⟨ws, i, rfl⟩
    ·repeat (first | refine W.seq ?_ | refine W.block ?_ | refine W.skip ?_ | refine W.exit ?_ | refine W.region tab_ok 0 (by decide) (exec_run (by simp only [exa, beq_self_eq_true, ByteArray.size, Nat.reduceAdd, Nat.reduceLeDiff, Nat.reduceEqDiff, Nat.reduceMul, Int.reduceToNat, reduceIte, Int.reduceLE, Int.reduceNeg]; rfl)) ?_)
     refine W.cond rfl ?_ ?_
     ·intro h; simp at h
     ·intro _
      repeat (first | refine W.seq ?_ | refine W.block ?_ | refine W.skip ?_ | refine W.exit ?_ | refine W.region tab_ok 0 (by decide) (exec_run (by simp only [exa, beq_self_eq_true, ByteArray.size, Nat.reduceAdd, Nat.reduceLeDiff, Nat.reduceEqDiff, Nat.reduceMul, Int.reduceToNat, reduceIte, Int.reduceLE, Int.reduceNeg]; rfl)) ?_)
      refine W.freeze 6 36 rfl (by simp only [exa, beq_self_eq_true, ByteArray.size, Nat.reduceAdd, Nat.reduceLeDiff, Nat.reduceEqDiff, Nat.reduceMul, Int.reduceToNat, reduceIte, Int.reduceLE, Int.reduceNeg]; rfl) (nokeep hkeep) ?_
      refine W.ret ⟨.inr rfl, by rfl, ?_⟩
      simp only [Tryd.f27, resA, resOne, toT, fin, exa, beq_self_eq_true, ByteArray.size, Nat.reduceAdd, Nat.reduceLeDiff, Nat.reduceEqDiff, Nat.reduceMul, Int.reduceToNat, reduceIte, Int.reduceLE, Int.reduceNeg]
      rw [reachB_of (hinv.done)]
    ·have hi : i < n := hinv.lt i (by simp)
     have hi0 : (0 : Int) ≤ (i : Int) := by omega
     have hbl : ws.length + 1 ≤ S.length + 100000000000 := by simp only [List.length_append, List.length_cons, List.length_nil] at hbd; omega
     have hw1 := wrap_last (k := ws.length) (by omega)
     have hle : ws.length ≤ ws.length + 1 := by omega
     have hol := outs_len E i
     repeat (first | refine W.seq ?_ | refine W.block ?_ | refine W.skip ?_ | refine W.exit ?_ | refine W.region tab_ok 0 (by decide) (exec_run (by simp only [exa, beq_self_eq_true, ByteArray.size, Nat.reduceAdd, Nat.reduceLeDiff, Nat.reduceEqDiff, Nat.reduceMul, Int.reduceToNat, reduceIte, Int.reduceLE, Int.reduceNeg, List.length_map, List.length_append]; rfl)) ?_)
     refine W.cond rfl ?_ ?_
     ·intro _
      repeat (first | refine W.seq ?_ | refine W.block ?_ | refine W.skip ?_ | refine W.exit ?_ | refine W.region tab_ok 0 (by decide) (exec_run (by simp only [exa, beq_self_eq_true, ByteArray.size, Nat.reduceAdd, Nat.reduceLeDiff, Nat.reduceEqDiff, Nat.reduceMul, Int.reduceToNat, reduceIte, Int.reduceLE, Int.reduceNeg, List.length_map, List.length_append, hw1, last_at, cN, Int.toNat_natCast, Nat.lt_succ_self, and_self, Nat.zero_le, hle, rowB_at hi, rowB_len, hi, hi0]; rfl)) ?_)
      refine W.rewin 11 200 (by decide) rfl (by simp only [exa, beq_self_eq_true, ByteArray.size, Nat.reduceAdd, Nat.reduceLeDiff, Nat.reduceEqDiff, Nat.reduceMul, Int.reduceToNat, reduceIte, Int.reduceLE, Int.reduceNeg]; rfl) (by simp only [List.length_map, List.length_append, List.length_cons, List.length_nil]; omega) (nokeep hkeep) ?_
      refine W.cond rfl ?_ ?_
      ·intro hq
       have hq : Q i = false := by simpa using hq
       have hpm := pot_mark (outs E) Q i hq n
       rw [if_pos hi] at hpm
       (repeat (first | refine W.seq ?_ | refine W.block ?_ | refine W.skip ?_ | refine W.exit ?_))
       refine W.region tab_ok 0 (by decide) (exec_run (by simp only [exa, beq_self_eq_true, ByteArray.size, Nat.reduceAdd, Nat.reduceLeDiff, Nat.reduceEqDiff, Nat.reduceMul, Int.reduceToNat, reduceIte, Int.reduceLE, Int.reduceNeg, rowB_at hi, rowB_len, hi, hi0, Int.toNat_natCast, and_self, rowB_set]; rfl)) ?_
       (repeat (first | refine W.seq ?_ | refine W.block ?_ | refine W.skip ?_ | refine W.exit ?_))
       refine W.regionK tab_ok 0 (by decide) ?_
       refine runk_split 5 (by simp only [exa, beq_self_eq_true, ByteArray.size, Nat.reduceAdd, Nat.reduceLeDiff, Nat.reduceEqDiff, Nat.reduceMul, Int.reduceToNat, reduceIte, Int.reduceLE, Int.reduceNeg, tabA_at hi, tabA_len, hi, hi0, Int.toNat_natCast, and_self, take_last]; rfl) ?_
       refine runk_appendM tab_ok 200 rfl rfl rfl rfl rfl rfl (by simp only [exa, beq_self_eq_true, ByteArray.size, Nat.reduceAdd, Nat.reduceLeDiff, Nat.reduceEqDiff, Nat.reduceMul, Int.reduceToNat, reduceIte, Int.reduceLE, Int.reduceNeg, tabA_at hi, tabA_len, hi, hi0, Int.toNat_natCast, and_self, take_last]) (by simp only [exa, beq_self_eq_true, ByteArray.size, Nat.reduceAdd, Nat.reduceLeDiff, Nat.reduceEqDiff, Nat.reduceMul, Int.reduceToNat, reduceIte, Int.reduceLE, Int.reduceNeg, tabA_at hi, tabA_len, hi, hi0, Int.toNat_natCast, and_self, take_last]; rfl) (by first | rfl | (simp only [exa, beq_self_eq_true, ByteArray.size, Nat.reduceAdd, Nat.reduceLeDiff, Nat.reduceEqDiff, Nat.reduceMul, Int.reduceToNat, reduceIte, Int.reduceLE, Int.reduceNeg, tabA_at hi, tabA_len, hi, hi0, Int.toNat_natCast, and_self, take_last]; rfl)) rfl rfl rfl rfl (nokeep hkeep) (fun z hz => by obtain ⟨y, -, rfl⟩ := List.mem_map.1 hz; rfl) (by simp only [List.length_map, List.length_append, List.length_cons, List.length_nil, List.length_take, List.length_drop]; simp only [List.length_append, List.length_cons, List.length_nil] at hbd; omega) (by decide) ?_
       refine runk_exec (by simp only [exa, beq_self_eq_true, ByteArray.size, Nat.reduceAdd, Nat.reduceLeDiff, Nat.reduceEqDiff, Nat.reduceMul, Int.reduceToNat, reduceIte, Int.reduceLE, Int.reduceNeg]; rfl) ?_
       refine ⟨(ws ++ outs E i, G.mark Q i), ⟨hinv.take hE, ?_⟩, ?_, ?_⟩
       ·simp only [List.length_append, List.length_cons, List.length_nil] at hbd ⊢; omega
       ·simp only [List.length_append, List.length_cons, List.length_nil]; omega
       refine le_mk ?sle ?mle ?swf ?mwf (kept_not hkeep) (by rfl)
       case swf => repeat (first | exact swf_top _ | refine swf_upd ?_ (by simp [A.ids, upd_app, take_last, take_last2, List.map_append, List.map_cons, List.map_nil, List.drop_zero]))
       case mwf => repeat (first | exact mwf_nil _ | refine mwf_upd ?_ (by simp [A.ids, O.ids, upd_app, take_last, take_last2, List.map_append, List.map_cons, List.map_nil, List.drop_zero]))
       case mle => repeat (first | exact mle_nil _ | exact mle_refl _ | refine mle_upd ?_ (by first | rfl | (simp only [upd_app, killM_app, O.kill, A.kill, Nat.reduceEqDiff, reduceIte, Option.map_some, Option.map_none, List.map_cons, List.map_nil, take_last, take_last2, List.map_append, List.map_cons, List.map_nil, List.drop_zero]; done)))
       case sle => repeat (first | exact sle_top _ | exact sle_refl _ | refine sle_upd ?_ (by first | rfl | (simp only [upd_app, killS_app, A.kill, entry_zero, entry_succ, Nat.reduceEqDiff, reduceIte, take_last, take_last2, List.map_append, List.map_cons, List.map_nil, List.drop_zero]; done)))
      ·intro hq
       have hq : Q i = true := by simpa using hq
       repeat (first | refine W.seq ?_ | refine W.block ?_ | refine W.skip ?_ | refine W.exit ?_ | refine W.region tab_ok 0 (by decide) (exec_run (by simp only [exa, beq_self_eq_true, ByteArray.size, Nat.reduceAdd, Nat.reduceLeDiff, Nat.reduceEqDiff, Nat.reduceMul, Int.reduceToNat, reduceIte, Int.reduceLE, Int.reduceNeg]; rfl)) ?_)
       refine ⟨(ws, Q), ⟨hinv.skip hq, ?_⟩, ?_, ?_⟩
       ·simp only [List.length_append, List.length_cons, List.length_nil] at hbd ⊢; omega
       ·simp only [List.length_append, List.length_cons, List.length_nil]; omega
       refine le_mk ?sle ?mle ?swf ?mwf (kept_not hkeep) (by rfl)
       case swf => repeat (first | exact swf_top _ | refine swf_upd ?_ (by simp [A.ids, upd_app, take_last]))
       case mwf => repeat (first | exact mwf_nil _ | refine mwf_upd ?_ (by simp [A.ids, O.ids, upd_app, take_last]))
       case mle => repeat (first | exact mle_nil _ | exact mle_refl _ | refine mle_upd ?_ (by first | rfl | (simp only [upd_app, killM_app, O.kill, A.kill, Nat.reduceEqDiff, reduceIte, Option.map_some, Option.map_none, List.map_cons, List.map_nil, take_last]; done)))
       case sle => repeat (first | exact sle_top _ | exact sle_refl _ | refine sle_upd ?_ (by first | rfl | (simp only [upd_app, killS_app, A.kill, entry_zero, entry_succ, Nat.reduceEqDiff, reduceIte, take_last]; done)))
     ·intro h; simp at h
end V
end Go.Proofs.YtnmfbaahabcocaaDoor
end
