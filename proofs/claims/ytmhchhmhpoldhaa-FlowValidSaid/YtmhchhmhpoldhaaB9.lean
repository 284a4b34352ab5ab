/- Joined by my own program, in build order: PtR, PtF, Vld, FV, VlF, Varr, VlR, Liv, L24p, L24, LawReaches24, LawPaths24, LawValid24, LawB24. -/
import Derived.Test.YtmhchhmhpoldhaaB8
import Derived.Test.YtmhchhmhpoldhaaB1
import Derived.Test.YtmhchhmhpoldhaaB4
set_option linter.unusedVariables false
set_option linter.unusedSimpArgs false
namespace Go.Proofs.Ytmhchhmhpoldhaa
theorem zb9q1 {p : Prop} (h : p := by (simp only [exb, Nat.reduceAdd, Nat.reduceLeDiff, Nat.reduceEqDiff, Nat.reduceMul, Int.reduceToNat, reduceIte, Int.reduceLE, Int.reduceNeg, he, eq_self, decide_true, Bool.not_true, List.map_nil, List.length_nil, z0]; rfl)) : p := h
theorem zb9q2 {p : Prop} (h : p := by (first | rfl | (simp only [upd_app, killM_app, O.kill, A.kill, Nat.reduceEqDiff, reduceIte, Option.map_some, Option.map_none, List.map_cons, List.map_nil, wrap_succ (show j + 1 < 9223372036854775808 by omega)]; done))) : p := h
theorem zb9q3 {p : Prop} (h : p := by (simp only [exb, Nat.reduceAdd, Nat.reduceLeDiff, Nat.reduceEqDiff, Nat.reduceMul, Int.reduceToNat, reduceIte, Int.reduceLE, Int.reduceNeg, List.take, List.drop, List.append, List.cons_append, List.nil_append]; rfl)) : p := h
theorem zb9q4 {p : Prop} (h : p := by (simp only [exb, Nat.reduceAdd, Nat.reduceLeDiff, Nat.reduceEqDiff, Nat.reduceMul, Int.reduceToNat, reduceIte, Int.reduceLE, Int.reduceNeg, p0, decide_false, List.length_map]; rfl)) : p := h
theorem zb9q5 {p : Prop} (h : p := by (simp only [exb, Nat.reduceAdd, Nat.reduceLeDiff, Nat.reduceEqDiff, Nat.reduceMul, Int.reduceToNat, reduceIte, Int.reduceLE, Int.reduceNeg, p0, decide_false, Bool.not_false]; rfl)) : p := h
theorem zb9q6 {p : Prop} (h : p := by (simp only [exb, Nat.reduceAdd, Nat.reduceLeDiff, Nat.reduceEqDiff, Nat.reduceMul, Int.reduceToNat, reduceIte, Int.reduceLE, Int.reduceNeg, p0, decide_true, List.length_map]; rfl)) : p := h
theorem zb9q7 {p : Prop} (h : p := by (simp only [exb, Nat.reduceAdd, Nat.reduceLeDiff, Nat.reduceEqDiff, Nat.reduceMul, Int.reduceToNat, reduceIte, Int.reduceLE, Int.reduceNeg, p0, decide_true, Bool.not_true]; rfl)) : p := h
theorem zb9q8 {p : Prop} (h : p := by (simp only [exb, Nat.reduceAdd, Nat.reduceLeDiff, Nat.reduceEqDiff, Nat.reduceMul, Int.reduceToNat, reduceIte, Int.reduceLE, Int.reduceNeg, phI, Int.reduceLE, decide_true]; rfl)) : p := h
theorem zb9q9 {p : Prop} (h : p := by (first | rfl | (simp only [upd_app, killS_app, A.kill, entry_zero, entry_succ, Nat.reduceEqDiff, reduceIte, wrap_succ (show j + 1 < 9223372036854775808 by omega)]; done))) : p := h
theorem zb9q10 {p : Prop} (h : p := by (simp only [exb, Nat.reduceAdd, Nat.reduceLeDiff, Nat.reduceEqDiff, Nat.reduceMul, Int.reduceToNat, reduceIte, Int.reduceLE, Int.reduceNeg, decide_true, eq_self]; rfl)) : p := h
theorem zb9q11 {p : Prop} (h : p := by (simp only [exb, Nat.reduceAdd, Nat.reduceLeDiff, Nat.reduceEqDiff, Nat.reduceMul, Int.reduceToNat, reduceIte, Int.reduceLE, Int.reduceNeg, eq_self, decide_true]; rfl)) : p := h
theorem zb9q12 {p : Prop} (h : p := by (simp only [exb, Nat.reduceAdd, Nat.reduceLeDiff, Nat.reduceEqDiff, Nat.reduceMul, Int.reduceToNat, reduceIte, Int.reduceLE, Int.reduceNeg, Int.cast_ofNat_Int]; rfl)) : p := h
theorem zb9q13 {p : Prop} (h : p := by (simp only [exb, Nat.reduceAdd, Nat.reduceLeDiff, Nat.reduceEqDiff, Nat.reduceMul, Int.reduceToNat, reduceIte, Int.reduceLE, Int.reduceNeg, List.length_map]; rfl)) : p := h
theorem zb9q14 {p : Prop} (h : p := by (first | rfl | (simp only [upd_app, killM_app, O.kill, A.kill, Nat.reduceEqDiff, reduceIte, Option.map_some, Option.map_none, List.map_cons, List.map_nil]; done))) : p := h
theorem zb9q15 {p : Prop} (h : p := by (first | rfl | (simp only [exb, Nat.reduceAdd, Nat.reduceLeDiff, Nat.reduceEqDiff, Nat.reduceMul, Int.reduceToNat, reduceIte, Int.reduceLE, Int.reduceNeg]; done))) : p := h
theorem zb9q16 {p : Prop} (h : p := by (first | rfl | (simp only [exb, Nat.reduceAdd, Nat.reduceLeDiff, Nat.reduceEqDiff, Nat.reduceMul, Int.reduceToNat, reduceIte, Int.reduceLE, Int.reduceNeg]; rfl))) : p := h
theorem zb9q17 {p : Prop} (h : p := by (simp only [exb, Nat.reduceAdd, Nat.reduceLeDiff, Nat.reduceEqDiff, Nat.reduceMul, Int.reduceToNat, reduceIte, Int.reduceLE, Int.reduceNeg, phI, List.drop]; rfl)) : p := h
theorem zb9q18 {p : Prop} (h : p := by (simp only [exb, Nat.reduceAdd, Nat.reduceLeDiff, Nat.reduceEqDiff, Nat.reduceMul, Int.reduceToNat, reduceIte, Int.reduceLE, Int.reduceNeg, at_map ht, cN]; rfl)) : p := h
theorem zb9q19 {p : Prop} (h : p := by (simp only [exb, Nat.reduceAdd, Nat.reduceLeDiff, Nat.reduceEqDiff, Nat.reduceMul, Int.reduceToNat, reduceIte, Int.reduceLE, Int.reduceNeg, Int.reduceLT]; rfl)) : p := h
theorem zb9q20 {p : Prop} (h : p := by (simp only [exb, Nat.reduceAdd, Nat.reduceLeDiff, Nat.reduceEqDiff, Nat.reduceMul, Int.reduceToNat, reduceIte, Int.reduceLE, Int.reduceNeg, List.drop]; rfl)) : p := h
theorem zb9q21 {p : Prop} (h : p := by (simp only [exb, Nat.reduceAdd, Nat.reduceLeDiff, Nat.reduceEqDiff, Nat.reduceMul, Int.reduceToNat, reduceIte, Int.reduceLE, Int.reduceNeg, T.tabs]; rfl)) : p := h
theorem zb9q22 {p : Prop} (h : p := by (first | rfl | (simp only [upd_app, entry_zero, entry_succ, Nat.reduceEqDiff, reduceIte, wrap_succ (show iv + 1 < 9223372036854775808 by omega)]; done))) : p := h
theorem zb9q23 {p : Prop} (h : p := by (first | rfl | (simp only [upd_app, entry_zero, entry_succ, Nat.reduceEqDiff, reduceIte, wrap_succ (show k + 1 < 9223372036854775808 by omega)]; done))) : p := h
theorem zb9q24 {p : Prop} (h : p := by (simp only [exb, Nat.reduceAdd, Nat.reduceLeDiff, Nat.reduceEqDiff, Nat.reduceMul, Int.reduceToNat, reduceIte, Int.reduceLE, Int.reduceNeg, phI]; rfl)) : p := h
theorem zb9q25 {p : Prop} (h : p := by (simp only [exb, Nat.reduceAdd, Nat.reduceLeDiff, Nat.reduceEqDiff, Nat.reduceMul, Int.reduceToNat, reduceIte, Int.reduceLE, Int.reduceNeg]; rfl)) : p := h
theorem zb9q26 {p : Prop} (h : p := by (simp only [exb, Nat.reduceAdd, Nat.reduceLeDiff, Nat.reduceEqDiff, Nat.reduceMul, Int.reduceToNat, reduceIte, Int.reduceLE, Int.reduceNeg])) : p := h
theorem zb9q27 {p : Prop} (h : p := by (first | rfl | (simp only [upd_app, killM_app, Nat.reduceEqDiff, reduceIte, wrap_succ (show iv + 1 < 9223372036854775808 by omega)]; done))) : p := h
theorem zb9q28 {p : Prop} (h : p := by (first | rfl | (simp only [upd_app, killM_app, Nat.reduceEqDiff, reduceIte, wrap_succ (show k + 1 < 9223372036854775808 by omega)]; done))) : p := h
theorem zb9q29 {p : Prop} (h : p := by (unfold Func.isWrapper; first | (rw [if_pos (by decide +kernel)]; kernel_rfl) | (rw [if_neg (by decide +kernel)]; exact ⟨rfl, rfl⟩))) : p := h
theorem zb9q30 {p : Prop} (h : p := by (first | rfl | (simp only [upd_app, entry_zero, entry_succ, Nat.reduceEqDiff, reduceIte, phI, Int.reduceAdd, IntKind.wrap]; done))) : p := h
theorem zb9q31 {p : Prop} (h : p := by (first | rfl | (simp only [upd_app, killM_app, Nat.reduceEqDiff, reduceIte, phI, Int.reduceAdd, IntKind.wrap]; done))) : p := h
theorem zb9q32 {p : Prop} (h : p := by (first | rfl | (simp only [upd_app, killS_app, A.kill, entry_zero, entry_succ, Nat.reduceEqDiff, reduceIte]; done))) : p := h
theorem zb9q33 {p : Prop} (h : p := by (first | rfl | (simp only [upd_app, entry_zero, entry_succ, Nat.reduceEqDiff, reduceIte, someP, rowsP]; done))) : p := h
theorem zb9q34 {p : Prop} (h : p := by (first | rfl | (simp only [upd_app, entry_zero, entry_succ, Nat.reduceEqDiff, reduceIte, phI]; done))) : p := h
theorem zb9q35 {p : Prop} (h : p := by (first | rfl | (simp only [upd_app, killM_app, Nat.reduceEqDiff, reduceIte, someP, rowsP]; done))) : p := h
theorem zb9q36 {p : Prop} (h : p := by (first | rfl | (simp only [upd_app, entry_zero, entry_succ, Nat.reduceEqDiff, reduceIte]; done))) : p := h
theorem zb9q37 {p : Prop} (h : p := by (first | rfl | (simp only [upd_app, killM_app, Nat.reduceEqDiff, reduceIte, phI]; done))) : p := h
theorem zb9q38 {p : Prop} (h : p := by (simp only [List.length_map, List.length_cons, List.length_nil]; omega)) : p := h
end Go.Proofs.Ytmhchhmhpoldhaa
section
namespace Go.Proofs.Ytmhchhmhpoldhaa
namespace V
open Go.RowKit G
open Classical in
noncomputable def pthO (S : List (Nat × Nat)) (src : List Nat) (t : Nat) : List Nat := if Reached S src t then pathF S src t else []
theorem walkR_pth {S : List (Nat × Nat)} {t N : Nat} {src : List Nat} (hs : ∀ i ∈ src, 2 * i < N) : walkR S (ends2 t) (Ms.farF S (ends2 t)) src = pthO S src t := by
 have h := walkR_eq (S := S) (t := t) (N := N) (F := Ms.farF S (ends2 t)) (src := src) (fun i _ v => Ms.farF_at) hs
 unfold pthO
 by_cases q : Reached S src t
 ·rw [if_pos q]; exact h.1 q
 ·rw [if_neg q]; exact h.2 q
theorem pathR_pth {S : List (Nat × Nat)} {t N : Nat} {src : List Nat} (hs : ∀ i ∈ src, 2 * i < N) : pathR S (ends2 t) (Ms.farF S (ends2 t)) (ph1 src) = pthO S src t := by
 have h := pathR_eq (S := S) (t := t) (N := N) (F := Ms.farF S (ends2 t)) (src := src) (fun i _ v => Ms.farF_at) hs
 unfold pthO
 by_cases q : Reached S src t
 ·rw [if_pos q]; exact h.1 q
 ·rw [if_neg q]; exact h.2 q
def rowsP (L : List (List Nat)) : List (List C) := L.map fun p => [.sl (p.map cN)]
theorem rowsP_len (L : List (List Nat)) : (rowsP L).length = L.length := by simp [rowsP]
set_option maxHeartbeats 2000000 in
theorem refPaths_ok (n : Nat) (l : List Q) (hc : chkS n l = true) (hlen : l.length ≤ 1000000) (hK : (allS n l).length ≤ 1000000) (hKE : (wholeE n l).length ≤ 1000000) (src : List Nat) (hs : ∀ i ∈ src, i < n) (hsl : src.length ≤ 1000000) (es : List Nat) (he : ∀ i ∈ es, i < n) (hel : es.length ≤ 1000000) (m : Mem) :
  COk Try.prog 32 [.c (.int .i64 n), .c (.sl (l.map cS)), .c (.sl (src.map cN)), .c (.sl (es.map cN))] m (.c (.sl (rowsP (es.map (pthO (allS n l) src))))) := by
 have hn : n ≤ 100000 := by have := (natS_back hc).2.1; omega
 have hE := allS_lt hc
 have hst := fun m => refSteps_ok n l hc (by omega) m
 have hwF := fun m => waysF_ok n l hc hKE m
 have hwT := fun m => waysT_ok n l hc hKE m
 obtain ⟨S, hS⟩ : ∃ S, S = allS n l := ⟨_, rfl⟩
 rw [← hS] at hK hE hwF hwT ⊢
 refine (ok_pure tab_ok Try.func32 (by kernel_rfl) rfl rfl (by rfl) (by rfl) (by rfl) (fun R hkeep => ?_) m)
 repeat (first | refine W.seq ?_ | refine W.block ?_ | refine W.skip ?_ | refine W.exit ?_ | refine W.g ?_)
 refine W.regionK tab_ok 0 (by decide) ?_
 refine xs0 2 ?_
 refine runk_call rfl rfl rfl rfl rfl (by simp) (cvs_cons cv_refl (cvs_cons cv_refl cvs_nil)) (hst _) ?_
 refine xe0 ?_
 (repeat (first | refine W.seq ?_ | refine W.block ?_ | refine W.skip ?_ | refine W.exit ?_))
 refine W.regionK tab_ok 0 (by decide) ?_
 refine xs0 2 ?_
 refine runk_call rfl rfl rfl rfl rfl (by simp) (cvs_cons cv_refl (cvs_cons cv_refl (cvs_cons cv_refl cvs_nil))) (hwF _) ?_
 refine xe0 ?_
 (repeat (first | refine W.seq ?_ | refine W.block ?_ | refine W.skip ?_ | refine W.exit ?_))
 refine W.regionK tab_ok 0 (by decide) ?_
 refine xs0 2 ?_
 refine runk_call rfl rfl rfl rfl rfl (by simp) (cvs_cons cv_refl (cvs_cons cv_refl (cvs_cons cv_refl cvs_nil))) (hwT _) ?_
 refine xe0 ?_
 repeat (first | refine W.seq ?_ | refine W.block ?_ | refine W.skip ?_ | refine W.exit ?_ | refine W.g ?_)
 refine W.newArr 12 100 23 1 rfl rfl ?_
 refine W.loop (ι := Nat) (fun k => ⟨upd (upd (upd (upd (upd (upd (upd (fun _ => .top) 2 (.c (.sl (src.map cN)))) 10 (.c (.sl (tabU S (2 * n))))) 11 (.c (.sl (tabU (turnL S) (2 * n))))) 12 (.own 100)) 24 (.c (.sl (es.map cN)))) 25 (.c (.int .i64 es.length))) 26 (.c (.int .i64 k)), upd Mem.nil 100 (some (.arr 23 1 (rowsP ((es.take k).map (pthO S src)))))⟩) (fun k => k ≤ es.length) (fun k => es.length - k) 0 ?start (Nat.zero_le _) ?round
 case start =>
  refine le_L ?sle ?mle (kept_not hkeep)
  case mle => repeat (first | exact mle_nil _ | exact mle_refl _ | refine mle_upd ?_ (by first | rfl | (simp only [upd_app, killM_app, Nat.reduceEqDiff, reduceIte]; done)))
  case sle => repeat (first | exact sle_top _ | exact sle_refl _ | refine sle_upd ?_ zb9q36)
 case round =>
  intro k hk
  repeat (first | refine W.seq ?_ | refine W.block ?_ | refine W.skip ?_ | refine W.exit ?_ | refine W.g ?_)
  refine W.cond rfl ?_ ?_
  ·intro hlt
   simp only [decide_eq_true_eq, Int.ofNat_lt] at hlt
   obtain ⟨t, ht⟩ : ∃ x, es[k]? = some x := ⟨_, List.getElem?_eq_getElem hlt⟩
   have htn := he t (List.mem_of_getElem? ht)
   have hwk := fun m => walk_ok (2 * n) (by omega) S hK hE src (fun i hi => by have := hs i hi; omega) hsl t (by omega) m
   simp only [walkR_pth (N := 2 * n) (S := S) (t := t) (src := src) (fun i hi => by have := hs i hi; omega)] at hwk
   have htk : es.take (k + 1) = es.take k ++ [t] := by rw [List.take_add_one, ht]; rfl
   repeat (first | refine W.seq ?_ | refine W.block ?_ | refine W.skip ?_ | refine W.exit ?_ | refine W.g ?_ zb9q18)
   refine W.regionK tab_ok 0 (by decide) ?_
   refine xs0 5 ?_
   refine runk_call rfl rfl rfl rfl rfl (by simp) (cvs_cons cv_refl (cvs_cons cv_refl (cvs_cons cv_refl (cvs_cons cv_refl cvs_nil)))) (hwk _) ?_
   refine xs0 1 ?_
   refine runk_append tab_ok 100 rfl rfl rfl rfl rfl rfl rfl rfl zb9q16 rfl rfl rfl rfl (nokeep hkeep) (fun z hz => by simp at hz; subst hz; rfl) (by simp only [rowsP_len, List.length_map, List.length_cons, List.length_nil]; have := List.length_take_le k es; omega) (by decide) ?_
   refine xe0 ?_
   repeat (first | refine W.seq ?_ | refine W.block ?_ | refine W.skip ?_ | refine W.exit ?_ | refine W.g ?_)
   refine ⟨k + 1, hlt, by omega, ?_⟩
   have hpush : rowsP ((es.take (k + 1)).map (pthO S src)) = rowsP ((es.take k).map (pthO S src)) ++ [[.sl ((pthO S src t).map cN)]] := by rw [htk]; simp [rowsP]
   rw [hpush]
   refine le_L ?sle ?mle (kept_not hkeep)
   case mle => repeat (first | exact mle_nil _ | exact mle_refl _ | refine mle_upd ?_ zb9q28)
   case sle => repeat (first | exact sle_top _ | exact sle_refl _ | refine sle_upd ?_ zb9q23)
  ·intro hge
   simp only [decide_eq_false_iff_not, Int.ofNat_lt] at hge
   obtain rfl : k = es.length := by omega
   rw [List.take_length]
   repeat (first | refine W.seq ?_ | refine W.block ?_ | refine W.skip ?_ | refine W.exit ?_ | refine W.g ?_)
   refine W.ret ⟨.inr rfl, by rfl, ?_⟩
   simp only [Try.f32, resA, resOne, toT, fin, exb, Nat.reduceAdd, Nat.reduceLeDiff, Nat.reduceEqDiff, Nat.reduceMul, Int.reduceToNat, reduceIte, Int.reduceLE, Int.reduceNeg]
noncomputable def pathO (n : Int) (l : List Q) (ids : List Int) (to : Int) : List Nat × Int :=
 if errN n l (ids ++ [to]) = 0 then
  if pthO (allS n.toNat l) (natI ids) to.toNat = [] then ([], 240) else (pthO (allS n.toNat l) (natI ids) to.toNat, 0)
 else ([], errN n l (ids ++ [to]))
theorem cZ_app (ids : List Int) (to : Int) : (ids ++ [to]).map cZ = ids.map cZ ++ [[.int .i64 to]] := by simp [cZ]
set_option maxHeartbeats 2000000 in
theorem refPathZ_ok (n : Int) (l : List Q) (ids : List Int) (to : Int) (hs : Small n l) (hi : ids.length ≤ 1000000) (m : Mem) :
  COk Try.prog 16 [.c (.int .i64 n), .c (.sl (l.map cS)), .c (.sl (ids.map cZ)), .c (.int .i64 to)] m (.tup [(false, [.sl ((pathO n l ids to).1.map cN)]), (false, [.int .i64 (pathO n l ids to).2])]) := by
 have hf := fun m => refCheckN_ok n l (ids ++ [to]) (by have := hs.1; omega) (by simp; omega) m
 rw [cZ_app] at hf
 refine (ok_pure tab_ok Try.func16 (by kernel_rfl) rfl rfl (by rfl) (by rfl) (by rfl) (fun R hkeep => ?_) m)
 repeat (first | refine W.seq ?_ | refine W.block ?_ | refine W.skip ?_ | refine W.exit ?_ | refine W.g ?_)
 refine W.regionK tab_ok 0 (by decide) ?_
 refine xs0 3 ?_
 refine runk_appendNil tab_ok 90 true rfl rfl rfl rfl rfl rfl rfl zb9q26 zb9q16 rfl rfl rfl rfl (fun z hz => by obtain ⟨y, -, rfl⟩ := List.mem_map.1 hz; rfl) (by rw [List.length_map]; omega) (by decide) ?_
 refine xs0 2 ?_
 refine runk_append tab_ok 90 rfl rfl rfl rfl rfl rfl rfl rfl zb9q16 rfl rfl rfl rfl (nokeep hkeep) (fun z hz => by simp at hz; subst hz; rfl) zb9q38 (by decide) ?_
 refine xs0 0 ?_
 refine runk_call rfl rfl rfl rfl rfl (by simp) (cvs_cons cv_refl (cvs_cons cv_refl (cvs_cons (cv_own rfl) cvs_nil))) (hf _) ?_
 refine xe0 ?_
 repeat (first | refine W.seq ?_ | refine W.block ?_ | refine W.skip ?_ | refine W.exit ?_ | refine W.g ?_)
 unfold pathO
 by_cases he : errN n l (ids ++ [to]) = 0
 ·rw [if_pos he]
  obtain ⟨hc, hz⟩ := errN_good he
  obtain ⟨k, rfl⟩ := good_n hc
  have h1 := hs.2 hc
  have hzi : ∀ z ∈ ids, 0 ≤ z ∧ z < (k : Int) := fun z h => hz z (List.mem_append_left _ h)
  have h2 := natI_lt hzi
  obtain ⟨ht0, ht1⟩ := hz to (by simp)
  obtain ⟨t, rfl⟩ : ∃ t : Nat, to = (t : Int) := ⟨to.toNat, by omega⟩
  have htk : t < k := by omega
  rw [cZ_natI fun z h => (hzi z h).1]
  rw [Int.toNat_natCast] at h1 h2
  simp only [Int.toNat_natCast]
  obtain ⟨src, hsrc⟩ : ∃ src, src = natI ids := ⟨_, rfl⟩
  have hsl : src.length ≤ 1000000 := by rw [hsrc]; simp [natI]; omega
  rw [← hsrc] at h2 ⊢
  have hp := fun m => refPaths_ok k l hc (by have := hs.1; omega) h1.1 h1.2 src h2 hsl [t] (by simp; exact htk) (by simp) m
  obtain ⟨p, hpe⟩ : ∃ p, p = pthO (allS k l) src t := ⟨_, rfl⟩
  simp only [List.map_cons, List.map_nil, rowsP, cN] at hp
  rw [← hpe] at hp ⊢
  have p1 := eq_true he
  refine W.cond rfl (fun h => absurd h (by simp [he])) (fun _ => ?_)
  (repeat (first | refine W.seq ?_ | refine W.block ?_ | refine W.skip ?_ | refine W.exit ?_))
  refine W.regionK tab_ok 0 (by decide) ?_
  refine xs0 5 ?_
  refine runk_call rfl rfl rfl rfl rfl (by simp) (cvs_cons cv_refl (cvs_cons cv_refl (cvs_cons cv_refl (cvs_cons cv_refl cvs_nil)))) (hp _) ?_
  refine xe0 ?_
  repeat (first | refine W.seq ?_ | refine W.block ?_ | refine W.skip ?_ | refine W.exit ?_ | refine W.g ?_)
  rcases p with _ | ⟨x, p⟩
  ·refine W.cond rfl (fun _ => ?_) (fun h => absurd h (by simp))
   repeat (first | refine W.seq ?_ | refine W.block ?_ | refine W.skip ?_ | refine W.exit ?_ | refine W.g ?_)
   refine W.ret ⟨.inr rfl, by rfl, ?_⟩
   simp only [Try.f16, resA, resOne, toT, fin, exb, Nat.reduceAdd, Nat.reduceLeDiff, Nat.reduceEqDiff, Nat.reduceMul, Int.reduceToNat, reduceIte, Int.reduceLE, Int.reduceNeg]
  ·refine W.cond rfl (fun h => absurd h (by simp; omega)) (fun _ => ?_)
   repeat (first | refine W.seq ?_ | refine W.block ?_ | refine W.skip ?_ | refine W.exit ?_ | refine W.g ?_)
   refine W.ret ⟨.inr rfl, by rfl, ?_⟩
   simp only [Try.f16, resA, resOne, toT, fin, exb, Nat.reduceAdd, Nat.reduceLeDiff, Nat.reduceEqDiff, Nat.reduceMul, Int.reduceToNat, reduceIte, Int.reduceLE, Int.reduceNeg]
   rfl
 ·rw [if_neg he]
  obtain ⟨e, hE⟩ : ∃ e, e = errN n l (ids ++ [to]) := ⟨_, rfl⟩
  rw [← hE] at he ⊢
  refine W.cond rfl (fun _ => ?_) (fun h => absurd h (by simp [he]))
  repeat (first | refine W.seq ?_ | refine W.block ?_ | refine W.skip ?_ | refine W.exit ?_ | refine W.g ?_)
  refine W.ret ⟨.inr rfl, by rfl, ?_⟩
  simp only [Try.f16, resA, resOne, toT, fin, exb, Nat.reduceAdd, Nat.reduceLeDiff, Nat.reduceEqDiff, Nat.reduceMul, Int.reduceToNat, reduceIte, Int.reduceLE, Int.reduceNeg]
end V
end Go.Proofs.Ytmhchhmhpoldhaa
end
section
namespace Go.Proofs.Ytmhchhmhpoldhaa
namespace V
open Go.RowKit G
def tabT : Tab := { tab with eff := fun f => if f = 24 then true else if f = 44 then true else tab.eff f }
namespace T
theorem tab_ok : tabT.Ok Try.prog := ⟨V.tab_ok.ty, V.tab_ok.zero, V.tab_ok.elem, V.tab_ok.off, V.tab_ok.bool, V.tab_ok.fields, V.tab_ok.bytes, V.tab_ok.nilk, V.tab_ok.int, V.tab_ok.map, V.tab_ok.str, V.tab_ok.one, V.tab_ok.seq⟩
theorem tabs : tabT.ty = tab.ty ∧ tabT.zero = tab.zero ∧ tabT.elem = tab.elem ∧ tabT.off = tab.off ∧ tabT.bool = tab.bool ∧ tabT.fields = tab.fields ∧ tabT.bytes = tab.bytes ∧ tabT.nilk = tab.nilk ∧ tabT.int = tab.int ∧ tabT.map = tab.map ∧ tabT.str = tab.str ∧ tabT.one = tab.one ∧ tabT.seq = tab.seq ∧ tabT.eff 24 = true ∧ tabT.eff 44 = true ∧ tabT.eff 21 = tab.eff 21 ∧ tabT.lit = tab.lit := ⟨rfl, rfl, rfl, rfl, rfl, rfl, rfl, rfl, rfl, rfl, rfl, rfl, rfl, rfl, rfl, rfl, rfl⟩
end T
def someP (L : List (List Nat)) : List (List Nat) := L.filter fun p => !p.isEmpty
theorem someP_snoc (L : List (List Nat)) (p : List Nat) : someP (L ++ [p]) = someP L ++ (if p = [] then [] else [p]) := by
 unfold someP
 rw [List.filter_append]
 cases p <;> simp
theorem someP_len (L : List (List Nat)) : (someP L).length ≤ L.length := List.length_filter_le _ _
set_option maxHeartbeats 4000000 in
theorem paths_ok (n : Nat) (l : List Q) (hc : chkS n l = true) (hlen : l.length ≤ 1000000) (hK : (allS n l).length ≤ 1000000) (src : List Nat) (hs : ∀ i ∈ src, i < n) (hsl : src.length ≤ 1000000) (es : List Nat) (he : ∀ i ∈ es, i < n) (hel : es.length ≤ 1000000) (m : Mem) :
  COk Try.prog 31 [.c (.int .i64 n), .c (.sl (l.map cS)), .c (.sl (src.map cN)), .c (.sl (es.map cN))] m (.c (.sl (rowsP (someP (es.map (pthO (allS n l) src)))))) := by
 have hn : n ≤ 100000 := by have := (natS_back hc).2.1; omega
 have hE := allS_lt hc
 have hst : ∀ m, COk Try.prog 23 [.c (.int .i64 n), .c (.sl (l.map cS))] m (.c (.sl ((allS n l).map cEd))) := fun m => steps_ok n l hc (by omega) m
 have htl : (turnL (allS n l)).length = (allS n l).length := by simp [turnL]
 obtain ⟨S, hS⟩ : ∃ S, S = allS n l := ⟨_, rfl⟩
 rw [← hS] at hK hE hst htl ⊢
 refine (ok_pure tab_ok Try.func31 (by kernel_rfl) rfl rfl (by rfl) (by rfl) (by rfl) (fun R hkeep => ?_) m)
 repeat (first | refine W.seq ?_ | refine W.block ?_ | refine W.skip ?_ | refine W.exit ?_ | refine W.g ?_)
 refine W.regionK tab_ok 0 (by decide) ?_
 refine xs0 2 ?_
 refine runk_call rfl rfl rfl rfl rfl (by simp) (cvs_cons cv_refl (cvs_cons cv_refl cvs_nil)) (hst _) ?_
 refine xe0 ?_
 (repeat (first | refine W.seq ?_ | refine W.block ?_ | refine W.skip ?_ | refine W.exit ?_))
 refine W.regionK tab_ok 0 (by decide) ?_
 refine xs0 2 ?_
 refine runk_call rfl rfl rfl rfl rfl (by simp) (cvs_cons cv_refl (cvs_cons cv_refl (cvs_cons cv_refl cvs_nil))) (headsF_ok n hn S hK hE _) ?_
 refine xs0 2 ?_
 refine runk_call rfl rfl rfl rfl rfl (by simp) (cvs_cons cv_refl (cvs_cons cv_refl (cvs_cons cv_refl cvs_nil))) (headsT_ok n hn S hK hE _) ?_
 refine xe0 ?_
 repeat (first | refine W.seq ?_ | refine W.block ?_ | refine W.skip ?_ | refine W.exit ?_ | refine W.g ?_)
 refine W.newArr 8 70 23 1 rfl rfl ?_
 refine W.loop (ι := Nat) (fun k => ⟨upd (upd (upd (upd (upd (upd (upd (upd (fun _ => .top) 0 (.c (.int .i64 n))) 2 (.c (.sl (src.map cN)))) 8 (.own 70)) 10 (.c (.sl (tabU S (2 * n))))) 11 (.c (.sl (tabU (turnL S) (2 * n))))) 24 (.c (.sl (es.map cN)))) 25 (.c (.int .i64 es.length))) 26 (.c (.int .i64 k)), upd Mem.nil 70 (some (.arr 23 1 (rowsP (someP ((es.take k).map (pthO S src))))))⟩) (fun k => k ≤ es.length) (fun k => es.length - k) 0 ?start (Nat.zero_le _) ?round
 case start =>
  refine le_L ?sle ?mle (kept_not hkeep)
  case mle => repeat (first | exact mle_nil _ | exact mle_refl _ | refine mle_upd ?_ (by first | rfl | (simp only [upd_app, killM_app, Nat.reduceEqDiff, reduceIte]; done)))
  case sle => repeat (first | exact sle_top _ | exact sle_refl _ | refine sle_upd ?_ zb9q36)
 case round =>
  intro k hk
  repeat (first | refine W.seq ?_ | refine W.block ?_ | refine W.skip ?_ | refine W.exit ?_ | refine W.g ?_)
  refine W.cond rfl ?_ ?_
  ·intro hlt
   simp only [decide_eq_true_eq, Int.ofNat_lt] at hlt
   obtain ⟨t, ht⟩ : ∃ x, es[k]? = some x := ⟨_, List.getElem?_eq_getElem hlt⟩
   have htn := he t (List.mem_of_getElem? ht)
   have htk : es.take (k + 1) = es.take k ++ [t] := by rw [List.take_add_one, ht]; rfl
   have w0 := wrap_two (x := t) (by omega)
   have w01 : IntKind.i64.wrap (((2 * t : Nat) : Int) + 1) = ((2 * t + 1 : Nat) : Int) := wrap_succ (by omega)
   have hT : ∀ j ∈ ends2 t, j < 2 * n := fun j hj => by have := mem_ends2.1 hj; omega
   have hsp := fun m => spread_ok n hn (turnL S) (by omega) (turn_lt hE) (ends2 t) hT (by simp [ends2]) m
   rw [turn_turn, show (ends2 t).map cN = [[.int .i64 ((2 * t : Nat) : Int)], [.int .i64 ((2 * t + 1 : Nat) : Int)]] from rfl] at hsp
   have hF := Ms.farF_le hE hT
   have hp := fun M id h1 h2 h3 h4 => path_ok (2 * n) (by omega) (by omega) S hK hE (ends2 t) (Ms.farF S (ends2 t)) hF (fun i _ v => Ms.farF_at) (ph1 src) (fun z hz => by obtain ⟨i, hi, rfl⟩ := List.mem_map.1 hz; have := hs i hi; omega) (by simp [ph1]; omega) M id h1 h2 h3 h4
   simp only [pathR_pth (N := 2 * n) (S := S) (t := t) (src := src) (fun i hi => by have := hs i hi; omega)] at hp
   repeat (first | refine W.seq ?_ | refine W.block ?_ | refine W.skip ?_ | refine W.exit ?_ | refine W.g ?_ zb9q18)
   refine W.regionK (T := tabT) T.tab_ok 0 (by decide) ?_
   refine runk_split 9 (by simp only [exb, Nat.reduceAdd, Nat.reduceLeDiff, Nat.reduceEqDiff, Nat.reduceMul, Int.reduceToNat, reduceIte, Int.reduceLE, Int.reduceNeg, T.tabs, w0, w01]; rfl) ?_
   refine runk_call rfl rfl rfl rfl rfl (by simp) (cvs_cons cv_refl (cvs_cons cv_refl (cvs_cons cv_refl cvs_nil))) (hsp _) ?_
   refine runk_split 1 zb9q21 ?_
   refine runk_callE (D := []) rfl rfl rfl rfl rfl (fun j hj => by simp at hj) (by simp) (cvs_cons cv_refl cvs_nil) (firsts_mut src (by omega) (fun i hi => by have := hs i hi; omega) _ 60 rfl) ?_
   simp only [killL, putS]
   refine runk_callE (D := [60]) rfl rfl rfl rfl rfl (fun j hj => by simp at hj; subst hj; exact nokeep hkeep) (by simp) (cvs_cons cv_refl (cvs_cons cv_refl (cvs_cons cv_refl cvs_nil))) (hp _ 60 (by omega) rfl ?kill (fun j hj => by simp only [upd_app, mem_nil_app]; rw [if_neg (by omega), if_neg (by omega)])) ?_
   case kill =>
    funext j
    simp only [killM_app, upd_app, mem_nil_app]
    split
    ·rfl
    ·split <;> rfl
   simp only [killL, putS]
   refine runk_exec zb9q21 ?_
   obtain ⟨p, hpe⟩ : ∃ p, p = pthO S src t := ⟨_, rfl⟩
   rw [← hpe]
   repeat (first | refine W.seq ?_ | refine W.block ?_ | refine W.skip ?_ | refine W.exit ?_ | refine W.g ?_ zb9q13)
   have hlen2 := someP_len ((es.take k).map (pthO S src))
   rw [List.length_map] at hlen2
   have hlt2 := List.length_take_le k es
   have hmap : (es.take (k + 1)).map (pthO S src) = (es.take k).map (pthO S src) ++ [p] := by rw [htk, List.map_append, hpe]; rfl
   rcases p with _ | ⟨x, p⟩
   ·refine W.cond rfl (fun h => absurd h (by simp)) (fun _ => ?_)
    repeat (first | refine W.seq ?_ | refine W.block ?_ | refine W.skip ?_ | refine W.exit ?_ | refine W.g ?_)
    refine ⟨k + 1, hlt, by omega, ?_⟩
    rw [hmap, someP_snoc, if_pos rfl, List.append_nil]
    refine le_L ?sle ?mle (kept_not hkeep)
    case mle => repeat (first | exact mle_nil _ | exact mle_refl _ | refine mle_upd ?_ zb9q28)
    case sle => repeat (first | exact sle_top _ | exact sle_refl _ | refine sle_upd ?_ zb9q23)
   ·refine W.cond rfl (fun _ => ?_) (fun h => absurd h (by simp <;> omega))
    (repeat (first | refine W.seq ?_ | refine W.block ?_ | refine W.skip ?_ | refine W.exit ?_))
    refine W.regionK tab_ok 0 (by decide) ?_
    refine xs0 3 ?_
    refine runk_append tab_ok 70 rfl rfl rfl rfl rfl rfl rfl rfl zb9q16 rfl rfl rfl rfl (nokeep hkeep) (fun z hz => by simp at hz; subst hz; rfl) (by simp only [rowsP_len, List.length_map, List.length_cons, List.length_nil]; omega) (by decide) ?_
    refine xe0 ?_
    repeat (first | refine W.seq ?_ | refine W.block ?_ | refine W.skip ?_ | refine W.exit ?_ | refine W.g ?_)
    refine ⟨k + 1, hlt, by omega, ?_⟩
    have hpush : rowsP (someP ((es.take (k + 1)).map (pthO S src))) = rowsP (someP ((es.take k).map (pthO S src))) ++ [[.sl ((x :: p).map cN)]] := by rw [hmap, someP_snoc, if_neg (by simp)]; simp [rowsP]
    rw [hpush]
    refine le_L ?sle ?mle (kept_not hkeep)
    case mle => repeat (first | exact mle_nil _ | exact mle_refl _ | refine mle_upd ?_ (by first | rfl | (simp only [upd_app, killM_app, Nat.reduceEqDiff, reduceIte, wrap_succ (show k + 1 < 9223372036854775808 by omega), O.kill]; done)))
    case sle => repeat (first | exact sle_top _ | exact sle_refl _ | refine sle_upd ?_ (by first | rfl | (simp only [upd_app, entry_zero, entry_succ, Nat.reduceEqDiff, reduceIte, wrap_succ (show k + 1 < 9223372036854775808 by omega), O.kill]; done)))
  ·intro hge
   simp only [decide_eq_false_iff_not, Int.ofNat_lt] at hge
   obtain rfl : k = es.length := by omega
   rw [List.take_length]
   repeat (first | refine W.seq ?_ | refine W.block ?_ | refine W.skip ?_ | refine W.exit ?_ | refine W.g ?_)
   refine W.ret ⟨.inr rfl, by rfl, ?_⟩
   simp only [Try.f31, resA, resOne, toT, fin, exb, Nat.reduceAdd, Nat.reduceLeDiff, Nat.reduceEqDiff, Nat.reduceMul, Int.reduceToNat, reduceIte, Int.reduceLE, Int.reduceNeg]
set_option maxRecDepth 100000 in
theorem cloneI_mut (rows : List (List C)) (hrow : ∀ x ∈ rows, x.length = 1) (hbig : rows.length * 8 ≤ 140737488355328) (M : Mem) (id : Nat) (hid : M id = none) : CallE Try.prog 30 [.c (.sl rows)] M [] (.own id) (upd M id (some (.mrow 3 1 rows))) :=
 clone_mut Try.laysClone30 ⟨_, _, rfl, rfl, rfl, rfl, rfl⟩ (by decide) (enters_of Try.func30 (by kernel_rfl) rfl) rows hrow hbig M id hid
set_option maxHeartbeats 4000000 in
theorem pathZ_ok (n : Int) (l : List Q) (ids : List Int) (to : Int) (hs : Small n l) (hi : ids.length ≤ 1000000) (m : Mem) :
  COk Try.prog 15 [.c (.int .i64 n), .c (.sl (l.map cS)), .c (.sl (ids.map cZ)), .c (.int .i64 to)] m (.tup [(false, [.sl ((pathO n l ids to).1.map cN)]), (false, [.int .i64 (pathO n l ids to).2])]) := by
 have hf := fun m => fcheck_ok n l (ids ++ [to]) (by have := hs.1; omega) (by simp; omega) m
 rw [cZ_app] at hf
 refine (ok_pure tab_ok Try.func15 (by kernel_rfl) rfl rfl (by rfl) (by rfl) (by rfl) (fun R hkeep => ?_) m)
 repeat (first | refine W.seq ?_ | refine W.block ?_ | refine W.skip ?_ | refine W.exit ?_ | refine W.g ?_)
 refine W.regionK tab_ok 0 (by decide) ?_
 refine xs0 3 ?_
 refine runk_callE (D := []) rfl rfl rfl rfl rfl (fun j hj => by simp at hj) (by simp) (cvs_cons cv_refl cvs_nil) (cloneI_mut (ids.map cZ) (fun z hz => by obtain ⟨y, -, rfl⟩ := List.mem_map.1 hz; rfl) (by rw [List.length_map]; omega) _ 90 rfl) ?_
 simp only [killL, putS, upd_upd]
 refine xs0 2 ?_
 refine runk_appendM tab_ok 90 rfl rfl rfl rfl rfl rfl zb9q26 zb9q25 zb9q16 rfl rfl rfl rfl (nokeep hkeep) (fun z hz => by simp at hz; subst hz; rfl) zb9q38 (by decide) ?_
 refine xs0 0 ?_
 refine runk_callR rfl rfl rfl rfl rfl (by simp) (cvrs_cons cvr_refl (cvrs_cons cvr_refl (cvrs_cons (cvr_row rfl) cvrs_nil))) (by rfl) (by rfl) hf ?_
 refine xe0 ?_
 repeat (first | refine W.seq ?_ | refine W.block ?_ | refine W.skip ?_ | refine W.exit ?_ | refine W.g ?_)
 unfold pathO
 by_cases he : errN n l (ids ++ [to]) = 0
 ·rw [if_pos he]
  obtain ⟨hc, hz⟩ := errN_good he
  obtain ⟨k, rfl⟩ := good_n hc
  have h1 := hs.2 hc
  have hzi : ∀ z ∈ ids, 0 ≤ z ∧ z < (k : Int) := fun z h => hz z (List.mem_append_left _ h)
  have h2 := natI_lt hzi
  obtain ⟨ht0, ht1⟩ := hz to (by simp)
  obtain ⟨t, rfl⟩ : ∃ t : Nat, to = (t : Int) := ⟨to.toNat, by omega⟩
  have htk : t < k := by omega
  rw [cZ_natI fun z h => (hzi z h).1]
  rw [Int.toNat_natCast] at h1 h2
  simp only [Int.toNat_natCast]
  obtain ⟨src, hsrc⟩ : ∃ src, src = natI ids := ⟨_, rfl⟩
  have hsl : src.length ≤ 1000000 := by rw [hsrc]; simp [natI]; omega
  rw [← hsrc] at h2 ⊢
  have hp := fun m => paths_ok k l hc (by have := hs.1; omega) h1.1 src h2 hsl [t] (by simp; exact htk) (by simp) m
  obtain ⟨p, hpe⟩ : ∃ p, p = pthO (allS k l) src t := ⟨_, rfl⟩
  simp only [List.map_cons, List.map_nil, cN] at hp
  rw [← hpe] at hp ⊢
  refine W.cond rfl (fun h => absurd h (by simp [he])) (fun _ => ?_)
  (repeat (first | refine W.seq ?_ | refine W.block ?_ | refine W.skip ?_ | refine W.exit ?_))
  refine W.regionK tab_ok 0 (by decide) ?_
  refine xs0 5 ?_
  refine runk_call rfl rfl rfl rfl rfl (by simp) (cvs_cons cv_refl (cvs_cons cv_refl (cvs_cons cv_refl (cvs_cons cv_refl cvs_nil)))) (hp _) ?_
  refine xe0 ?_
  (repeat (first | refine W.seq ?_ | refine W.block ?_ | refine W.skip ?_ | refine W.exit ?_))
  rcases p with _ | ⟨x, p⟩
  ·refine W.loop (ι := Unit) (fun _ => ⟨upd (upd (fun _ => .top) 30 (.c (.int .i64 0))) 31 (.c (.int .i64 0)), Mem.nil⟩) (fun _ => True) (fun _ => 0) () ?start trivial ?round
   case start =>
    refine le_L ?sle ?mle (kept_not hkeep)
    case mle => repeat (first | exact mle_nil _ | exact mle_refl _ | refine mle_upd ?_ zb9q35)
    case sle => repeat (first | exact sle_top _ | exact sle_refl _ | refine sle_upd ?_ zb9q33)
   case round =>
    intro _ _
    repeat (first | refine W.seq ?_ | refine W.block ?_ | refine W.skip ?_ | refine W.exit ?_ | refine W.g ?_ zb9q19)
    refine W.cond rfl (fun h => absurd h (by simp)) (fun _ => ?_)
    repeat (first | refine W.seq ?_ | refine W.block ?_ | refine W.skip ?_ | refine W.exit ?_ | refine W.g ?_)
    refine W.ret ⟨.inr rfl, by rfl, ?_⟩
    simp only [Try.f15, resA, resOne, toT, fin, exb, Nat.reduceAdd, Nat.reduceLeDiff, Nat.reduceEqDiff, Nat.reduceMul, Int.reduceToNat, reduceIte, Int.reduceLE, Int.reduceNeg]
  ·refine W.loop (ι := Unit) (fun _ => ⟨upd (upd (upd (fun _ => .top) 29 (.c (.sl [[.sl ((x :: p).map cN)]]))) 30 (.c (.int .i64 1))) 31 (.c (.int .i64 0)), Mem.nil⟩) (fun _ => True) (fun _ => 0) () ?startB trivial ?roundB
   case startB =>
    refine le_L ?sle ?mle (kept_not hkeep)
    case mle => repeat (first | exact mle_nil _ | exact mle_refl _ | refine mle_upd ?_ zb9q35)
    case sle => repeat (first | exact sle_top _ | exact sle_refl _ | refine sle_upd ?_ zb9q33)
   case roundB =>
    intro _ _
    repeat (first | refine W.seq ?_ | refine W.block ?_ | refine W.skip ?_ | refine W.exit ?_ | refine W.g ?_ zb9q19)
    refine W.cond rfl (fun _ => ?_) (fun h => absurd h (by simp))
    repeat (first | refine W.seq ?_ | refine W.block ?_ | refine W.skip ?_ | refine W.exit ?_ | refine W.g ?_)
    refine W.ret ⟨.inr rfl, by rfl, ?_⟩
    simp only [Try.f15, resA, resOne, toT, fin, exb, Nat.reduceAdd, Nat.reduceLeDiff, Nat.reduceEqDiff, Nat.reduceMul, Int.reduceToNat, reduceIte, Int.reduceLE, Int.reduceNeg]
    rfl
 ·rw [if_neg he]
  obtain ⟨e, hE⟩ : ∃ e, e = errN n l (ids ++ [to]) := ⟨_, rfl⟩
  rw [← hE] at he ⊢
  refine W.cond rfl (fun _ => ?_) (fun h => absurd h (by simp [he]))
  repeat (first | refine W.seq ?_ | refine W.block ?_ | refine W.skip ?_ | refine W.exit ?_ | refine W.g ?_)
  refine W.ret ⟨.inr rfl, by rfl, ?_⟩
  simp only [Try.f15, resA, resOne, toT, fin, exb, Nat.reduceAdd, Nat.reduceLeDiff, Nat.reduceEqDiff, Nat.reduceMul, Int.reduceToNat, reduceIte, Int.reduceLE, Int.reduceNeg]
end V
end Go.Proofs.Ytmhchhmhpoldhaa
end
section
namespace Go.Proofs.Ytmhchhmhpoldhaa
namespace V
open Go.RowKit G
def nowI (S : List (Nat × Nat)) (P : Nat → Prop) (r : List Int) (now : List Nat) : Prop := now.Nodup ∧ ∀ j, j ∈ now ↔ vSet S r P j
end V
end Go.Proofs.Ytmhchhmhpoldhaa
end
section
namespace Go.Proofs.Ytmhchhmhpoldhaa
namespace V
open Go.RowKit G
def vbS (k : Int) (acc : List Nat) (j : Nat) : List Nat := if ((j / 2 : Nat) : Int) = k ∧ ¬ j ∈ acc then acc ++ [j] else acc
def vb (k : Int) (L : List Nat) : List Nat := L.foldl (vbS k) []
theorem vb_snoc (k : Int) (L : List Nat) (j : Nat) : vb k (L ++ [j]) = vbS k (vb k L) j := by rw [vb, List.foldl_append]; rfl
theorem vb_spec (k : Int) (L : List Nat) : (vb k L).Nodup ∧ ∀ j, j ∈ vb k L ↔ j ∈ L ∧ ((j / 2 : Nat) : Int) = k := by
 induction L using snocN with
 | h0 => exact ⟨by simp [vb], fun j => by simp [vb]⟩
 | h1 L x ih =>
  obtain ⟨h1, h2⟩ := ih
  rw [vb_snoc]
  unfold vbS
  by_cases c : ((x / 2 : Nat) : Int) = k ∧ ¬ x ∈ vb k L
  ·rw [if_pos c]
   refine ⟨List.nodup_append.2 ⟨h1, by simp, fun a ha b hb e => ?_⟩, fun j => ?_⟩
   ·simp at hb; subst hb; subst e; exact c.2 ha
   ·simp only [List.mem_append, List.mem_singleton, h2]
    constructor
    ·rintro (⟨a, b⟩ | rfl)
     ·exact ⟨.inl a, b⟩
     ·exact ⟨.inr rfl, c.1⟩
    ·rintro ⟨a | a, b⟩
     ·exact .inl ⟨a, b⟩
     ·exact .inr a
  ·rw [if_neg c]
   refine ⟨h1, fun j => ?_⟩
   rw [h2, List.mem_append, List.mem_singleton]
   constructor
   ·rintro ⟨a, b⟩; exact ⟨.inl a, b⟩
   ·rintro ⟨a | rfl, b⟩
    ·exact ⟨a, b⟩
    ·have : j ∈ vb k L := Classical.byContradiction fun q => c ⟨b, q⟩
     exact (h2 j).1 this
theorem nowI_next {S : List (Nat × Nat)} {P : Nat → Prop} {r : List Int} {k : Int} {now : List Nat} (h : nowI S P r now) : nowI S P (r ++ [k]) (vb k (onw S now)) := by
 obtain ⟨v1, v2⟩ := vb_spec k (onw S now)
 refine ⟨v1, fun j => ?_⟩
 rw [v2, vSet_snoc, mem_onw]
 constructor
 ·rintro ⟨⟨i, h1, h2⟩, h3⟩; exact ⟨h3, i, (h.2 i).1 h1, h2⟩
 ·rintro ⟨h3, i, h1, h2⟩; exact ⟨⟨i, (h.2 i).2 h1, h2⟩, h3⟩
open Classical in
noncomputable def validO (n : Int) (l : List Q) (ids path : List Int) : Bool := decide (errN n l ids = 0 ∧ ValidF (allS n.toNat l) (natI ids) path)
def putY (y : Bool × Bool × Bool) (p : Nat) : Bool × Bool × Bool := (if p = 0 then true else y.1, if p = 1 then true else y.2.1, if p = 2 then true else y.2.2)
def phS (x : Bool) (k p : Nat) (y : Bool × Bool × Bool) : Bool × Bool × Bool := if x = true then putY y (aft k p) else y
def yS (a b : Int) (x1 x2 : Bool) (y : Bool × Bool × Bool) (e : SE) : Bool × Bool × Bool := if (e.f : Int) = a ∧ (e.t : Int) = b then phS x2 e.k 2 (phS x1 e.k 1 y) else y
def yA (a b : Int) (x1 x2 : Bool) (E : List SE) : Bool × Bool × Bool := E.foldl (yS a b x1 x2) (false, false, false)
theorem yA_snoc (a b : Int) (x1 x2 : Bool) (E : List SE) (e : SE) : yA a b x1 x2 (E ++ [e]) = yS a b x1 x2 (yA a b x1 x2 E) e := by rw [yA, List.foldl_append]; rfl
def yP (a b : Int) (x1 x2 : Bool) (E : List SE) (p : Nat) : Prop := ∃ e ∈ E, ((e.f : Int) = a ∧ (e.t : Int) = b) ∧ ((x1 = true ∧ aft e.k 1 = p) ∨ (x2 = true ∧ aft e.k 2 = p))
theorem yA_spec (a b : Int) (x1 x2 : Bool) (E : List SE) : ((yA a b x1 x2 E).2.1 = true ↔ yP a b x1 x2 E 1) ∧ ((yA a b x1 x2 E).2.2 = true ↔ yP a b x1 x2 E 2) := by
 have snocE : ∀ {p : List SE → Prop}, p [] → (∀ l x, p l → p (l ++ [x])) → ∀ l, p l := fun {p} h0 h1 l => by
  rw [← List.reverse_reverse l]
  induction l.reverse with
  | nil => exact h0
  | cons x r ih => rw [List.reverse_cons]; exact h1 _ _ ih
 refine snocE (p := fun E => ((yA a b x1 x2 E).2.1 = true ↔ yP a b x1 x2 E 1) ∧ ((yA a b x1 x2 E).2.2 = true ↔ yP a b x1 x2 E 2)) ?_ ?_ E
 ·simp [yA, yP]
 ·intro L e ih
  have hP : ∀ p, yP a b x1 x2 (L ++ [e]) p ↔ yP a b x1 x2 L p ∨ (((e.f : Int) = a ∧ (e.t : Int) = b) ∧ ((x1 = true ∧ aft e.k 1 = p) ∨ (x2 = true ∧ aft e.k 2 = p))) := fun p => by
   unfold yP
   constructor
   ·rintro ⟨d, hd, h⟩
    rcases List.mem_append.1 hd with hd | hd
    ·exact .inl ⟨d, hd, h⟩
    ·simp at hd; subst hd; exact .inr h
   ·rintro (⟨d, hd, h⟩ | h)
    ·exact ⟨d, List.mem_append_left _ hd, h⟩
    ·exact ⟨e, by simp, h⟩
  rw [yA_snoc, hP, hP, ← ih.1, ← ih.2]
  obtain ⟨y0, y1, y2⟩ := yA a b x1 x2 L
  unfold yS
  by_cases c : (e.f : Int) = a ∧ (e.t : Int) = b
  ·rw [if_pos c]
   simp only [c, true_and, and_self]
   simp only [phS, putY]
   generalize aft e.k 1 = u
   generalize aft e.k 2 = v
   by_cases u1 : u = 1 <;> by_cases u2 : u = 2 <;> by_cases v1 : v = 1 <;> by_cases v2 : v = 2 <;> cases x1 <;> cases x2 <;> cases y1 <;> cases y2 <;> simp [u1, u2, v1, v2]
  ·rw [if_neg c]
   simp [c]
theorem mem_stp {E : List SE} {i j : Nat} : (i, j) ∈ stp E ↔ ∃ e ∈ E, (i = 2 * e.f ∧ aft e.k 1 ≠ 0 ∧ j = 2 * e.t + (aft e.k 1 - 1)) ∨ (i = 2 * e.f + 1 ∧ aft e.k 2 ≠ 0 ∧ j = 2 * e.t + (aft e.k 2 - 1)) := by
 unfold stp
 rw [List.mem_flatMap]
 have key : ∀ e : SE, (i, j) ∈ stepE e ↔ (i = 2 * e.f ∧ aft e.k 1 ≠ 0 ∧ j = 2 * e.t + (aft e.k 1 - 1)) ∨ (i = 2 * e.f + 1 ∧ aft e.k 2 ≠ 0 ∧ j = 2 * e.t + (aft e.k 2 - 1)) := fun e => by
  rw [← stepsTo_two, stepsTo_succ, stepsTo_succ]
  simp only [stepsTo, List.range_zero, List.flatMap_nil, List.nil_append, List.mem_append]
  unfold stepP
  by_cases h1 : aft e.k 1 = 0 <;> by_cases h2 : aft e.k 2 = 0 <;> simp [h1, h2]
 constructor
 ·rintro ⟨e, he, h⟩; exact ⟨e, he, (key e).1 h⟩
 ·rintro ⟨e, he, h⟩; exact ⟨e, he, (key e).2 h⟩
theorem flg_next {E : List SE} {P : Nat → Prop} {r : List Int} {a b : Int} (ha : ∀ j, vSet (stp E) r P j → ((j / 2 : Nat) : Int) = a) {x1 x2 : Bool} (h1 : x1 = true ↔ ∃ j, vSet (stp E) r P j ∧ (j : Int) = 2 * a) (h2 : x2 = true ↔ ∃ j, vSet (stp E) r P j ∧ (j : Int) = 2 * a + 1) (p : Nat) (hp : p = 1 ∨ p = 2) :
  yP a b x1 x2 E p ↔ ∃ j, vSet (stp E) (r ++ [b]) P j ∧ (j : Int) = 2 * b + ((p : Int) - 1) := by
 unfold yP
 constructor
 ·rintro ⟨e, he, ⟨ea, eb⟩, ⟨hx, hf⟩ | ⟨hx, hf⟩⟩
  ·obtain ⟨i, i1, i2⟩ := h1.1 hx
   refine ⟨2 * e.t + (p - 1), (vSet_snoc r b P _).2 ⟨by omega, i, i1, mem_stp.2 ⟨e, he, .inl ⟨by omega, by omega, by rw [hf]⟩⟩⟩, by omega⟩
  ·obtain ⟨i, i1, i2⟩ := h2.1 hx
   refine ⟨2 * e.t + (p - 1), (vSet_snoc r b P _).2 ⟨by omega, i, i1, mem_stp.2 ⟨e, he, .inr ⟨by omega, by omega, by rw [hf]⟩⟩⟩, by omega⟩
 ·rintro ⟨j, hj, ej⟩
  obtain ⟨q, i, i1, i2⟩ := (vSet_snoc r b P j).1 hj
  have hia := ha i i1
  obtain ⟨e, he, h⟩ := mem_stp.1 i2
  have l1 := aft_le e.k 1 (by omega)
  have l2 := aft_le e.k 2 (by omega)
  rcases h with ⟨e1, e2, e3⟩ | ⟨e1, e2, e3⟩
  ·exact ⟨e, he, ⟨by omega, by omega⟩, .inl ⟨h1.2 ⟨i, i1, by omega⟩, by omega⟩⟩
  ·exact ⟨e, he, ⟨by omega, by omega⟩, .inr ⟨h2.2 ⟨i, i1, by omega⟩, by omega⟩⟩
end V
end Go.Proofs.Ytmhchhmhpoldhaa
end
section
namespace Go.Proofs.Ytmhchhmhpoldhaa
namespace V
open Go.RowKit G
theorem mem_zN {j : Nat} {l : List Nat} : (j : Int) ∈ zN l ↔ j ∈ l := by
 unfold zN
 rw [List.mem_map]
 constructor
 ·rintro ⟨x, hx, e⟩; have : x = j := by omega
  subst this; exact hx
 ·intro h; exact ⟨j, h, rfl⟩
open Classical in
theorem validO_iff {n : Int} {l : List Q} {ids path : List Int} : validO n l ids path = true ↔ errN n l ids = 0 ∧ ValidF (allS n.toNat l) (natI ids) path := by unfold validO; exact decide_eq_true_iff
set_option maxHeartbeats 8000000 in
theorem validZ_ok (n : Int) (l : List Q) (ids path : List Int) (hs : Small n l) (hi : ids.length ≤ 1000000) (hp : path.length ≤ 1000000) (m : Mem) :
  COk Try.prog 17 [.c (.int .i64 n), .c (.sl (l.map cS)), .c (.sl (ids.map cZ)), .c (.sl (path.map cZ))] m (.c (.bool (validO n l ids path))) := by
 have hf := fun m => fcheck_ok n l ids (by have := hs.1; omega) (by omega) m
 refine (ok_pure tab_ok Try.func17 (by kernel_rfl) rfl rfl (by rfl) (by rfl) (by rfl) (fun R hkeep => ?_) m)
 (repeat (first | refine W.seq ?_ | refine W.block ?_ | refine W.skip ?_ | refine W.exit ?_))
 refine W.g ?_
 (repeat (first | refine W.seq ?_ | refine W.block ?_ | refine W.skip ?_ | refine W.exit ?_))
 refine W.regionK tab_ok 0 (by decide) ?_
 refine xs0 3 ?_
 refine runk_call rfl rfl rfl rfl rfl (by simp) (cvs_cons cv_refl (cvs_cons cv_refl (cvs_cons cv_refl cvs_nil))) (hf _) ?_
 by_cases he : errN n l ids = 0
 rotate_left
 ·have p0 := eq_false he
  have hv : validO n l ids path = false := by unfold validO; simp [he]
  rw [hv]
  refine runk_exec zb9q5 ?_
  refine W.cond rfl (fun _ => ?_) (fun h => absurd h (by simp))
  repeat (first | refine W.seq ?_ | refine W.block ?_ | refine W.skip ?_ | refine W.exit ?_ | refine W.g ?_)
  refine W.ret ⟨.inr rfl, by rfl, ?_⟩
  simp only [Try.f17, resA, resOne, toT, fin, exb, Nat.reduceAdd, Nat.reduceLeDiff, Nat.reduceEqDiff, Nat.reduceMul, Int.reduceToNat, reduceIte, Int.reduceLE, Int.reduceNeg]
 rcases path with _ | ⟨p, r⟩
 ·have hv : validO n l ids [] = false := by unfold validO; simp [ValidF]
  have z0 : (((0 : Nat) : Int) = 0) = True := eq_true rfl
  rw [hv]
  refine runk_exec zb9q1 ?_
  refine W.cond rfl (fun _ => ?_) (fun h => absurd h (by simp))
  repeat (first | refine W.seq ?_ | refine W.block ?_ | refine W.skip ?_ | refine W.exit ?_ | refine W.g ?_)
  refine W.ret ⟨.inr rfl, by rfl, ?_⟩
  simp only [Try.f17, resA, resOne, toT, fin, exb, Nat.reduceAdd, Nat.reduceLeDiff, Nat.reduceEqDiff, Nat.reduceMul, Int.reduceToNat, reduceIte, Int.reduceLE, Int.reduceNeg]
 obtain ⟨hc, hz⟩ := errN_good he
 obtain ⟨Lp, hLp⟩ : ∃ Lp, Lp = (p :: r).map cZ := ⟨_, rfl⟩
 have hat : Lp[0]? = some [.int .i64 p] := by rw [hLp]; rfl
 have hll : Lp.length = r.length + 1 := by rw [hLp]; simp
 have hl0 : (((r.length + 1 : Nat) : Int) = 0) = False := eq_false (by omega)
 have hl1 : (0 < r.length + 1) = True := eq_true (by omega)
 have hcon := fun m => containsI_ok ids p (by omega) m
 rw [← hLp]
 refine runk_split 11 (by simp only [exb, Nat.reduceAdd, Nat.reduceLeDiff, Nat.reduceEqDiff, Nat.reduceMul, Int.reduceToNat, reduceIte, Int.reduceLE, Int.reduceNeg, he, eq_self, decide_true, Bool.not_true, hll, hl0, hl1, hat, Int.toNat_zero]; rfl) ?_
 refine runk_call rfl rfl rfl rfl rfl (by simp) (cvs_cons cv_refl (cvs_cons cv_refl cvs_nil)) (hcon _) ?_
 by_cases hm : p ∈ ids
 rotate_left
 ·have hv : validO n l ids (p :: r) = false := by
   refine Bool.eq_false_iff.2 fun h => hm ?_
   obtain ⟨-, a, ha, e, -⟩ := validO_iff.1 h
   obtain ⟨z, hzm, rfl⟩ := List.mem_map.1 ha
   have := hz z hzm
   rw [← e, show ((z.toNat : Nat) : Int) = z by omega]
   exact hzm
  have p0 := eq_false hm
  rw [hv]
  refine runk_exec zb9q5 ?_
  refine W.cond rfl (fun _ => ?_) (fun h => absurd h (by simp))
  repeat (first | refine W.seq ?_ | refine W.block ?_ | refine W.skip ?_ | refine W.exit ?_ | refine W.g ?_)
  refine W.ret ⟨.inr rfl, by rfl, ?_⟩
  simp only [Try.f17, resA, resOne, toT, fin, exb, Nat.reduceAdd, Nat.reduceLeDiff, Nat.reduceEqDiff, Nat.reduceMul, Int.reduceToNat, reduceIte, Int.reduceLE, Int.reduceNeg]
 have p0 := eq_true hm
 refine runk_exec zb9q7 ?_
 refine W.cond rfl (fun h => absurd h (by simp)) (fun _ => ?_)
 obtain ⟨n, rfl⟩ := good_n hc
 have hp0 := hz p hm
 obtain ⟨a, rfl⟩ : ∃ a : Nat, p = (a : Int) := ⟨p.toNat, by omega⟩
 have han : a < n := by omega
 have hn : n ≤ 100000 := by have := (natS_back hc).2.1; omega
 have hE := allS_lt hc
 have h1 := (hs.2 hc).1
 rw [Int.toNat_natCast] at h1
 have hst : ∀ m, COk Try.prog 23 [.c (.int .i64 n), .c (.sl (l.map cS))] m (.c (.sl ((allS n l).map cEd))) := fun m => steps_ok n l hc (by have := hs.1; omega) m
 have hv : ∀ b : Bool, (b = true ↔ ∃ j, vSet (allS n l) r (fun i => i = 2 * a) j) → validO (n : Int) l ids ((a : Int) :: r) = b := fun b hb => by
  rw [Bool.eq_iff_iff, hb, validO_iff, Int.toNat_natCast]
  constructor
  ·rintro ⟨-, a', -, e, h⟩
   have : a' = a := by omega
   subst this; exact h
  ·intro h
   exact ⟨he, a, List.mem_map.2 ⟨(a : Int), hm, by omega⟩, rfl, h⟩
 have w0 := wrap_two (x := a) (by omega)
 obtain ⟨S, hS⟩ : ∃ S, S = allS n l := ⟨_, rfl⟩
 rw [← hS] at hst hE h1 hv
 obtain ⟨N, hN⟩ : ∃ N, N = 2 * n := ⟨_, rfl⟩
 have hhd := fun m => headsF_ok n hn S h1 hE m
 rw [← hN] at hE hhd
 (repeat (first | refine W.seq ?_ | refine W.block ?_ | refine W.skip ?_ | refine W.exit ?_))
 refine W.regionK tab_ok 0 (by decide) ?_
 refine xs0 3 ?_
 refine runk_call rfl rfl rfl rfl rfl (by simp) (cvs_cons cv_refl (cvs_cons cv_refl cvs_nil)) (hst _) ?_
 refine xs0 0 ?_
 refine runk_call rfl rfl rfl rfl rfl (by simp) (cvs_cons cv_refl (cvs_cons cv_refl (cvs_cons cv_refl cvs_nil))) (hhd _) ?_
 refine xe0 ?_
 have sl1 : (1 ≤ r.length + 1) = True := eq_true (by omega)
 have sl2 : (∀ x ∈ Lp, x.length = 1) = True := eq_true (by rw [hLp]; intro x hx; obtain ⟨y, -, rfl⟩ := List.mem_map.1 hx; rfl)
 have sl3 : List.drop 1 (List.take (r.length + 1) Lp) = r.map cZ := by rw [hLp, List.map_cons, List.take_succ_cons, List.drop_one, List.tail_cons, List.take_of_length_le (by simp)]
 have sl4 : (r.length + 1 ≤ r.length + 1) = True := eq_true (Nat.le_refl _)
 (repeat (first | refine W.seq ?_ | refine W.block ?_ | refine W.skip ?_ | refine W.exit ?_))
 refine W.g ?_ (by simp only [exb, Nat.reduceAdd, Nat.reduceLeDiff, Nat.reduceEqDiff, Nat.reduceMul, Int.reduceToNat, reduceIte, Int.reduceLE, Int.reduceNeg, hll, hl1, hat, Int.toNat_zero, w0]; rfl)
 (repeat (first | refine W.seq ?_ | refine W.block ?_ | refine W.skip ?_ | refine W.exit ?_))
 refine W.g ?_ (by simp only [exb, Nat.reduceAdd, Nat.reduceLeDiff, Nat.reduceEqDiff, Nat.reduceMul, Int.reduceToNat, reduceIte, Int.reduceLE, Int.reduceNeg, hll, sl1, sl2, sl3, sl4, and_self, or_true, Nat.reduceEqDiff, List.length_map]; rfl)
 (repeat (first | refine W.seq ?_ | refine W.block ?_ | refine W.skip ?_ | refine W.exit ?_))
 have n0 : nowI S (fun i => i = 2 * a) (r.take 0) [2 * a] := ⟨by simp, fun j => by simp [vSet]⟩
 refine W.loop (ι := Nat × List Nat) (fun x => ⟨upd (upd (upd (upd (upd (fun _ => .top) 9 (.c (.sl (tabU S N)))) 10 (.c (.sl ((x.2).map cN)))) 47 (.c (.sl (r.map cZ)))) 48 (.c (.int .i64 r.length))) 49 (.c (.int .i64 (x.1 : Nat))), Mem.nil⟩) (fun x => x.1 ≤ r.length ∧ nowI S (fun i => i = 2 * a) (r.take x.1) x.2 ∧ ∀ j ∈ x.2, j < N) (fun x => r.length - x.1) (0, [2 * a]) ?start ⟨Nat.zero_le _, n0, fun j hj => by simp at hj; omega⟩ ?round
 case start =>
  refine le_L ?sle ?mle (kept_not hkeep)
  case mle => repeat (first | exact mle_nil _ | exact mle_refl _ | refine mle_upd ?_ (by first | rfl | (simp only [upd_app, killM_app, Nat.reduceEqDiff, reduceIte, cN, List.map_cons, List.map_nil]; done)))
  case sle => repeat (first | exact sle_top _ | exact sle_refl _ | refine sle_upd ?_ (by first | rfl | (simp only [upd_app, entry_zero, entry_succ, Nat.reduceEqDiff, reduceIte, cN, List.map_cons, List.map_nil]; done)))
 case round =>
  rintro ⟨i, now⟩ ⟨hir, hnow, hnN⟩
  simp only at hir hnow hnN
  have hnl := nodup_lt_len hnow.1 hnN
  have hpl : r.length ≤ 1000000 := by simp only [List.length_cons] at hp; omega
  repeat (first | refine W.seq ?_ | refine W.block ?_ | refine W.skip ?_ | refine W.exit ?_ | refine W.g ?_)
  refine W.cond rfl ?_ ?_
  ·intro hlt
   simp only [decide_eq_true_eq, Int.ofNat_lt] at hlt
   obtain ⟨k, hk⟩ : ∃ x, r[i]? = some x := ⟨_, List.getElem?_eq_getElem hlt⟩
   have htk : r.take (i + 1) = r.take i ++ [k] := by rw [List.take_add_one, hk]; rfl
   repeat (first | refine W.seq ?_ | refine W.block ?_ | refine W.skip ?_ | refine W.exit ?_ | refine W.g ?_ (by simp only [exb, Nat.reduceAdd, Nat.reduceLeDiff, Nat.reduceEqDiff, Nat.reduceMul, Int.reduceToNat, reduceIte, Int.reduceLE, Int.reduceNeg, at_map hk, cZ, List.length_map]; rfl))
   refine W.newArr 13 100 3 1 rfl rfl ?_
   refine W.loop (ι := Nat) (fun iu => ⟨upd (upd (upd (upd (upd (upd (upd (upd (upd (upd (fun _ => .top) 9 (.c (.sl (tabU S N)))) 10 (.c (.sl ((now).map cN)))) 47 (.c (.sl (r.map cZ)))) 48 (.c (.int .i64 r.length))) 49 (.c (.int .i64 (i : Nat)))) 12 (.c (.int .i64 k))) 13 (.own 100)) 53 (.c (.sl (now.map cN)))) 54 (.c (.int .i64 now.length))) 55 (.c (.int .i64 (iu : Nat))), upd Mem.nil 100 (some (.arr 3 1 ((vb k (onw S (now.take iu))).map cN)))⟩) (fun iu => iu ≤ now.length) (fun iu => now.length - iu) 0 ?start2 (Nat.zero_le _) ?round2
   case start2 =>
    refine le_L ?sle ?mle (kept_not hkeep)
    case mle => repeat (first | exact mle_nil _ | exact mle_refl _ | refine mle_upd ?_ (by first | rfl | (simp only [upd_app, killM_app, Nat.reduceEqDiff, reduceIte, vb, onw, List.take_zero, List.flatMap_nil, List.foldl_nil, List.map_nil]; done)))
    case sle => repeat (first | exact sle_top _ | exact sle_refl _ | refine sle_upd ?_ (by first | rfl | (simp only [upd_app, entry_zero, entry_succ, Nat.reduceEqDiff, reduceIte, vb, onw, List.take_zero, List.flatMap_nil, List.foldl_nil, List.map_nil]; done)))
   case round2 =>
    intro iu hiu
    repeat (first | refine W.seq ?_ | refine W.block ?_ | refine W.skip ?_ | refine W.exit ?_ | refine W.g ?_)
    refine W.cond rfl ?_ ?_
    ·intro hlt2
     simp only [decide_eq_true_eq, Int.ofNat_lt] at hlt2
     obtain ⟨u, hu⟩ : ∃ x, now[iu]? = some x := ⟨_, List.getElem?_eq_getElem hlt2⟩
     have huN := hnN u (List.mem_of_getElem? hu)
     have hu0 : (0 : Int) ≤ (u : Int) := by omega
     have htk2 : now.take (iu + 1) = now.take iu ++ [u] := by rw [List.take_add_one, hu]; rfl
     obtain ⟨L0, hL0⟩ : ∃ L0, L0 = onw S (now.take iu) := ⟨_, rfl⟩
     obtain ⟨os, hos⟩ : ∃ os, os = outs S u := ⟨_, rfl⟩
     have hL0N : ∀ x ∈ L0, x < N := fun x hx => by rw [hL0] at hx; obtain ⟨i, -, e⟩ := mem_onw.1 hx; exact (hE _ e).2
     have hosN : ∀ x ∈ os, x < N := fun x hx => by rw [hos] at hx; exact (hE _ (mem_outs.1 hx)).2
     have hosl : os.length ≤ 1000000 := by rw [hos]; exact Nat.le_trans (outs_len S u) h1
     rw [← hL0]
     repeat (first | refine W.seq ?_ | refine W.block ?_ | refine W.skip ?_ | refine W.exit ?_ | refine W.g ?_ (by simp only [exb, Nat.reduceAdd, Nat.reduceLeDiff, Nat.reduceEqDiff, Nat.reduceMul, Int.reduceToNat, reduceIte, Int.reduceLE, Int.reduceNeg, at_map hu, cN, tabU_at huN, tabU_len, huN, hu0, Int.toNat_natCast, and_self, List.length_map]; rfl))
     rw [← hos]
     refine W.loop (ι := Nat) (fun iv => ⟨upd (upd (upd (upd (upd (upd (upd (upd (upd (upd (upd (upd (upd (fun _ => .top) 9 (.c (.sl (tabU S N)))) 10 (.c (.sl ((now).map cN)))) 47 (.c (.sl (r.map cZ)))) 48 (.c (.int .i64 r.length))) 49 (.c (.int .i64 (i : Nat)))) 12 (.c (.int .i64 k))) 13 (.own 100)) 53 (.c (.sl (now.map cN)))) 54 (.c (.int .i64 now.length))) 55 (.c (.int .i64 (iu : Nat)))) 62 (.c (.sl (os.map cN)))) 63 (.c (.int .i64 os.length))) 64 (.c (.int .i64 (iv : Nat))), upd Mem.nil 100 (some (.arr 3 1 ((vb k (L0 ++ os.take iv)).map cN)))⟩) (fun iv => iv ≤ os.length) (fun iv => os.length - iv) 0 ?start3 (Nat.zero_le _) ?round3
     case start3 =>
      refine le_L ?sle ?mle (kept_not hkeep)
      case mle => repeat (first | exact mle_nil _ | exact mle_refl _ | refine mle_upd ?_ (by first | rfl | (simp only [upd_app, killM_app, Nat.reduceEqDiff, reduceIte, List.take_zero, List.append_nil]; done)))
      case sle => repeat (first | exact sle_top _ | exact sle_refl _ | refine sle_upd ?_ (by first | rfl | (simp only [upd_app, entry_zero, entry_succ, Nat.reduceEqDiff, reduceIte, List.take_zero, List.append_nil]; done)))
     case round3 =>
      intro iv hiv
      repeat (first | refine W.seq ?_ | refine W.block ?_ | refine W.skip ?_ | refine W.exit ?_ | refine W.g ?_)
      refine W.cond rfl ?_ ?_
      ·intro hlt3
       simp only [decide_eq_true_eq, Int.ofNat_lt] at hlt3
       obtain ⟨j, hj⟩ : ∃ x, os[iv]? = some x := ⟨_, List.getElem?_eq_getElem hlt3⟩
       have hjN := hosN j (List.mem_of_getElem? hj)
       have hj0 : ((0 : Int) ≤ (j : Int)) = True := eq_true (by omega)
       have hq := tdiv_two j
       have hqw : IntKind.i64.wrap ((j / 2 : Nat) : Int) = ((j / 2 : Nat) : Int) := wrap_nat (by omega)
       have htk3 : L0 ++ os.take (iv + 1) = (L0 ++ os.take iv) ++ [j] := by rw [List.take_add_one, hj, List.append_assoc]; rfl
       have hbl : (vb k (L0 ++ os.take iv)).length ≤ N := by
        obtain ⟨v1, v2⟩ := vb_spec k (L0 ++ os.take iv)
        refine nodup_lt_len v1 fun x hx => ?_
        rcases List.mem_append.1 ((v2 x).1 hx).1 with h | h
        ·exact hL0N x h
        ·exact hosN x (List.mem_of_mem_take h)
       have hsn : vb k (L0 ++ os.take (iv + 1)) = vbS k (vb k (L0 ++ os.take iv)) j := by rw [htk3, vb_snoc]
       obtain ⟨B, hB⟩ : ∃ B, B = vb k (L0 ++ os.take iv) := ⟨_, rfl⟩
       rw [← hB] at hbl hsn ⊢
       have hct := fun m => containsI_ok (zN B) (j : Int) (by rw [zN_len]; omega) m
       rw [cZ_zN] at hct
       (repeat (first | refine W.seq ?_ | refine W.block ?_ | refine W.skip ?_ | refine W.exit ?_))
       refine W.g ?_ (by simp only [exb, Nat.reduceAdd, Nat.reduceLeDiff, Nat.reduceEqDiff, Nat.reduceMul, Int.reduceToNat, reduceIte, Int.reduceLE, Int.reduceNeg, at_map hj, cN]; rfl)
       by_cases q1 : ((j / 2 : Nat) : Int) = k
       ·have p1 := eq_true q1
        have p2 : ((0 : Int) ≤ k) = True := eq_true (by omega)
        (repeat (first | refine W.seq ?_ | refine W.block ?_ | refine W.skip ?_ | refine W.exit ?_))
        refine W.regionK tab_ok 0 (by decide) ?_
        refine runk_split 15 (by simp only [exb, Nat.reduceAdd, Nat.reduceLeDiff, Nat.reduceEqDiff, Nat.reduceMul, Int.reduceToNat, reduceIte, Int.reduceLE, Int.reduceNeg, Int.reduceEq, hq, hqw, p1, p2, hj0]; rfl) ?_
        refine runk_call rfl rfl rfl rfl rfl (by simp) (cvs_cons (cv_own rfl) (cvs_cons cv_refl cvs_nil)) (hct _) ?_
        by_cases q2 : j ∈ B
        ·have p3 : ((j : Int) ∈ zN B) = True := eq_true (mem_zN.2 q2)
         refine runk_exec (by simp only [exb, Nat.reduceAdd, Nat.reduceLeDiff, Nat.reduceEqDiff, Nat.reduceMul, Int.reduceToNat, reduceIte, Int.reduceLE, Int.reduceNeg, p3, decide_true, Bool.not_true]; rfl) ?_
         refine W.cond rfl (fun h => absurd h (by simp)) (fun _ => ?_)
         repeat (first | refine W.seq ?_ | refine W.block ?_ | refine W.skip ?_ | refine W.exit ?_ | refine W.g ?_)
         refine ⟨iv + 1, hlt3, by omega, ?_⟩
         rw [hsn, vbS, if_neg (fun h => h.2 q2)]
         refine le_L ?sle ?mle (kept_not hkeep)
         case mle => repeat (first | exact mle_nil _ | exact mle_refl _ | refine mle_upd ?_ zb9q27)
         case sle => repeat (first | exact sle_top _ | exact sle_refl _ | refine sle_upd ?_ zb9q22)
        ·have p3 : ((j : Int) ∈ zN B) = False := eq_false (fun h => q2 (mem_zN.1 h))
         refine runk_exec (by simp only [exb, Nat.reduceAdd, Nat.reduceLeDiff, Nat.reduceEqDiff, Nat.reduceMul, Int.reduceToNat, reduceIte, Int.reduceLE, Int.reduceNeg, p3, decide_false, Bool.not_false]; rfl) ?_
         refine W.cond rfl (fun _ => ?_) (fun h => absurd h (by simp))
         (repeat (first | refine W.seq ?_ | refine W.block ?_ | refine W.skip ?_ | refine W.exit ?_))
         refine W.regionK tab_ok 0 (by decide) ?_
         refine xs0 3 ?_
         refine runk_append tab_ok 100 rfl rfl rfl rfl rfl rfl rfl rfl zb9q16 rfl rfl rfl rfl (nokeep hkeep) (fun z hz => by simp at hz; subst hz; rfl) zb9q38 (by decide) ?_
         refine xe0 ?_
         repeat (first | refine W.seq ?_ | refine W.block ?_ | refine W.skip ?_ | refine W.exit ?_ | refine W.g ?_)
         refine ⟨iv + 1, hlt3, by omega, ?_⟩
         rw [hsn, vbS, if_pos ⟨q1, q2⟩]
         refine le_L ?sle ?mle (kept_not hkeep)
         case mle => repeat (first | exact mle_nil _ | exact mle_refl _ | refine mle_upd ?_ (by first | rfl | (simp only [upd_app, killM_app, Nat.reduceEqDiff, reduceIte, wrap_succ (show iv + 1 < 9223372036854775808 by omega), List.map_append, List.map_cons, List.map_nil, cN]; done)))
         case sle => repeat (first | exact sle_top _ | exact sle_refl _ | refine sle_upd ?_ (by first | rfl | (simp only [upd_app, entry_zero, entry_succ, Nat.reduceEqDiff, reduceIte, wrap_succ (show iv + 1 < 9223372036854775808 by omega), List.map_append, List.map_cons, List.map_nil, cN]; done)))
       ·have p1 := eq_false q1
        repeat (first | refine W.seq ?_ | refine W.block ?_ | refine W.skip ?_ | refine W.exit ?_ | refine W.g ?_ (by simp only [exb, Nat.reduceAdd, Nat.reduceLeDiff, Nat.reduceEqDiff, Nat.reduceMul, Int.reduceToNat, reduceIte, Int.reduceLE, Int.reduceNeg, Int.reduceEq, hq, hqw, p1]; rfl))
        refine W.cond rfl (fun h => absurd h (by simp)) (fun _ => ?_)
        repeat (first | refine W.seq ?_ | refine W.block ?_ | refine W.skip ?_ | refine W.exit ?_ | refine W.g ?_)
        refine ⟨iv + 1, hlt3, by omega, ?_⟩
        rw [hsn, vbS, if_neg (fun h => q1 h.1)]
        refine le_L ?sle ?mle (kept_not hkeep)
        case mle => repeat (first | exact mle_nil _ | exact mle_refl _ | refine mle_upd ?_ zb9q27)
        case sle => repeat (first | exact sle_top _ | exact sle_refl _ | refine sle_upd ?_ zb9q22)
      ·intro hge3
       simp only [decide_eq_false_iff_not, Int.ofNat_lt] at hge3
       obtain rfl : iv = os.length := by omega
       rw [List.take_length]
       repeat (first | refine W.seq ?_ | refine W.block ?_ | refine W.skip ?_ | refine W.exit ?_ | refine W.g ?_)
       refine ⟨iu + 1, hlt2, by omega, ?_⟩
       rw [htk2, onw_snoc, ← hL0, ← hos]
       refine le_L ?sle ?mle (kept_not hkeep)
       case mle => repeat (first | exact mle_nil _ | exact mle_refl _ | refine mle_upd ?_ (by first | rfl | (simp only [upd_app, killM_app, Nat.reduceEqDiff, reduceIte, wrap_succ (show iu + 1 < 9223372036854775808 by omega)]; done)))
       case sle => repeat (first | exact sle_top _ | exact sle_refl _ | refine sle_upd ?_ (by first | rfl | (simp only [upd_app, entry_zero, entry_succ, Nat.reduceEqDiff, reduceIte, wrap_succ (show iu + 1 < 9223372036854775808 by omega)]; done)))
    ·intro hge2
     simp only [decide_eq_false_iff_not, Int.ofNat_lt] at hge2
     obtain rfl : iu = now.length := by omega
     rw [List.take_length]
     have hnx := nowI_next (k := k) hnow
     rw [← htk] at hnx
     have hB : ∀ j ∈ vb k (onw S now), j < N := fun j hj => by
      obtain ⟨i, -, e⟩ := mem_onw.1 (((vb_spec k (onw S now)).2 j).1 hj).1
      exact (hE _ e).2
     (repeat (first | refine W.seq ?_ | refine W.block ?_ | refine W.skip ?_ | refine W.exit ?_))
     refine W.g ?_
     refine W.asData 10 (x := .sl ((vb k (onw S now)).map cN)) rfl ?_ (by decide)
     repeat (first | refine W.seq ?_ | refine W.block ?_ | refine W.skip ?_ | refine W.exit ?_ | refine W.g ?_)
     refine ⟨(i + 1, vb k (onw S now)), ⟨hlt, hnx, hB⟩, by simp; omega, ?_⟩
     refine le_L ?sle ?mle (kept_not hkeep)
     case mle => repeat (first | exact mle_nil _ | exact mle_refl _ | refine mle_upd ?_ (by first | rfl | (simp only [upd_app, killM_app, Nat.reduceEqDiff, reduceIte, wrap_succ (show i + 1 < 9223372036854775808 by omega)]; done)))
     case sle => repeat (first | exact sle_top _ | exact sle_refl _ | refine sle_upd ?_ (by first | rfl | (simp only [upd_app, entry_zero, entry_succ, Nat.reduceEqDiff, reduceIte, wrap_succ (show i + 1 < 9223372036854775808 by omega)]; done)))
  ·intro hge
   simp only [decide_eq_false_iff_not, Int.ofNat_lt] at hge
   obtain rfl : i = r.length := by omega
   rw [List.take_length] at hnow
   have hres := hv (decide ((0 : Int) < (now.length : Int))) (by
    rw [decide_eq_true_iff]
    constructor
    ·intro h
     rcases now with _ | ⟨j, t⟩
     ·simp at h
     ·exact ⟨j, (hnow.2 j).1 (by simp)⟩
    ·rintro ⟨j, hj⟩
     have := List.length_pos_of_mem ((hnow.2 j).2 hj)
     omega)
   rw [hres]
   repeat (first | refine W.seq ?_ | refine W.block ?_ | refine W.skip ?_ | refine W.exit ?_ | refine W.g ?_ zb9q13)
   refine W.ret ⟨.inr rfl, by rfl, ?_⟩
   simp only [Try.f17, resA, resOne, toT, fin, exb, Nat.reduceAdd, Nat.reduceLeDiff, Nat.reduceEqDiff, Nat.reduceMul, Int.reduceToNat, reduceIte, Int.reduceLE, Int.reduceNeg]
end V
end Go.Proofs.Ytmhchhmhpoldhaa
end
section
namespace Go.Proofs.Ytmhchhmhpoldhaa
namespace V
open Go.RowKit
def GStep (P : Go.Program) (R : Ref) (n : Nat) (ds : List Deferred) (ops : Array Oper) (o : Oper) (st st' : St) : Prop :=
 ∀ (a : Act) (w : World) (K : Act → World → Prop) (Q : Exit → Act → World → Prop), SR R n ds st a w → (∀ d, o.dst = some d → d < n) → (∀ a' w', SR R n ds st' a' w' → K a' w') →
  if Region.wanted o (yielded ops a.tmps) = true then o.wp P a w K Q else K (a.put o.dst undef) w
inductive GRun (P : Go.Program) (R : Ref) (n : Nat) (ds : List Deferred) (ops : Array Oper) : List Oper → St → St → Prop where
 | nil (st : St) : GRun P R n ds ops [] st st
 | cons {o : Oper} {l : List Oper} {st st1 st2 : St} (h : GStep P R n ds ops o st st1) (t : GRun P R n ds ops l st1 st2) : GRun P R n ds ops (o :: l) st st2
def GRunK (P : Go.Program) (R : Ref) (n : Nat) (ds : List Deferred) (ops : Array Oper) (l : List Oper) (st : St) (k : St → Prop) : Prop := ∃ st', GRun P R n ds ops l st st' ∧ k st'
section
variable {P : Go.Program} {T : Tab} {R : Ref} {n base : Nat} {ds : List Deferred} {ops : Array Oper}
theorem g_nil {st : St} {k : St → Prop} (h : k st) : GRunK P R n ds ops [] st k := ⟨st, .nil _, h⟩
theorem g_step {o : Oper} {l : List Oper} {st st1 : St} {k : St → Prop} (h : GStep P R n ds ops o st st1) (ht : GRunK P R n ds ops l st1 k) : GRunK P R n ds ops (o :: l) st k :=
 let ⟨st', h1, h2⟩ := ht
 ⟨st', .cons h h1, h2⟩
theorem grun_app (hT : T.Ok P) : ∀ {l l2 : List Oper} {st st1 st2 : St}, RunL P T R.keep base ops l st st1 → GRun P R n ds ops l2 st1 st2 → GRun P R n ds ops (l ++ l2) st st2
 | [], _, _, _, _, h, t => by cases h; exact t
 | o :: l, _, _, _, _, h, t => by
  cases h with
  | cons h h2 => exact .cons (fun a w K Q hr hd hK => h.snd hT hr hd hK) (grun_app hT h2 t)
theorem g_split (hT : T.Ok P) (base : Nat) {l : List Oper} {st : St} {k : St → Prop} (i : Nat) (h : RunK P T R.keep base ops (l.take i) st (fun st1 => GRunK P R n ds ops (l.drop i) st1 k)) : GRunK P R n ds ops l st k := by
 obtain ⟨st1, h1, st2, h2, h3⟩ := h
 have := grun_app hT h1 h2
 rw [List.take_append_drop] at this
 exact ⟨st2, this, h3⟩
theorem g_snd (hd : ∀ o ∈ ops, ∀ d, o.dst = some d → d < n) {Q : Exit → Act → World → Prop} {st' : St} (hQ : ∀ a w, SR R n ds st' a w → Q .normal a w) :
  ∀ (l : List Oper) (k : Nat) (st : St) (a : Act) (w : World), (∀ j, l[j]? = ops[k + j]?) → GRun P R n ds ops l st st' → SR R n ds st a w → wpOps P ops Q (List.range' k l.length) a w
 | [], _, st, a, w, _, h, hr => by cases h; exact hQ a w hr
 | o :: l, k, st, a, w, hl, h, hr => by
  cases h with
  | @cons _ _ _ st1 _ h t =>
   have hi : ops[k]? = some o := by simpa using (hl 0).symm
   rw [List.length_cons, List.range'_succ, wpOps_cons]
   unfold wpOp
   rw [hi]
   have hgo := h a w (wpOps P ops Q (List.range' (k + 1) l.length)) Q hr (hd o (Array.mem_of_getElem? hi)) (fun a' w' hr' => g_snd hd hQ l (k + 1) st1 a' w' (fun j => by
    have := hl (j + 1)
    rw [Nat.add_right_comm, Nat.add_assoc]
    simpa [Nat.add_comm, Nat.add_left_comm] using this) t hr')
   dsimp only
   split
   ·rename_i hw; rw [if_pos hw] at hgo; exact .inl hgo
   ·rename_i hw; rw [if_neg hw] at hgo; exact hgo
theorem W.regionG {id : Nat} {st : St} {K : Exit → St → Prop} (hd : dstOk n ops = true) (h : GRunK P R n ds ops ops.toList st (K .normal)) : W P R n ds st (.region id ops false) K := fun a w hr => by
 obtain ⟨st', h1, h2⟩ := h
 refine wp_region ?_
 rw [range_range', ← Array.length_toList]
 exact g_snd (dstOk_spec hd) (fun a w hr' => ⟨st', h2, hr'⟩) ops.toList 0 st a w (fun j => by simp) h1 hr
theorem g_val {o : Oper} {st : St} {d : Nat} {r : A} (hw : wantA ops o st.s = some true) (hd0 : o.dst = some d) (hl : ∀ j ∈ r.ids, (st.m j).isSome = true)
  (hrun : ∀ (a : Act) (w : World) (B : Nat → Value) (I : Nat → Nat → Prop), MR R.w0 R.I0 B I st.m w → (∀ x, RV B w I (ev st.s x) (a.eval x)) → ∃ v, (execOp a.eval o).run P w = .ok (.value v) w ∧ RV B w I r v) : GStep P R n ds ops o st ⟨upd st.s d r, st.m⟩ := by
 intro a w K Q hr hd hK
 obtain ⟨B, I, hm, hx0, hkp, hs⟩ := hr.ex
 rw [want_snd hs hw, if_pos rfl]
 obtain ⟨v, h1, h2⟩ := hrun a w B I hm (ev_rv hs)
 unfold Oper.wp Oper.upon
 rw [h1]
 have hd' : ∀ d, o.dst = some d → d < a.tmps.size := fun d e => by rw [hr.size]; exact hd d e
 have hput := putS_rv (dst := o.dst) (r := r) (v := v) hs h2 hd'
 rw [hd0] at hput
 refine hK _ _ ⟨⟨B, I, hm, hx0, hkp, by rw [hd0]; exact hput⟩, ?_, by rw [(put_dst_size _ _ _).1]; exact hr.size, hr.nn, ?_, hr.kept⟩
 ·intro t j hj
  show (st.m j).isSome = true
  have hj : j ∈ (upd st.s d r t).ids := hj
  unfold upd at hj
  split at hj
  ·exact hl j hj
  ·exact hr.ids t j hj
 ·rw [(put_dst_size _ _ _).2]
  have hdd : DID ≠ d := fun q => absurd (hd d hd0) (Nat.not_lt.2 (q ▸ hr.nn))
  show a.defers = dfs (upd st.s d r DID) ++ ds
  rw [upd_ne _ _ hdd]; exact hr.defs
theorem g_idx {o : Oper} {l : List Oper} {st : St} {k : St → Prop} {ty e len j off d : Nat} {x i : Operand} {kk : IntKind} {z : Int} {inf : TypeInfo} (hw : wantA ops o st.s = some true) (hop : o.op = .indexAddr ty x i) (hd : o.dst = some d)
  (hx : ev st.s x = .ptr j off) (hi : ev st.s i = .c (.int kk z)) (hj : (st.m j).isSome = true) (hu : P.underlying ty = some (.array len e)) (hs : P.info? e = some inf) (h1 : inf.size = 1) (h0 : 0 ≤ z) (hz : z < len)
  (ht : GRunK P R n ds ops l ⟨upd st.s d (.ptr j (off + z.toNat)), st.m⟩ k) : GRunK P R n ds ops (o :: l) st k := by
 refine g_step (g_val hw hd (fun i hi => by simp [A.ids] at hi; subst hi; exact hj) fun a w B I hm hev => ?_) ht
 have hxv := hev x
 rw [hx] at hxv
 obtain ⟨b, hb, hxv⟩ := hxv
 have hiv := hev i
 rw [hi] at hiv
 have hiv : RC w I (a.eval i) (.int kk z) := hiv
 have hie := (RC.toInt hiv).1
 refine ⟨.pointer (some ⟨b, off + z.toNat, none⟩), ?_, b, hb, rfl⟩
 by_cases q : z ≤ 0
 ·obtain rfl : z = 0 := by omega
  simp [execOp, hop, hxv, hie, Instr.indexAt, asIntOf, run_underlying hu, h0, hz, sizeOf, typeInfo, hs, h1, Instr.sureAddr, Addr.add]
  intro h; omega
 ·simp [execOp, hop, hxv, hie, Instr.indexAt, asIntOf, run_underlying hu, h0, hz, sizeOf, typeInfo, hs, h1, Instr.sureAddr, Addr.add, q]
theorem g_arr (hT : T.Ok P) {o : Oper} {l : List Oper} {st : St} {k : St → Prop} {ty e len d : Nat} {parts : Array (Nat × Operand)} {zs : List C} {xs : List C} {inf : TypeInfo} (hw : wantA ops o st.s = some true) (hop : o.op = .build ty parts) (hd : o.dst = some d)
  (hu : P.underlying ty = some (.array len e)) (hs : P.info? e = some inf) (h1 : inf.size = 1) (hz : zeroC T ty = some zs) (hf : fillC (fun i => some (i * 1, 1)) zs (parts.toList.map fun p => (p.1, cellsC st.m (ev st.s p.2))) = some xs)
  (ht : GRunK P R n ds ops l ⟨upd st.s d (.agg xs), st.m⟩ k) : GRunK P R n ds ops (o :: l) st k := by
 refine g_step (g_val hw hd (fun i hi => by simp [A.ids] at hi) fun a w B I hm hev => ?_) ht
 unfold zeroC at hz
 split at hz
 ·rename_i vs hvs
  obtain ⟨i, z, hi, hzz, hc, ho⟩ := hT.zero ty vs hvs
  have hrc : RCs w I vs zs := by
   have := asCs_rcs (mem := fun _ => none) (B := B) (I := I) (I0 := R.I0) (w := w) (w0 := R.w0) ⟨hm.below, hm.glob, hm.base, hm.old, hm.there, fun _ _ h => absurd h (noneSome _), fun _ _ h => absurd h (noneSome _), fun _ _ _ _ h => absurd h (noneSome _), fun _ _ h => absurd h (noneSome _)⟩ hz (ofConst_rvs ho)
   exact this
  obtain ⟨us, h2, h3, h4⟩ := fill_snd hm hev parts.toList vs zs xs hrc hf
  refine ⟨.agg us.toArray, ?_, us, rfl, h3⟩
  have hzr : (zeroValue ty).run P w = .ok z w := by simp [zeroValue, typeInfo, hi, hzz]
  have h5 : Instr.fill (fun i => some (i * 1, 1)) vs.toArray (parts.map fun x => (x.1, a.eval x.2)).toList = some us.toArray := by
   rw [Array.toList_map]; exact h2
  have hsz : (sizeOf e).run P w = .ok 1 w := by simp [sizeOf, typeInfo, hs, h1]
  simp only [execOp, hop, Instr.build, Sem.run_bind, hzr, Result.andThen_ok, run_underlying hu, hsz, hc, h5, Sem.run_pure]
 ·cases hz
end
end V
end Go.Proofs.Ytmhchhmhpoldhaa
end
section
namespace Go.Proofs.Ytmhchhmhpoldhaa
namespace V
open Go.RowKit G
theorem und3 : Try.prog.underlying 59 = some (.array 3 4) := by kernel_rfl
set_option maxRecDepth 100000 in
theorem inf3x : ∃ inf, Try.prog.info? 4 = some inf ∧ inf.size = 1 := ⟨_, rfl, rfl⟩
noncomputable def infB : TypeInfo := inf3x.choose
theorem inf3 : Try.prog.info? 4 = some infB := inf3x.choose_spec.1
theorem siz3 : infB.size = 1 := inf3x.choose_spec.2
def phI : Option Bool → Int
 | none => 1
 | some false => 2
 | some true => 3
def phM : Option Bool → Nat
 | none => 2
 | some false => 1
 | some true => 0
def phInv (x1 x2 : Bool) (kk : Nat) (Y : Bool × Bool × Bool) : Option Bool → Bool × Bool × Bool → Prop
 | none, y => y = Y
 | some false, y => phS x1 kk 1 Y = y
 | some true, y => phS x2 kk 2 (phS x1 kk 1 Y) = y
set_option maxHeartbeats 16000000 in
theorem refValidZ_ok (n : Int) (l : List Q) (ids path : List Int) (hs : Small n l) (hi : ids.length ≤ 1000000) (hp : path.length ≤ 1000000) (m : Mem) :
  COk Try.prog 18 [.c (.int .i64 n), .c (.sl (l.map cS)), .c (.sl (ids.map cZ)), .c (.sl (path.map cZ))] m (.c (.bool (validO n l ids path))) := by
 have hf := fun m => refCheckN_ok n l ids (by have := hs.1; omega) (by omega) m
 refine (ok_pure tab_ok Try.func18 (by kernel_rfl) rfl rfl (by rfl) (by rfl) (by rfl) (fun R hkeep => ?_) m)
 (repeat (first | refine W.seq ?_ | refine W.block ?_ | refine W.skip ?_ | refine W.exit ?_))
 refine W.g ?_
 (repeat (first | refine W.seq ?_ | refine W.block ?_ | refine W.skip ?_ | refine W.exit ?_))
 refine W.regionK tab_ok 0 (by decide) ?_
 refine xs0 3 ?_
 refine runk_call rfl rfl rfl rfl rfl (by simp) (cvs_cons cv_refl (cvs_cons cv_refl (cvs_cons cv_refl cvs_nil))) (hf _) ?_
 by_cases he : errN n l ids = 0
 rotate_left
 ·have p0 := eq_false he
  have hv : validO n l ids path = false := by unfold validO; simp [he]
  rw [hv]
  refine runk_exec zb9q5 ?_
  refine W.cond rfl (fun _ => ?_) (fun h => absurd h (by simp))
  repeat (first | refine W.seq ?_ | refine W.block ?_ | refine W.skip ?_ | refine W.exit ?_ | refine W.g ?_)
  refine W.ret ⟨.inr rfl, by rfl, ?_⟩
  simp only [Try.f18, resA, resOne, toT, fin, exb, Nat.reduceAdd, Nat.reduceLeDiff, Nat.reduceEqDiff, Nat.reduceMul, Int.reduceToNat, reduceIte, Int.reduceLE, Int.reduceNeg]
 rcases path with _ | ⟨p, r⟩
 ·have hv : validO n l ids [] = false := by unfold validO; simp [ValidF]
  have z0 : (((0 : Nat) : Int) = 0) = True := eq_true rfl
  rw [hv]
  refine runk_exec zb9q1 ?_
  refine W.cond rfl (fun _ => ?_) (fun h => absurd h (by simp))
  repeat (first | refine W.seq ?_ | refine W.block ?_ | refine W.skip ?_ | refine W.exit ?_ | refine W.g ?_)
  refine W.ret ⟨.inr rfl, by rfl, ?_⟩
  simp only [Try.f18, resA, resOne, toT, fin, exb, Nat.reduceAdd, Nat.reduceLeDiff, Nat.reduceEqDiff, Nat.reduceMul, Int.reduceToNat, reduceIte, Int.reduceLE, Int.reduceNeg]
 obtain ⟨hc, hz⟩ := errN_good he
 obtain ⟨Lp, hLp⟩ : ∃ Lp, Lp = (p :: r).map cZ := ⟨_, rfl⟩
 have hat : Lp[0]? = some [.int .i64 p] := by rw [hLp]; rfl
 have hll : Lp.length = r.length + 1 := by rw [hLp]; simp
 have hl0 : (((r.length + 1 : Nat) : Int) = 0) = False := eq_false (by omega)
 have hl1 : (0 < r.length + 1) = True := eq_true (by omega)
 have hpl : r.length ≤ 1000000 := by simp only [List.length_cons] at hp; omega
 rw [← hLp]
 refine runk_exec (by simp only [exb, Nat.reduceAdd, Nat.reduceLeDiff, Nat.reduceEqDiff, Nat.reduceMul, Int.reduceToNat, reduceIte, Int.reduceLE, Int.reduceNeg, he, eq_self, decide_true, Bool.not_true, hll, hl0]; rfl) ?_
 refine W.cond rfl (fun h => absurd h (by simp)) (fun _ => ?_)
 repeat (first | refine W.seq ?_ | refine W.block ?_ | refine W.skip ?_ | refine W.exit ?_ | refine W.g ?_ zb9q13)
 refine W.loop (ι := Nat) (fun k => ⟨upd (upd (upd (upd (upd (upd (upd (fun _ => .top) 0 (.c (.int .i64 n))) 1 (.c (.sl (l.map cS)))) 3 (.c (.sl Lp))) 9 (.c (.bool (decide (p ∈ ids.take k))))) 29 (.c (.sl (ids.map cZ)))) 30 (.c (.int .i64 ids.length))) 31 (.c (.int .i64 k)), Mem.nil⟩) (fun k => k ≤ ids.length) (fun k => ids.length - k) 0 ?start (Nat.zero_le _) ?round
 case start =>
  refine le_L ?sle ?mle (kept_not hkeep)
  case mle => repeat (first | exact mle_nil _ | exact mle_refl _ | refine mle_upd ?_ (by first | rfl | (simp only [upd_app, killM_app, Nat.reduceEqDiff, reduceIte, List.take_zero, List.not_mem_nil, decide_false]; done)))
  case sle => repeat (first | exact sle_top _ | exact sle_refl _ | refine sle_upd ?_ (by first | rfl | (simp only [upd_app, entry_zero, entry_succ, Nat.reduceEqDiff, reduceIte, List.take_zero, List.not_mem_nil, decide_false]; done)))
 case round =>
  intro k hk
  repeat (first | refine W.seq ?_ | refine W.block ?_ | refine W.skip ?_ | refine W.exit ?_ | refine W.g ?_)
  refine W.cond rfl ?_ ?_
  ·intro hlt
   simp only [decide_eq_true_eq, Int.ofNat_lt] at hlt
   obtain ⟨z, hzk⟩ : ∃ x, ids[k]? = some x := ⟨_, List.getElem?_eq_getElem hlt⟩
   have htk : (p ∈ ids.take (k + 1)) = (p ∈ ids.take k ∨ p = z) := by rw [List.take_add_one, hzk]; simp
   (repeat (first | refine W.seq ?_ | refine W.block ?_ | refine W.skip ?_ | refine W.exit ?_))
   refine W.g ?_ (by simp only [exb, Nat.reduceAdd, Nat.reduceLeDiff, Nat.reduceEqDiff, Nat.reduceMul, Int.reduceToNat, reduceIte, Int.reduceLE, Int.reduceNeg, at_map hzk, cZ]; rfl)
   by_cases q0 : p ∈ ids.take k
   ·have p0 := eq_true q0
    repeat (first | refine W.seq ?_ | refine W.block ?_ | refine W.skip ?_ | refine W.exit ?_ | refine W.g ?_ (by simp only [exb, Nat.reduceAdd, Nat.reduceLeDiff, Nat.reduceEqDiff, Nat.reduceMul, Int.reduceToNat, reduceIte, Int.reduceLE, Int.reduceNeg, p0, decide_true]; rfl))
    refine ⟨k + 1, hlt, by omega, ?_⟩
    have e1 : decide (p ∈ ids.take (k + 1)) = true := by simp [htk, q0]
    rw [e1]
    refine le_L ?sle ?mle (kept_not hkeep)
    case mle => repeat (first | exact mle_nil _ | exact mle_refl _ | refine mle_upd ?_ (by first | rfl | (simp only [upd_app, killM_app, Nat.reduceEqDiff, reduceIte, wrap_succ (show k + 1 < 9223372036854775808 by omega), p0, decide_true]; done)))
    case sle => repeat (first | exact sle_top _ | exact sle_refl _ | refine sle_upd ?_ (by first | rfl | (simp only [upd_app, entry_zero, entry_succ, Nat.reduceEqDiff, reduceIte, wrap_succ (show k + 1 < 9223372036854775808 by omega), p0, decide_true]; done)))
   ·have p0 := eq_false q0
    have e1 : decide (p ∈ ids.take (k + 1)) = decide (z = p) := by
     rw [Bool.eq_iff_iff, decide_eq_true_iff, decide_eq_true_iff, htk]
     constructor
     ·rintro (h | h)
      ·exact absurd h q0
      ·exact h.symm
     ·intro h; exact .inr h.symm
    repeat (first | refine W.seq ?_ | refine W.block ?_ | refine W.skip ?_ | refine W.exit ?_ | refine W.g ?_ (by simp only [exb, Nat.reduceAdd, Nat.reduceLeDiff, Nat.reduceEqDiff, Nat.reduceMul, Int.reduceToNat, reduceIte, Int.reduceLE, Int.reduceNeg, p0, decide_false, hat, hll, hl1, Int.toNat_zero]; rfl))
    refine ⟨k + 1, hlt, by omega, ?_⟩
    rw [e1]
    refine le_L ?sle ?mle (kept_not hkeep)
    case mle => repeat (first | exact mle_nil _ | exact mle_refl _ | refine mle_upd ?_ zb9q28)
    case sle => repeat (first | exact sle_top _ | exact sle_refl _ | refine sle_upd ?_ zb9q23)
  ·intro hge
   simp only [decide_eq_false_iff_not, Int.ofNat_lt] at hge
   obtain rfl : k = ids.length := by omega
   rw [List.take_length]
   by_cases hm : p ∈ ids
   rotate_left
   ·have hv : validO n l ids (p :: r) = false := by
     refine Bool.eq_false_iff.2 fun h => hm ?_
     obtain ⟨-, a, ha, e, -⟩ := validO_iff.1 h
     obtain ⟨z, hzm, rfl⟩ := List.mem_map.1 ha
     have := hz z hzm
     rw [← e, show ((z.toNat : Nat) : Int) = z by omega]
     exact hzm
    have p0 := eq_false hm
    rw [hv]
    repeat (first | refine W.seq ?_ | refine W.block ?_ | refine W.skip ?_ | refine W.exit ?_ | refine W.g ?_ zb9q5)
    refine W.cond rfl (fun _ => ?_) (fun h => absurd h (by simp))
    repeat (first | refine W.seq ?_ | refine W.block ?_ | refine W.skip ?_ | refine W.exit ?_ | refine W.g ?_)
    refine W.ret ⟨.inr rfl, by rfl, ?_⟩
    simp only [Try.f18, resA, resOne, toT, fin, exb, Nat.reduceAdd, Nat.reduceLeDiff, Nat.reduceEqDiff, Nat.reduceMul, Int.reduceToNat, reduceIte, Int.reduceLE, Int.reduceNeg]
   have p0 := eq_true hm
   repeat (first | refine W.seq ?_ | refine W.block ?_ | refine W.skip ?_ | refine W.exit ?_ | refine W.g ?_ zb9q7)
   refine W.cond rfl (fun h => absurd h (by simp)) (fun _ => ?_)
   obtain ⟨n, rfl⟩ := good_n hc
   have hp0 := hz p hm
   obtain ⟨a, rfl⟩ : ∃ a : Nat, p = (a : Int) := ⟨p.toNat, by omega⟩
   have han : a < n := by omega
   have hn : n ≤ 100000 := by have := (natS_back hc).2.1; omega
   have hKE := (hs.2 hc).2
   rw [Int.toNat_natCast] at hKE
   have hst : ∀ m, COk Try.prog 28 [.c (.int .i64 n), .c (.sl (l.map cS))] m (.c (.sl (((wholeE n l).map castS).map cS))) := fun m => by
    have := refSteps_ok n l hc (by have := hs.1; omega) m
    rwa [wholeL_eq hc] at this
   have hv : ∀ b : Bool, (b = true ↔ ∃ j, vSet (stp (wholeE n l)) r (fun i => i = 2 * a) j) → validO (n : Int) l ids ((a : Int) :: r) = b := fun b hb => by
    rw [Bool.eq_iff_iff, hb, validO_iff, Int.toNat_natCast]
    constructor
    ·rintro ⟨-, a', -, e, h⟩
     have : a' = a := by omega
     subst this; exact h
    ·intro h
     exact ⟨he, a, List.mem_map.2 ⟨(a : Int), hm, by omega⟩, rfl, h⟩
   obtain ⟨E, hE⟩ : ∃ E, E = wholeE n l := ⟨_, rfl⟩
   rw [← hE] at hst hKE hv
   (repeat (first | refine W.seq ?_ | refine W.block ?_ | refine W.skip ?_ | refine W.exit ?_))
   refine W.regionK tab_ok 0 (by decide) ?_
   refine xs0 2 ?_
   refine runk_call rfl rfl rfl rfl rfl (by simp) (cvs_cons cv_refl (cvs_cons cv_refl cvs_nil)) (hst _) ?_
   refine xe0 ?_
   (repeat (first | refine W.seq ?_ | refine W.block ?_ | refine W.skip ?_ | refine W.exit ?_))
   refine W.regionG (by decide) ?_
   refine g_arr tab_ok (inf := infB) rfl rfl rfl und3 inf3 siz3 rfl rfl ?_
   refine g_split tab_ok 0 2 (runk_exec zb9q25 ?_)
   refine g_nil ?_
   repeat (first | refine W.seq ?_ | refine W.block ?_ | refine W.skip ?_ | refine W.exit ?_ | refine W.g ?_)
   refine W.loop (ι := Nat × Bool × Bool) (fun x => ⟨(fun i x1 x2 => upd (upd (upd (upd (fun _ => .top) 3 (.c (.sl Lp))) 12 (.c (.sl ((E.map castS).map cS)))) 13 (.ptr 13 0)) 14 (.c (.int .i64 ((i + 1 : Nat) : Int)))) x.1 x.2.1 x.2.2, (fun x1 x2 => upd Mem.nil 13 (some (.box 59 [.c (.bool (false)), .c (.bool (x1)), .c (.bool (x2))]))) x.2.1 x.2.2⟩)
    (fun x => x.1 ≤ r.length ∧ ∃ q, Lp[x.1]? = some [.int .i64 q] ∧ (x.2.1 = true ↔ ∃ j, vSet (stp E) (r.take x.1) (fun i => i = 2 * a) j ∧ (j : Int) = 2 * q) ∧ (x.2.2 = true ↔ ∃ j, vSet (stp E) (r.take x.1) (fun i => i = 2 * a) j ∧ (j : Int) = 2 * q + 1) ∧ ∀ j, vSet (stp E) (r.take x.1) (fun i => i = 2 * a) j → ((j / 2 : Nat) : Int) = q) (fun x => r.length - x.1) (0, true, false) ?start2 ⟨Nat.zero_le _, (a : Int), hat, by simp [vSet], ?_, ?_⟩ ?round2
   case start2 =>
    refine le_L ?sle ?mle (kept_not hkeep)
    case mle => repeat (first | exact mle_nil _ | exact mle_refl _ | refine mle_upd ?_ zb9q14)
    case sle => repeat (first | exact sle_top _ | exact sle_refl _ | refine sle_upd ?_ zb9q32)
   ·simp [vSet] <;> omega
   ·simp [vSet] <;> omega
   case round2 =>
    rintro ⟨i, x1, x2⟩ ⟨hir, q, hLq, hx1, hx2, hal⟩
    simp only at hir hLq hx1 hx2 hal ⊢
    have cj : ∀ (x y : Nat), ((x : Int) < (y : Int)) = (x < y) := fun x y => propext (by omega)
    repeat (first | refine W.seq ?_ | refine W.block ?_ | refine W.skip ?_ | refine W.exit ?_ | refine W.g ?_ (by simp only [exb, Nat.reduceAdd, Nat.reduceLeDiff, Nat.reduceEqDiff, Nat.reduceMul, Int.reduceToNat, reduceIte, Int.reduceLE, Int.reduceNeg, hll]; rfl))
    refine W.cond rfl ?_ ?_
    ·intro hlt
     have hlt : i < r.length := by simp only [decide_eq_true_eq] at hlt; omega
     obtain ⟨k, hk⟩ : ∃ x, r[i]? = some x := ⟨_, List.getElem?_eq_getElem hlt⟩
     have hLk : Lp[i + 1]? = some [.int .i64 k] := by rw [hLp, List.getElem?_map, List.getElem?_cons_succ, hk]; rfl
     have htk : r.take (i + 1) = r.take i ++ [k] := by rw [List.take_add_one, hk]; rfl
     repeat (first | refine W.seq ?_ | refine W.block ?_ | refine W.skip ?_ | refine W.exit ?_ | refine W.g ?_ zb9q13)
     refine W.loop (ι := Nat) (fun j => ⟨upd (upd (upd (upd (upd (upd (upd (upd (fun _ => .top) 3 (.c (.sl Lp))) 12 (.c (.sl ((E.map castS).map cS)))) 13 (.ptr 13 0)) 14 (.c (.int .i64 ((i + 1 : Nat) : Int)))) 15 (.ptr 15 0)) 56 (.c (.sl ((E.map castS).map cS)))) 57 (.c (.int .i64 E.length))) 58 (.c (.int .i64 (j : Nat))), upd (upd Mem.nil 13 (some (.box 59 [.c (.bool (false)), .c (.bool (x1)), .c (.bool (x2))]))) 15 (some (.box 59 [.c (.bool (((yA q k x1 x2 (E.take j))).1)), .c (.bool (((yA q k x1 x2 (E.take j))).2.1)), .c (.bool (((yA q k x1 x2 (E.take j))).2.2))]))⟩) (fun j => j ≤ E.length) (fun j => E.length - j) 0 ?start3 (Nat.zero_le _) ?round3
     case start3 =>
      refine le_mk ?sle ?mle ?swf ?mwf (kept_not hkeep) (by rfl)
      case swf => repeat (first | exact swf_top _ | refine swf_upd ?_ (by simp [A.ids, upd_app, List.map_cons, List.map_nil, ofConst, yA, List.take_zero, List.foldl_nil]))
      case mwf => repeat (first | exact mwf_nil _ | refine mwf_upd ?_ (by simp [A.ids, O.ids, upd_app, List.map_cons, List.map_nil, ofConst, yA, List.take_zero, List.foldl_nil]))
      case mle => repeat (first | exact mle_nil _ | exact mle_refl _ | refine mle_upd ?_ (by first | rfl | (simp only [upd_app, killM_app, O.kill, A.kill, Nat.reduceEqDiff, reduceIte, Option.map_some, Option.map_none, List.map_cons, List.map_nil, List.map_cons, List.map_nil, ofConst, yA, List.take_zero, List.foldl_nil]; done)))
      case sle => repeat (first | exact sle_top _ | exact sle_refl _ | refine sle_upd ?_ (by first | rfl | (simp only [upd_app, killS_app, A.kill, entry_zero, entry_succ, Nat.reduceEqDiff, reduceIte, List.map_cons, List.map_nil, ofConst, yA, List.take_zero, List.foldl_nil]; done)))
     case round3 =>
      intro j hj
      repeat (first | refine W.seq ?_ | refine W.block ?_ | refine W.skip ?_ | refine W.exit ?_ | refine W.g ?_)
      refine W.cond rfl ?_ ?_
      ·intro hlt3
       simp only [decide_eq_true_eq, Int.ofNat_lt] at hlt3
       obtain ⟨⟨f, t, kk, s⟩, hx⟩ : ∃ x, E[j]? = some x := ⟨_, List.getElem?_eq_getElem hlt3⟩
       have hxc : (E.map castS)[j]? = some (castS ⟨f, t, kk, s⟩) := by rw [List.getElem?_map, hx]; rfl
       have hcc : cS (castS ⟨f, t, kk, s⟩) = [.int .i64 (f : Int), .int .i64 (t : Int), .int .i64 (kk : Int), .int .i64 (s : Int)] := rfl
       have htk3 : yA q k x1 x2 (E.take (j + 1)) = yS q k x1 x2 (yA q k x1 x2 (E.take j)) ⟨f, t, kk, s⟩ := by rw [List.take_add_one, hx, Option.toList_some, yA_snoc]
       obtain ⟨Y, hY⟩ : ∃ Y, Y = yA q k x1 x2 (E.take j) := ⟨_, rfl⟩
       rw [← hY] at htk3 ⊢
       have wi : IntKind.i64.wrap (((i + 1 : Nat) : Int) - 1) = (i : Int) := by rw [show (((i + 1 : Nat) : Int) - 1) = (i : Int) by omega]; exact wrap_nat (by omega)
       have li : (i < r.length + 1) = True := eq_true (by omega)
       have li1 : (i + 1 < r.length + 1) = True := eq_true (by omega)
       have i0 : ((0 : Int) ≤ (i : Int)) = True := eq_true (by omega)
       have i1 : ((0 : Int) ≤ ((i + 1 : Nat) : Int)) = True := eq_true (by omega)
       (repeat (first | refine W.seq ?_ | refine W.block ?_ | refine W.skip ?_ | refine W.exit ?_))
       refine W.g ?_ (by simp only [exb, Nat.reduceAdd, Nat.reduceLeDiff, Nat.reduceEqDiff, Nat.reduceMul, Int.reduceToNat, reduceIte, Int.reduceLE, Int.reduceNeg, at_map hxc, hcc]; rfl)
       simp only [upd_upd]
       (repeat (first | refine W.seq ?_ | refine W.block ?_ | refine W.skip ?_ | refine W.exit ?_))
       refine W.join (ι := Bool) (fun bb => ⟨upd (upd (upd (upd (upd (upd (upd (upd (upd (upd (fun _ => .top) 3 (.c (.sl Lp))) 12 (.c (.sl ((E.map castS).map cS)))) 13 (.ptr 13 0)) 14 (.c (.int .i64 ((i + 1 : Nat) : Int)))) 15 (.ptr 15 0)) 56 (.c (.sl ((E.map castS).map cS)))) 57 (.c (.int .i64 E.length))) 58 (.c (.int .i64 (j : Nat)))) 17 (.ptr 17 0)) 78 (.c (.bool bb)), upd (upd (upd Mem.nil 13 (some (.box 59 [.c (.bool (false)), .c (.bool (x1)), .c (.bool (x2))]))) 15 (some (.box 59 [.c (.bool ((Y).1)), .c (.bool ((Y).2.1)), .c (.bool ((Y).2.2))]))) 17 (some (.box 55 [.c (.int .i64 (f : Int)), .c (.int .i64 (t : Int)), .c (.int .i64 (kk : Int)), .c (.int .i64 (s : Int))]))⟩) (fun bb => bb = !decide ((f : Int) = q ∧ (t : Int) = k)) ?_ ?_
       ·by_cases c0 : (f : Int) = q
        ·have p0 := eq_true c0
         by_cases c1 : (t : Int) = k
         ·have p1 := eq_true c1
          refine W.regionDK tab_ok 0 follows_mixed (by kernel_rfl) (by decide) ?_
          refine runk_exec (by simp only [exb, Nat.reduceAdd, Nat.reduceLeDiff, Nat.reduceEqDiff, Nat.reduceMul, Int.reduceToNat, reduceIte, Int.reduceLE, Int.reduceNeg, wi, li, li1, i0, i1, hll, hLq, hLk, Int.toNat_natCast, and_self, p0, p1, decide_true, Bool.not_true]; rfl) ?_
          refine ⟨rfl, fun c K' hk => W.weaken ?_ (hk false (by simp [c0, c1]))⟩
          refine le_L ?sle ?mle (kept_not hkeep)
          case mle => repeat (first | exact mle_nil _ | exact mle_refl _ | refine mle_upd ?_ zb9q14)
          case sle => repeat (first | exact sle_top _ | exact sle_refl _ | refine sle_upd ?_ zb9q32)
         ·have p1 := eq_false c1
          refine W.regionDK tab_ok 0 follows_mixed (by kernel_rfl) (by decide) ?_
          refine runk_exec (by simp only [exb, Nat.reduceAdd, Nat.reduceLeDiff, Nat.reduceEqDiff, Nat.reduceMul, Int.reduceToNat, reduceIte, Int.reduceLE, Int.reduceNeg, wi, li, li1, i0, i1, hll, hLq, hLk, Int.toNat_natCast, and_self, p0, p1, decide_true, Bool.not_true, decide_false, Bool.not_false]; rfl) ?_
          refine ⟨rfl, fun c K' hk => W.weaken ?_ (hk true (by simp [c0, c1]))⟩
          refine le_L ?sle ?mle (kept_not hkeep)
          case mle => repeat (first | exact mle_nil _ | exact mle_refl _ | refine mle_upd ?_ zb9q14)
          case sle => repeat (first | exact sle_top _ | exact sle_refl _ | refine sle_upd ?_ zb9q32)
        ·have p0 := eq_false c0
         refine W.regionDK tab_ok 0 follows_mixed (by kernel_rfl) (by decide) ?_
         refine runk_exec (by simp only [exb, Nat.reduceAdd, Nat.reduceLeDiff, Nat.reduceEqDiff, Nat.reduceMul, Int.reduceToNat, reduceIte, Int.reduceLE, Int.reduceNeg, wi, li, li1, i0, i1, hll, hLq, hLk, Int.toNat_natCast, and_self, p0, decide_false, Bool.not_false]; rfl) ?_
         refine ⟨rfl, fun c K' hk => W.weaken ?_ (hk true (by simp [c0]))⟩
         refine le_L ?sle ?mle (kept_not hkeep)
         case mle => repeat (first | exact mle_nil _ | exact mle_refl _ | refine mle_upd ?_ zb9q14)
         case sle => repeat (first | exact sle_top _ | exact sle_refl _ | refine sle_upd ?_ zb9q32)
       rintro bb hbb
       (repeat (first | refine W.seq ?_ | refine W.block ?_ | refine W.skip ?_ | refine W.exit ?_))
       refine W.cond rfl ?_ ?_
       ·intro h
        have h : bb = true := h
        rw [h] at hbb
        have hno : ¬ ((f : Int) = q ∧ (t : Int) = k) := by intro hh; simp [hh] at hbb
        repeat (first | refine W.seq ?_ | refine W.block ?_ | refine W.skip ?_ | refine W.exit ?_ | refine W.g ?_)
        refine ⟨j + 1, hlt3, by omega, ?_⟩
        rw [htk3, yS, if_neg hno]
        refine le_mk ?sle ?mle ?swf ?mwf (kept_not hkeep) (by rfl)
        case swf => repeat (first | exact swf_top _ | refine swf_upd ?_ (by simp [A.ids, upd_app, wrap_succ (show j + 1 < 9223372036854775808 by omega)]))
        case mwf => repeat (first | exact mwf_nil _ | refine mwf_upd ?_ (by simp [A.ids, O.ids, upd_app, wrap_succ (show j + 1 < 9223372036854775808 by omega)]))
        case mle => repeat (first | exact mle_nil _ | exact mle_refl _ | refine mle_upd ?_ zb9q2)
        case sle => repeat (first | exact sle_top _ | exact sle_refl _ | refine sle_upd ?_ zb9q9)
       ·intro h
        have h : bb = false := h
        rw [h] at hbb
        have hyes : (f : Int) = q ∧ (t : Int) = k := Classical.byContradiction fun hh => by simp [hh] at hbb
        repeat (first | refine W.seq ?_ | refine W.block ?_ | refine W.skip ?_ | refine W.exit ?_ | refine W.g ?_)
        refine W.loop (ι := Option Bool × Bool × Bool × Bool) (fun x => ⟨upd (upd (upd (upd (upd (upd (upd (upd (upd (upd (fun _ => .top) 3 (.c (.sl Lp))) 12 (.c (.sl ((E.map castS).map cS)))) 13 (.ptr 13 0)) 14 (.c (.int .i64 ((i + 1 : Nat) : Int)))) 15 (.ptr 15 0)) 56 (.c (.sl ((E.map castS).map cS)))) 57 (.c (.int .i64 E.length))) 58 (.c (.int .i64 (j : Nat)))) 17 (.ptr 17 0)) 18 (.c (.int .i64 (phI x.1))), upd (upd (upd Mem.nil 13 (some (.box 59 [.c (.bool (false)), .c (.bool (x1)), .c (.bool (x2))]))) 15 (some (.box 59 [.c (.bool ((x.2).1)), .c (.bool ((x.2).2.1)), .c (.bool ((x.2).2.2))]))) 17 (some (.box 55 [.c (.int .i64 (f : Int)), .c (.int .i64 (t : Int)), .c (.int .i64 (kk : Int)), .c (.int .i64 (s : Int))]))⟩) (fun x => phInv x1 x2 kk Y x.1 x.2) (fun x => phM x.1) (none, Y) ?start4 rfl ?round4
        case start4 =>
         refine le_mk ?sle ?mle ?swf ?mwf (kept_not hkeep) (by rfl)
         case swf => repeat (first | exact swf_top _ | refine swf_upd ?_ (by simp [A.ids, upd_app, phI]))
         case mwf => repeat (first | exact mwf_nil _ | refine mwf_upd ?_ (by simp [A.ids, O.ids, upd_app, phI]))
         case mle => repeat (first | exact mle_nil _ | exact mle_refl _ | refine mle_upd ?_ (by first | rfl | (simp only [upd_app, killM_app, O.kill, A.kill, Nat.reduceEqDiff, reduceIte, Option.map_some, Option.map_none, List.map_cons, List.map_nil, phI]; done)))
         case sle => repeat (first | exact sle_top _ | exact sle_refl _ | refine sle_upd ?_ (by first | rfl | (simp only [upd_app, killS_app, A.kill, entry_zero, entry_succ, Nat.reduceEqDiff, reduceIte, phI]; done)))
        case round4 =>
         rintro ⟨o, y0, y1, y2⟩ hinv
         simp only at hinv ⊢
         rcases o with _ | (_ | _)
         ·skip
          (repeat (first | refine W.seq ?_ | refine W.block ?_ | refine W.skip ?_ | refine W.exit ?_))
          refine W.g ?_ zb9q8
          refine W.cond rfl (fun _ => ?_) (fun h => absurd h (by simp))
          (repeat (first | refine W.seq ?_ | refine W.block ?_ | refine W.skip ?_ | refine W.exit ?_))
          refine W.regionG (by decide) ?_
          refine g_split tab_ok 0 1 (runk_exec zb9q24 ?_)
          refine g_idx (inf := infB) zb9q15 rfl rfl zb9q15 zb9q15 rfl und3 inf3 siz3 (by decide) (by decide) ?_
          refine g_split tab_ok 0 1 (runk_exec zb9q20 ?_)
          refine g_nil ?_
          cases x1
          ·refine W.cond rfl (fun h => absurd h (by simp)) (fun _ => ?_)
           repeat (first | refine W.seq ?_ | refine W.block ?_ | refine W.skip ?_ | refine W.exit ?_ | refine W.g ?_ zb9q24)
           refine ⟨(some false, y0, y1, y2), ?inv, by simp [phM], ?_⟩
           case inv => simp only [phInv] at hinv ⊢; rw [← hinv]; rfl
           refine le_L ?sle ?mle (kept_not hkeep)
           case mle => repeat (first | exact mle_nil _ | exact mle_refl _ | refine mle_upd ?_ zb9q31)
           case sle => repeat (first | exact sle_top _ | exact sle_refl _ | refine sle_upd ?_ zb9q30)
          ·refine W.cond rfl (fun _ => ?_) (fun h => absurd h (by simp))
           (repeat (first | refine W.seq ?_ | refine W.block ?_ | refine W.skip ?_ | refine W.exit ?_))
           have hal := aft_le kk 1 (by decide)
           rcases (show aft kk 1 = 0 ∨ aft kk 1 = 1 ∨ aft kk 1 = 2 by omega) with e | e | e
           ·have ha : ∀ m, COk Try.prog 34 [.c (.int .i64 (kk : Int)), .c (.int .i64 1)] m (.c (.int .i64 0)) := fun m => by have := after_ok kk 1 m; rw [e] at this; exact this
            refine W.regionG (by decide) ?_
            refine g_split tab_ok 0 4 ?_
            refine runk_split 3 zb9q17 ?_
            refine runk_call rfl rfl rfl rfl rfl (by simp) (cvs_cons cv_refl (cvs_cons cv_refl cvs_nil)) (ha _) ?_
            refine xe0 ?_
            refine g_idx (inf := infB) zb9q15 rfl rfl zb9q15 zb9q15 rfl und3 inf3 siz3 (by decide) (by decide) ?_
            refine g_split tab_ok 0 1 (runk_exec zb9q3 ?_)
            refine g_nil ?_
            repeat (first | refine W.seq ?_ | refine W.block ?_ | refine W.skip ?_ | refine W.exit ?_ | refine W.g ?_ zb9q24)
            refine ⟨(some false, true, y1, y2), ?inv0, by simp [phM], ?_⟩
            case inv0 => simp only [phInv] at hinv ⊢; (first | rw [← hinv] | rw [hinv]); simp [phS, putY, e]
            refine le_L ?sle ?mle (kept_not hkeep)
            case mle => repeat (first | exact mle_nil _ | exact mle_refl _ | refine mle_upd ?_ zb9q37)
            case sle => repeat (first | exact sle_top _ | exact sle_refl _ | refine sle_upd ?_ zb9q34)
           ·have ha : ∀ m, COk Try.prog 34 [.c (.int .i64 (kk : Int)), .c (.int .i64 1)] m (.c (.int .i64 1)) := fun m => by have := after_ok kk 1 m; rw [e] at this; exact this
            refine W.regionG (by decide) ?_
            refine g_split tab_ok 0 4 ?_
            refine runk_split 3 zb9q17 ?_
            refine runk_call rfl rfl rfl rfl rfl (by simp) (cvs_cons cv_refl (cvs_cons cv_refl cvs_nil)) (ha _) ?_
            refine xe0 ?_
            refine g_idx (inf := infB) zb9q15 rfl rfl zb9q15 zb9q15 rfl und3 inf3 siz3 (by decide) (by decide) ?_
            refine g_split tab_ok 0 1 (runk_exec zb9q3 ?_)
            refine g_nil ?_
            repeat (first | refine W.seq ?_ | refine W.block ?_ | refine W.skip ?_ | refine W.exit ?_ | refine W.g ?_ zb9q24)
            refine ⟨(some false, y0, true, y2), ?inv1, by simp [phM], ?_⟩
            case inv1 => simp only [phInv] at hinv ⊢; (first | rw [← hinv] | rw [hinv]); simp [phS, putY, e]
            refine le_L ?sle ?mle (kept_not hkeep)
            case mle => repeat (first | exact mle_nil _ | exact mle_refl _ | refine mle_upd ?_ zb9q37)
            case sle => repeat (first | exact sle_top _ | exact sle_refl _ | refine sle_upd ?_ zb9q34)
           ·have ha : ∀ m, COk Try.prog 34 [.c (.int .i64 (kk : Int)), .c (.int .i64 1)] m (.c (.int .i64 2)) := fun m => by have := after_ok kk 1 m; rw [e] at this; exact this
            refine W.regionG (by decide) ?_
            refine g_split tab_ok 0 4 ?_
            refine runk_split 3 zb9q17 ?_
            refine runk_call rfl rfl rfl rfl rfl (by simp) (cvs_cons cv_refl (cvs_cons cv_refl cvs_nil)) (ha _) ?_
            refine xe0 ?_
            refine g_idx (inf := infB) zb9q15 rfl rfl zb9q15 zb9q15 rfl und3 inf3 siz3 (by decide) (by decide) ?_
            refine g_split tab_ok 0 1 (runk_exec zb9q3 ?_)
            refine g_nil ?_
            repeat (first | refine W.seq ?_ | refine W.block ?_ | refine W.skip ?_ | refine W.exit ?_ | refine W.g ?_ zb9q24)
            refine ⟨(some false, y0, y1, true), ?inv2, by simp [phM], ?_⟩
            case inv2 => simp only [phInv] at hinv ⊢; (first | rw [← hinv] | rw [hinv]); simp [phS, putY, e]
            refine le_L ?sle ?mle (kept_not hkeep)
            case mle => repeat (first | exact mle_nil _ | exact mle_refl _ | refine mle_upd ?_ zb9q37)
            case sle => repeat (first | exact sle_top _ | exact sle_refl _ | refine sle_upd ?_ zb9q34)
         ·skip
          (repeat (first | refine W.seq ?_ | refine W.block ?_ | refine W.skip ?_ | refine W.exit ?_))
          refine W.g ?_ zb9q8
          refine W.cond rfl (fun _ => ?_) (fun h => absurd h (by simp))
          (repeat (first | refine W.seq ?_ | refine W.block ?_ | refine W.skip ?_ | refine W.exit ?_))
          refine W.regionG (by decide) ?_
          refine g_split tab_ok 0 1 (runk_exec zb9q24 ?_)
          refine g_idx (inf := infB) zb9q15 rfl rfl zb9q15 zb9q15 rfl und3 inf3 siz3 (by decide) (by decide) ?_
          refine g_split tab_ok 0 1 (runk_exec zb9q20 ?_)
          refine g_nil ?_
          cases x2
          ·refine W.cond rfl (fun h => absurd h (by simp)) (fun _ => ?_)
           repeat (first | refine W.seq ?_ | refine W.block ?_ | refine W.skip ?_ | refine W.exit ?_ | refine W.g ?_ zb9q24)
           refine ⟨(some true, y0, y1, y2), ?inv, by simp [phM], ?_⟩
           case inv => simp only [phInv] at hinv ⊢; rw [← hinv]; rfl
           refine le_L ?sle ?mle (kept_not hkeep)
           case mle => repeat (first | exact mle_nil _ | exact mle_refl _ | refine mle_upd ?_ zb9q31)
           case sle => repeat (first | exact sle_top _ | exact sle_refl _ | refine sle_upd ?_ zb9q30)
          ·refine W.cond rfl (fun _ => ?_) (fun h => absurd h (by simp))
           (repeat (first | refine W.seq ?_ | refine W.block ?_ | refine W.skip ?_ | refine W.exit ?_))
           have hal := aft_le kk 2 (by decide)
           rcases (show aft kk 2 = 0 ∨ aft kk 2 = 1 ∨ aft kk 2 = 2 by omega) with e | e | e
           ·have ha : ∀ m, COk Try.prog 34 [.c (.int .i64 (kk : Int)), .c (.int .i64 2)] m (.c (.int .i64 0)) := fun m => by have := after_ok kk 2 m; rw [e] at this; exact this
            refine W.regionG (by decide) ?_
            refine g_split tab_ok 0 4 ?_
            refine runk_split 3 zb9q17 ?_
            refine runk_call rfl rfl rfl rfl rfl (by simp) (cvs_cons cv_refl (cvs_cons cv_refl cvs_nil)) (ha _) ?_
            refine xe0 ?_
            refine g_idx (inf := infB) zb9q15 rfl rfl zb9q15 zb9q15 rfl und3 inf3 siz3 (by decide) (by decide) ?_
            refine g_split tab_ok 0 1 (runk_exec zb9q3 ?_)
            refine g_nil ?_
            repeat (first | refine W.seq ?_ | refine W.block ?_ | refine W.skip ?_ | refine W.exit ?_ | refine W.g ?_ zb9q24)
            refine ⟨(some true, true, y1, y2), ?inv0, by simp [phM], ?_⟩
            case inv0 => simp only [phInv] at hinv ⊢; (first | rw [← hinv] | rw [hinv]); simp [phS, putY, e]
            refine le_L ?sle ?mle (kept_not hkeep)
            case mle => repeat (first | exact mle_nil _ | exact mle_refl _ | refine mle_upd ?_ zb9q37)
            case sle => repeat (first | exact sle_top _ | exact sle_refl _ | refine sle_upd ?_ zb9q34)
           ·have ha : ∀ m, COk Try.prog 34 [.c (.int .i64 (kk : Int)), .c (.int .i64 2)] m (.c (.int .i64 1)) := fun m => by have := after_ok kk 2 m; rw [e] at this; exact this
            refine W.regionG (by decide) ?_
            refine g_split tab_ok 0 4 ?_
            refine runk_split 3 zb9q17 ?_
            refine runk_call rfl rfl rfl rfl rfl (by simp) (cvs_cons cv_refl (cvs_cons cv_refl cvs_nil)) (ha _) ?_
            refine xe0 ?_
            refine g_idx (inf := infB) zb9q15 rfl rfl zb9q15 zb9q15 rfl und3 inf3 siz3 (by decide) (by decide) ?_
            refine g_split tab_ok 0 1 (runk_exec zb9q3 ?_)
            refine g_nil ?_
            repeat (first | refine W.seq ?_ | refine W.block ?_ | refine W.skip ?_ | refine W.exit ?_ | refine W.g ?_ zb9q24)
            refine ⟨(some true, y0, true, y2), ?inv1, by simp [phM], ?_⟩
            case inv1 => simp only [phInv] at hinv ⊢; (first | rw [← hinv] | rw [hinv]); simp [phS, putY, e]
            refine le_L ?sle ?mle (kept_not hkeep)
            case mle => repeat (first | exact mle_nil _ | exact mle_refl _ | refine mle_upd ?_ zb9q37)
            case sle => repeat (first | exact sle_top _ | exact sle_refl _ | refine sle_upd ?_ zb9q34)
           ·have ha : ∀ m, COk Try.prog 34 [.c (.int .i64 (kk : Int)), .c (.int .i64 2)] m (.c (.int .i64 2)) := fun m => by have := after_ok kk 2 m; rw [e] at this; exact this
            refine W.regionG (by decide) ?_
            refine g_split tab_ok 0 4 ?_
            refine runk_split 3 zb9q17 ?_
            refine runk_call rfl rfl rfl rfl rfl (by simp) (cvs_cons cv_refl (cvs_cons cv_refl cvs_nil)) (ha _) ?_
            refine xe0 ?_
            refine g_idx (inf := infB) zb9q15 rfl rfl zb9q15 zb9q15 rfl und3 inf3 siz3 (by decide) (by decide) ?_
            refine g_split tab_ok 0 1 (runk_exec zb9q3 ?_)
            refine g_nil ?_
            repeat (first | refine W.seq ?_ | refine W.block ?_ | refine W.skip ?_ | refine W.exit ?_ | refine W.g ?_ zb9q24)
            refine ⟨(some true, y0, y1, true), ?inv2, by simp [phM], ?_⟩
            case inv2 => simp only [phInv] at hinv ⊢; (first | rw [← hinv] | rw [hinv]); simp [phS, putY, e]
            refine le_L ?sle ?mle (kept_not hkeep)
            case mle => repeat (first | exact mle_nil _ | exact mle_refl _ | refine mle_upd ?_ zb9q37)
            case sle => repeat (first | exact sle_top _ | exact sle_refl _ | refine sle_upd ?_ zb9q34)
         ·skip
          (repeat (first | refine W.seq ?_ | refine W.block ?_ | refine W.skip ?_ | refine W.exit ?_))
          refine W.g ?_ (by simp only [exb, Nat.reduceAdd, Nat.reduceLeDiff, Nat.reduceEqDiff, Nat.reduceMul, Int.reduceToNat, reduceIte, Int.reduceLE, Int.reduceNeg, phI, Int.reduceLE, decide_false]; rfl)
          refine W.cond rfl (fun h => absurd h (by simp)) (fun _ => ?_)
          repeat (first | refine W.seq ?_ | refine W.block ?_ | refine W.skip ?_ | refine W.exit ?_ | refine W.g ?_)
          refine ⟨j + 1, hlt3, by omega, ?_⟩
          rw [htk3, yS, if_pos hyes]
          have hinv : phS x2 kk 2 (phS x1 kk 1 Y) = (y0, y1, y2) := hinv
          rw [hinv]
          refine le_mk ?sle ?mle ?swf ?mwf (kept_not hkeep) (by rfl)
          case swf => repeat (first | exact swf_top _ | refine swf_upd ?_ (by simp [A.ids, upd_app, wrap_succ (show j + 1 < 9223372036854775808 by omega)]))
          case mwf => repeat (first | exact mwf_nil _ | refine mwf_upd ?_ (by simp [A.ids, O.ids, upd_app, wrap_succ (show j + 1 < 9223372036854775808 by omega)]))
          case mle => repeat (first | exact mle_nil _ | exact mle_refl _ | refine mle_upd ?_ zb9q2)
          case sle => repeat (first | exact sle_top _ | exact sle_refl _ | refine sle_upd ?_ zb9q9)
      ·intro hge3
       simp only [decide_eq_false_iff_not, Int.ofNat_lt] at hge3
       obtain rfl : j = E.length := by omega
       rw [List.take_length]
       obtain ⟨ya1, ya2⟩ := yA_spec q k x1 x2 E
       have nx1 := flg_next (b := k) hal hx1 hx2 1 (.inl rfl)
       have nx2 := flg_next (b := k) hal hx1 hx2 2 (.inr rfl)
       rw [← ya1] at nx1
       rw [← ya2] at nx2
       clear ya1 ya2
       generalize yA q k x1 x2 E = YY at nx1 nx2 ⊢
       obtain ⟨y0, y1, y2⟩ := YY
       replace nx1 : y1 = true ↔ _ := nx1
       replace nx2 : y2 = true ↔ _ := nx2
       (repeat (first | refine W.seq ?_ | refine W.block ?_ | refine W.skip ?_ | refine W.exit ?_))
       refine W.regionG (by decide) ?_
       refine g_idx (inf := infB) zb9q15 rfl rfl zb9q15 zb9q15 rfl und3 inf3 siz3 (by decide) (by decide) ?_
       refine g_split tab_ok 0 1 (runk_exec zb9q20 ?_)
       refine g_idx (inf := infB) zb9q15 rfl rfl zb9q15 zb9q15 rfl und3 inf3 siz3 (by decide) (by decide) ?_
       refine g_split tab_ok 0 1 (runk_exec zb9q20 ?_)
       refine g_arr tab_ok (inf := infB) rfl rfl rfl und3 inf3 siz3 rfl rfl ?_
       refine g_split tab_ok 0 1 (runk_exec zb9q3 ?_)
       refine g_nil ?_
       repeat (first | refine W.seq ?_ | refine W.block ?_ | refine W.skip ?_ | refine W.exit ?_ | refine W.g ?_)
       refine ⟨(i + 1, y1, y2), ⟨hlt, k, hLk, ?_, ?_, ?_⟩, by simp; omega, ?_⟩
       ·show y1 = true ↔ _
        rw [nx1, htk]
        refine exists_congr fun j => and_congr_right fun _ => ?_
        constructor <;> intro h <;> omega
       ·show y2 = true ↔ _
        rw [nx2, htk]
        refine exists_congr fun j => and_congr_right fun _ => ?_
        constructor <;> intro h <;> omega
       ·intro j hj
        rw [htk] at hj
        exact vSet_last hj
       ·skip
        refine le_mk ?sle ?mle ?swf ?mwf (kept_not hkeep) (by rfl)
        case swf => repeat (first | exact swf_top _ | refine swf_upd ?_ (by simp [A.ids, upd_app, wrap_succ (show i + 1 + 1 < 9223372036854775808 by omega)]))
        case mwf => repeat (first | exact mwf_nil _ | refine mwf_upd ?_ (by simp [A.ids, O.ids, upd_app, wrap_succ (show i + 1 + 1 < 9223372036854775808 by omega)]))
        case mle => repeat (first | exact mle_nil _ | exact mle_refl _ | refine mle_upd ?_ (by first | rfl | (simp only [upd_app, killM_app, O.kill, A.kill, Nat.reduceEqDiff, reduceIte, Option.map_some, Option.map_none, List.map_cons, List.map_nil, wrap_succ (show i + 1 + 1 < 9223372036854775808 by omega)]; done)))
        case sle => repeat (first | exact sle_top _ | exact sle_refl _ | refine sle_upd ?_ (by first | rfl | (simp only [upd_app, killS_app, A.kill, entry_zero, entry_succ, Nat.reduceEqDiff, reduceIte, wrap_succ (show i + 1 + 1 < 9223372036854775808 by omega)]; done)))
    ·intro hge
     have hge : i = r.length := by simp only [decide_eq_false_iff_not] at hge; omega
     subst hge
     rw [List.take_length] at hx1 hx2 hal
     have hres := hv (x1 || x2) (by
      rw [Bool.or_eq_true, hx1, hx2]
      constructor
      ·rintro (⟨j, hj, -⟩ | ⟨j, hj, -⟩)
       ·exact ⟨j, hj⟩
       ·exact ⟨j, hj⟩
      ·rintro ⟨j, hj⟩
       have := hal j hj
       rcases Nat.mod_two_eq_zero_or_one j with e | e
       ·exact .inl ⟨j, hj, by omega⟩
       ·exact .inr ⟨j, hj, by omega⟩)
     rw [hres]
     (repeat (first | refine W.seq ?_ | refine W.block ?_ | refine W.skip ?_ | refine W.exit ?_))
     refine W.regionG (by decide) ?_
     cases x1
     ·skip
      refine g_idx (inf := infB) zb9q15 rfl rfl zb9q15 zb9q15 rfl und3 inf3 siz3 (by decide) (by decide) ?_
      refine g_split tab_ok 0 2 (runk_exec zb9q20 ?_)
      refine g_idx (inf := infB) zb9q15 rfl rfl zb9q15 zb9q15 rfl und3 inf3 siz3 (by decide) (by decide) ?_
      refine g_split tab_ok 0 3 (runk_exec zb9q20 ?_)
      refine g_nil ?_
      repeat (first | refine W.seq ?_ | refine W.block ?_ | refine W.skip ?_ | refine W.exit ?_ | refine W.g ?_)
      refine W.ret ⟨.inr rfl, by rfl, ?_⟩
      simp only [Try.f18, resA, resOne, toT, fin, exb, Nat.reduceAdd, Nat.reduceLeDiff, Nat.reduceEqDiff, Nat.reduceMul, Int.reduceToNat, reduceIte, Int.reduceLE, Int.reduceNeg]
      rfl
     ·skip
      refine g_idx (inf := infB) zb9q15 rfl rfl zb9q15 zb9q15 rfl und3 inf3 siz3 (by decide) (by decide) ?_
      refine g_split tab_ok 0 6 (runk_exec zb9q20 ?_)
      refine g_nil ?_
      repeat (first | refine W.seq ?_ | refine W.block ?_ | refine W.skip ?_ | refine W.exit ?_ | refine W.g ?_)
      refine W.ret ⟨.inr rfl, by rfl, ?_⟩
      simp only [Try.f18, resA, resOne, toT, fin, exb, Nat.reduceAdd, Nat.reduceLeDiff, Nat.reduceEqDiff, Nat.reduceMul, Int.reduceToNat, reduceIte, Int.reduceLE, Int.reduceNeg]
      rfl
end V
end Go.Proofs.Ytmhchhmhpoldhaa
end
section
namespace Go.Proofs.Ytmhchhmhpoldhaa
namespace V
open Go.RowKit G
theorem two_far : Ms.farF (allS 6 twoL) (ends2 4) = fun i => if i = 8 ∨ i = 9 then 1 else if i = 0 ∨ i = 1 ∨ i = 2 then 2 else 0 := by
 rw [two_steps]
 refine Ms.farF_eq (by simp [ends2]) (fun i h => ?_) (fun i v h => ?_) (by simp)
 ·(try simp only at h); split at h
  ·rename_i e; simp [ends2]; omega
  ·split at h <;> omega
 ·(try simp only at h); split at h
  ·omega
  ·split at h
   ·rename_i e
    obtain rfl : v = 0 := by omega
    rcases e with rfl | rfl | rfl
    ·exact ⟨8, by simp, rfl⟩
    ·exact ⟨9, by simp, rfl⟩
    ·exact ⟨8, by simp, rfl⟩
   ·omega
theorem two_path : pthO (allS 6 twoL) [0] 4 = [0, 4] := by
 rw [← walkR_pth (N := 12) (S := allS 6 twoL) (t := 4) (src := [0]) (by simp)]
 unfold walkR
 rw [two_far]
 show 0 :: [lst (cand (allS 6 twoL) (ends2 4) 0 (succP (allS 6 twoL) (· = 2 * 0)))] = [0, 4]
 have : lst (cand (allS 6 twoL) (ends2 4) 0 (succP (allS 6 twoL) (· = 2 * 0))) = 4 := by
  refine lst_eq ⟨8, ⟨0, rfl, by rw [two_steps]; simp⟩, rfl, Ms.dst_zero.2 (by simp [ends2])⟩ fun x ⟨i, _, h2, h3⟩ => ?_
  have := mem_ends2.1 (Ms.dst_zero.1 h3)
  omega
 rw [this]
theorem two_reachO0 : reachO 6 twoL [0] = ([0, 1, 4], 0) := by
 unfold reachO
 rw [if_pos (by decide)]
 exact congrArg (fun x => (x, (0 : Int))) two_reach0
theorem two_reachO1 : reachO 6 twoL [1] = ([1, 4, 5], 0) := by
 unfold reachO
 rw [if_pos (by decide)]
 exact congrArg (fun x => (x, (0 : Int))) two_reach1
theorem two_pathO : pathO 6 twoL [0] 4 = ([0, 4], 0) := by
 unfold pathO
 rw [if_pos (by decide)]
 have h : pthO (allS (6 : Int).toNat twoL) (natI [0]) (4 : Int).toNat = [0, 4] := two_path
 rw [h]
 rfl
theorem two_valid : validO 6 twoL [0] [0, 4] = true := by
 refine validO_iff.2 ⟨by decide, 0, by simp [natI], rfl, 8, rfl, 0, rfl, ?_⟩
 have : allS (6 : Int).toNat twoL = _ := two_steps
 rw [this]
 simp
theorem two_small : Small 6 twoL := by
 refine ⟨by decide, fun _ => ?_⟩
 rw [show (6 : Int).toNat = 6 from rfl, two_steps]
 refine ⟨by decide, ?_⟩
 unfold wholeE
 rw [show ((6 : Nat) : Int).toNat = 6 from rfl, two_sum]
 decide
theorem same_lit (a : List Nat) (b : List Int) (ha : a.length ≤ 1000) (h : a.map (fun i : Nat => (i : Int)) = b) (m : Mem) : COk Try.prog 14 [.c (.sl (a.map cN)), .c (.sl (b.map cZ))] m (.c (.bool true)) := by
 have := sameInts_ok (zN a) b (by rw [zN_len]; omega) m
 rw [cZ_zN, show zN a = b from h] at this
 simpa using this
set_option maxHeartbeats 4000000 in
theorem live_ok (m : Mem) : COk Try.prog 9 [] m (.c (.bool true)) := by
 have hr0 := fun m => reachZ_ok 6 twoL [0] two_small (by decide) m
 have hr1 := fun m => reachZ_ok 6 twoL [1] two_small (by decide) m
 have hpp := fun m => pathZ_ok 6 twoL [0] 4 two_small (by decide) m
 have hvv := fun m => validZ_ok 6 twoL [0] [0, 4] two_small (by decide) (by decide) m
 have h1 := fun m => same_lit [0, 1, 4] [0, 1, 4] (by decide) rfl m
 have h2 := fun m => same_lit [1, 4, 5] [1, 4, 5] (by decide) rfl m
 have h3 := fun m => same_lit [0, 4] [0, 4] (by decide) rfl m
 rw [two_reachO0] at hr0
 rw [two_reachO1] at hr1
 rw [two_pathO] at hpp
 rw [two_valid] at hvv
 simp only at hr0 hr1 hpp
 obtain ⟨L, hL⟩ : ∃ L, L = twoL.map cS := ⟨_, rfl⟩
 have htw := two_ok
 rw [← hL] at hr0 hr1 hpp hvv htw
 refine (ok_pure tab_ok Try.func9 (by kernel_rfl) rfl rfl (by rfl) (by rfl) (by rfl) (fun R hkeep => ?_) m)
 repeat (first | refine W.seq ?_ | refine W.block ?_ | refine W.skip ?_ | refine W.exit ?_ | refine W.g ?_)
 refine W.regionK tab_ok 0 (by decide) ?_
 refine xs0 0 ?_
 refine runk_call rfl rfl rfl rfl rfl (by simp) cvs_nil (htw _) ?_
 refine runk_split 1 zb9q12 ?_
 refine runk_call rfl rfl rfl rfl rfl (by simp) (cvs_cons cv_refl (cvs_cons cv_refl (cvs_cons cv_refl cvs_nil))) (hr0 _) ?_
 refine xe0 ?_
 (repeat (first | refine W.seq ?_ | refine W.block ?_ | refine W.skip ?_ | refine W.exit ?_))
 refine W.regionK tab_ok 0 (by decide) ?_
 refine xs0 0 ?_
 refine runk_call rfl rfl rfl rfl rfl (by simp) cvs_nil (htw _) ?_
 refine runk_split 1 zb9q12 ?_
 refine runk_call rfl rfl rfl rfl rfl (by simp) (cvs_cons cv_refl (cvs_cons cv_refl (cvs_cons cv_refl cvs_nil))) (hr1 _) ?_
 refine xe0 ?_
 (repeat (first | refine W.seq ?_ | refine W.block ?_ | refine W.skip ?_ | refine W.exit ?_))
 refine W.regionK tab_ok 0 (by decide) ?_
 refine xs0 0 ?_
 refine runk_call rfl rfl rfl rfl rfl (by simp) cvs_nil (htw _) ?_
 refine runk_split 1 zb9q12 ?_
 refine runk_call rfl rfl rfl rfl rfl (by simp) (cvs_cons cv_refl (cvs_cons cv_refl (cvs_cons cv_refl (cvs_cons cv_refl cvs_nil)))) (hpp _) ?_
 refine xe0 ?_
 (repeat (first | refine W.seq ?_ | refine W.block ?_ | refine W.skip ?_ | refine W.exit ?_))
 refine W.regionK tab_ok 0 (by decide) ?_
 refine runk_split 13 zb9q10 ?_
 refine runk_call rfl rfl rfl rfl rfl (by simp) (cvs_cons cv_refl (cvs_cons cv_refl cvs_nil)) (h1 _) ?_
 refine runk_split 4 zb9q10 ?_
 refine runk_call rfl rfl rfl rfl rfl (by simp) (cvs_cons cv_refl (cvs_cons cv_refl cvs_nil)) (h2 _) ?_
 refine runk_split 4 zb9q10 ?_
 refine runk_call rfl rfl rfl rfl rfl (by simp) (cvs_cons cv_refl (cvs_cons cv_refl cvs_nil)) (h3 _) ?_
 refine xs0 2 ?_
 refine runk_call rfl rfl rfl rfl rfl (by simp) cvs_nil (htw _) ?_
 refine xs0 2 ?_
 refine runk_call rfl rfl rfl rfl rfl (by simp) (cvs_cons cv_refl (cvs_cons cv_refl (cvs_cons cv_refl (cvs_cons cv_refl cvs_nil)))) (hvv _) ?_
 refine xe0 ?_
 repeat (first | refine W.seq ?_ | refine W.block ?_ | refine W.skip ?_ | refine W.exit ?_ | refine W.g ?_)
 refine W.ret ⟨.inr rfl, by rfl, ?_⟩
 simp only [Try.f9, resA, resOne, toT, fin, exb, Nat.reduceAdd, Nat.reduceLeDiff, Nat.reduceEqDiff, Nat.reduceMul, Int.reduceToNat, reduceIte, Int.reduceLE, Int.reduceNeg]
end V
end Go.Proofs.Ytmhchhmhpoldhaa
end
section
namespace Go.Proofs.Ytmhchhmhpoldhaa
namespace V
open Go.RowKit G
theorem sumI_sq {n : Int} {l : List Q} (hc : chkS n l = true) : (sumI n l).length ≤ n.toNat * n.toNat := by
 obtain ⟨h1, h2, h3⟩ := natS_back hc
 unfold sumI
 rw [List.length_map]
 have hnd : (sumL (natS l) n.toNat).Nodup := (sumL_rising _ _).imp fun {a b} (h : lexLt a b) (e : a = b) => lex_irrefl a (by rw [← e] at h; exact h)
 refine pairs_len (N := n.toNat) hnd fun p hp => ?_
 have := mem_sumL.1 (show (p.1, p.2) ∈ sumL (natS l) n.toNat from hp)
 exact ⟨this.1, this.2.1⟩
theorem small_len {n : Int} {l : List Q} (hl : l.length ≤ 400) (hn : n ≤ 80 ∨ 100000 < n) : Small n l := by
 refine ⟨by omega, fun hc => ?_⟩
 have hb := (natS_back hc).2.1
 have h1 : n.toNat ≤ 80 := by omega
 have h2 := sumI_sq hc
 have h3 : n.toNat * n.toNat ≤ 80 * 80 := Nat.mul_le_mul h1 h1
 have h4 := wholeE_len (n.toNat : Int) l
 have hnn : ((n.toNat : Nat) : Int) = n := by omega
 rw [hnn] at h4
 have h5 := stp_len (wholeE n.toNat l)
 have h6 : (wholeE (n.toNat : Int) l).length ≤ 6800 := by rw [hnn, h4]; omega
 refine ⟨?_, by omega⟩
 unfold allS
 omega
theorem big_bound {n : Int} {l : List Q} (hb : bigS n l = false) : l.length ≤ 300 ∧ (n ≤ 80 ∨ 100000 < n) := by
 unfold bigS at hb
 simp only [Bool.or_eq_false_iff, Bool.and_eq_false_iff, decide_eq_false_iff_not] at hb
 omega
theorem same_self (A : List Nat) (hA : A.length ≤ 1000000000) (m : Mem) : COk Try.prog 14 [.c (.sl (A.map cN)), .c (.sl (A.map cN))] m (.c (.bool true)) := by
 have := sameInts_ok (zN A) (zN A) (by rw [zN_len]; omega) m
 rw [cZ_zN] at this
 simpa using this
theorem same_selfZ (A : List Int) (hA : A.length ≤ 1000000000) (m : Mem) : COk Try.prog 14 [.c (.sl (A.map cZ)), .c (.sl (A.map cZ))] m (.c (.bool true)) := by
 have := sameInts_ok A A (by omega) m
 simpa using this
theorem pathF_len {S : List (Nat × Nat)} {src : List Nat} {n t : Nat} (hS : ∀ e ∈ S, e.1 < 2 * n ∧ e.2 < 2 * n) (ht : t < n) (h : Reached S src t) : (pathF S src t).length ≤ 2 * n ∧ 0 < (pathF S src t).length := by
 unfold pathF
 rw [pathP_len]
 obtain ⟨⟨i, hi, hd⟩, -⟩ := many_spec h
 have := Ms.dst_lt hS (fun j hj => by have := mem_ends2.1 hj; omega) hd
 omega
theorem reachO_len (n : Int) (l : List Q) (ids : List Int) : (reachO n l ids).1.length ≤ 100000 := by
 unfold reachO
 split
 ·rename_i h
  have := (natS_back (errN_good h).1).2.1
  have := reachB_len (Ms.farF (turnL (allS n.toNat l)) (twi (natI ids))) n.toNat
  simp only; omega
 ·exact Nat.zero_le _
theorem pathO_len (n : Int) (l : List Q) (ids : List Int) (to : Int) : (pathO n l ids to).1.length ≤ 200000 := by
 unfold pathO
 split
 ·rename_i h
  obtain ⟨hc, hz⟩ := errN_good h
  have hb := (natS_back hc).2.1
  obtain ⟨k, rfl⟩ := good_n hc
  have ht := hz to (by simp)
  split
  ·exact Nat.zero_le _
  ·simp only [pthO, Int.toNat_natCast]
   split
   ·rename_i hr
    have := (pathF_len (allS_lt hc) (show to.toNat < k by omega) hr).1
    omega
   ·exact Nat.zero_le _
 ·exact Nat.zero_le _
end V
end Go.Proofs.Ytmhchhmhpoldhaa
end
section
namespace Go.Proofs.Ytmhchhmhpoldhaa
namespace V
open Go.RowKit G
set_option maxHeartbeats 4000000 in
theorem lawReaches_ok (n : Int) (l : List Q) (ids : List Int) (m : Mem) : COk Try.prog 3 [.c (.int .i64 n), .c (.sl (l.map cS)), .c (.sl (ids.map cZ))] m (.c (.bool true)) := by
 refine (ok_pure tab_ok Try.func3 (by kernel_rfl) rfl rfl (by rfl) (by rfl) (by rfl) (fun R hkeep => ?_) m)
 repeat (first | refine W.seq ?_ | refine W.block ?_ | refine W.skip ?_ | refine W.exit ?_ | refine W.g ?_)
 refine W.regionK tab_ok 0 (by decide) ?_
 refine xs0 0 ?_
 refine runk_call rfl rfl rfl rfl rfl (by simp) cvs_nil (live_ok _) ?_
 refine xe0 ?_
 (repeat (first | refine W.seq ?_ | refine W.block ?_ | refine W.skip ?_ | refine W.exit ?_))
 refine W.regionK tab_ok 0 (by decide) ?_
 refine xs0 2 ?_
 refine runk_call rfl rfl rfl rfl rfl (by simp) (cvs_cons cv_refl (cvs_cons cv_refl cvs_nil)) (big_ok n l _) ?_
 by_cases hb : bigS n l = true
 ·rw [hb]
  refine xe0 ?_
  refine W.cond rfl (fun _ => ?_) (fun h => absurd h (by simp))
  repeat (first | refine W.seq ?_ | refine W.block ?_ | refine W.skip ?_ | refine W.exit ?_ | refine W.g ?_)
  refine W.ret ⟨.inr rfl, by rfl, ?_⟩
  simp only [Try.f3, resA, resOne, toT, fin, exb, Nat.reduceAdd, Nat.reduceLeDiff, Nat.reduceEqDiff, Nat.reduceMul, Int.reduceToNat, reduceIte, Int.reduceLE, Int.reduceNeg]
 rw [show bigS n l = false by simpa using hb]
 have hbb := big_bound (show bigS n l = false by simpa using hb)
 clear hb
 by_cases hm : (50 : Int) < (ids.length : Int)
 ·have p0 := eq_true hm
  refine runk_exec zb9q6 ?_
  refine W.cond rfl (fun _ => ?_) (fun h => absurd h (by simp))
  repeat (first | refine W.seq ?_ | refine W.block ?_ | refine W.skip ?_ | refine W.exit ?_ | refine W.g ?_)
  refine W.ret ⟨.inr rfl, by rfl, ?_⟩
  simp only [Try.f3, resA, resOne, toT, fin, exb, Nat.reduceAdd, Nat.reduceLeDiff, Nat.reduceEqDiff, Nat.reduceMul, Int.reduceToNat, reduceIte, Int.reduceLE, Int.reduceNeg]
 have p0 := eq_false hm
 refine runk_exec zb9q4 ?_
 refine W.cond rfl (fun h => absurd h (by simp)) (fun _ => ?_)
 have hsm := small_len (n := n) (l := l) (by omega) hbb.2
 have hr := fun m => reachZ_ok n l ids hsm (by omega) m
 have hq := fun m => refReachZ_ok n l ids hsm (by omega) m
 have hl := reachO_len n l ids
 generalize reachO n l ids = X at hr hq hl
 obtain ⟨A, e⟩ := X
 have hs1 := fun m => same_self A (Nat.le_trans hl (by omega)) m
 have hs2 := fun m => same_selfZ ids (by omega) m
 have how := fun m => own_ok l (by omega) m
 simp only at hr hq
 (repeat (first | refine W.seq ?_ | refine W.block ?_ | refine W.skip ?_ | refine W.exit ?_))
 refine W.regionK tab_ok 0 (by decide) ?_
 refine xs0 1 ?_
 refine runk_appendNil tab_ok 90 true rfl rfl rfl rfl rfl rfl rfl zb9q26 zb9q16 rfl rfl rfl rfl (fun z hz => by obtain ⟨y, -, rfl⟩ := List.mem_map.1 hz; rfl) (by rw [List.length_map]; omega) (by decide) ?_
 refine xe0 ?_
 (repeat (first | refine W.seq ?_ | refine W.block ?_ | refine W.skip ?_ | refine W.exit ?_))
 refine W.regionK tab_ok 0 (by decide) ?_
 refine xs0 3 ?_
 refine runk_call rfl rfl rfl rfl rfl (by simp) (cvs_cons cv_refl (cvs_cons cv_refl (cvs_cons (cv_own rfl) cvs_nil))) (hr _) ?_
 refine xe0 ?_
 (repeat (first | refine W.seq ?_ | refine W.block ?_ | refine W.skip ?_ | refine W.exit ?_))
 refine W.regionK tab_ok 0 (by decide) ?_
 refine xs0 2 ?_
 refine runk_call rfl rfl rfl rfl rfl (by simp) (cvs_cons cv_refl cvs_nil) (how _) ?_
 refine xs0 1 ?_
 refine runk_call rfl rfl rfl rfl rfl (by simp) (cvs_cons cv_refl (cvs_cons cv_refl (cvs_cons cv_refl cvs_nil))) (hq _) ?_
 refine xe0 ?_
 (repeat (first | refine W.seq ?_ | refine W.block ?_ | refine W.skip ?_ | refine W.exit ?_))
 refine W.regionK tab_ok 0 (by decide) ?_
 refine xs0 4 ?_
 refine runk_call rfl rfl rfl rfl rfl (by simp) (cvs_cons cv_refl (cvs_cons cv_refl cvs_nil)) (hs1 _) ?_
 refine runk_split 9 zb9q11 ?_
 refine runk_call rfl rfl rfl rfl rfl (by simp) (cvs_cons (cv_own rfl) (cvs_cons cv_refl cvs_nil)) (hs2 _) ?_
 refine runk_exec zb9q11 ?_
 repeat (first | refine W.seq ?_ | refine W.block ?_ | refine W.skip ?_ | refine W.exit ?_ | refine W.g ?_)
 refine W.ret ⟨.inr rfl, by rfl, ?_⟩
 simp only [Try.f3, resA, resOne, toT, fin, exb, Nat.reduceAdd, Nat.reduceLeDiff, Nat.reduceEqDiff, Nat.reduceMul, Int.reduceToNat, reduceIte, Int.reduceLE, Int.reduceNeg]
set_option maxHeartbeats 4000000 in
theorem lawPaths_ok (n : Int) (l : List Q) (ids : List Int) (to : Int) (m : Mem) : COk Try.prog 4 [.c (.int .i64 n), .c (.sl (l.map cS)), .c (.sl (ids.map cZ)), .c (.int .i64 to)] m (.c (.bool true)) := by
 refine (ok_pure tab_ok Try.func4 (by kernel_rfl) rfl rfl (by rfl) (by rfl) (by rfl) (fun R hkeep => ?_) m)
 repeat (first | refine W.seq ?_ | refine W.block ?_ | refine W.skip ?_ | refine W.exit ?_ | refine W.g ?_)
 refine W.regionK tab_ok 0 (by decide) ?_
 refine xs0 0 ?_
 refine runk_call rfl rfl rfl rfl rfl (by simp) cvs_nil (live_ok _) ?_
 refine xe0 ?_
 (repeat (first | refine W.seq ?_ | refine W.block ?_ | refine W.skip ?_ | refine W.exit ?_))
 refine W.regionK tab_ok 0 (by decide) ?_
 refine xs0 2 ?_
 refine runk_call rfl rfl rfl rfl rfl (by simp) (cvs_cons cv_refl (cvs_cons cv_refl cvs_nil)) (big_ok n l _) ?_
 by_cases hb : bigS n l = true
 ·rw [hb]
  refine xe0 ?_
  refine W.cond rfl (fun _ => ?_) (fun h => absurd h (by simp))
  repeat (first | refine W.seq ?_ | refine W.block ?_ | refine W.skip ?_ | refine W.exit ?_ | refine W.g ?_)
  refine W.ret ⟨.inr rfl, by rfl, ?_⟩
  simp only [Try.f4, resA, resOne, toT, fin, exb, Nat.reduceAdd, Nat.reduceLeDiff, Nat.reduceEqDiff, Nat.reduceMul, Int.reduceToNat, reduceIte, Int.reduceLE, Int.reduceNeg]
 rw [show bigS n l = false by simpa using hb]
 have hbb := big_bound (show bigS n l = false by simpa using hb)
 clear hb
 by_cases hm : (50 : Int) < (ids.length : Int)
 ·have p0 := eq_true hm
  refine runk_exec zb9q6 ?_
  refine W.cond rfl (fun _ => ?_) (fun h => absurd h (by simp))
  repeat (first | refine W.seq ?_ | refine W.block ?_ | refine W.skip ?_ | refine W.exit ?_ | refine W.g ?_)
  refine W.ret ⟨.inr rfl, by rfl, ?_⟩
  simp only [Try.f4, resA, resOne, toT, fin, exb, Nat.reduceAdd, Nat.reduceLeDiff, Nat.reduceEqDiff, Nat.reduceMul, Int.reduceToNat, reduceIte, Int.reduceLE, Int.reduceNeg]
 have p0 := eq_false hm
 refine runk_exec zb9q4 ?_
 refine W.cond rfl (fun h => absurd h (by simp)) (fun _ => ?_)
 have hsm := small_len (n := n) (l := l) (by omega) hbb.2
 have hr := fun m => pathZ_ok n l ids to hsm (by omega) m
 have hq := fun m => refPathZ_ok n l ids to hsm (by omega) m
 have hl := pathO_len n l ids to
 generalize pathO n l ids to = X at hr hq hl
 obtain ⟨A, e⟩ := X
 have hs1 := fun m => same_self A (Nat.le_trans hl (by omega)) m
 have how := fun m => own_ok l (by omega) m
 simp only at hr hq
 (repeat (first | refine W.seq ?_ | refine W.block ?_ | refine W.skip ?_ | refine W.exit ?_))
 refine W.regionK tab_ok 0 (by decide) ?_
 refine xs0 4 ?_
 refine runk_call rfl rfl rfl rfl rfl (by simp) (cvs_cons cv_refl (cvs_cons cv_refl (cvs_cons cv_refl (cvs_cons cv_refl cvs_nil)))) (hr _) ?_
 refine xe0 ?_
 (repeat (first | refine W.seq ?_ | refine W.block ?_ | refine W.skip ?_ | refine W.exit ?_))
 refine W.regionK tab_ok 0 (by decide) ?_
 refine xs0 2 ?_
 refine runk_call rfl rfl rfl rfl rfl (by simp) (cvs_cons cv_refl cvs_nil) (how _) ?_
 refine xs0 2 ?_
 refine runk_call rfl rfl rfl rfl rfl (by simp) (cvs_cons cv_refl (cvs_cons cv_refl (cvs_cons cv_refl (cvs_cons cv_refl cvs_nil)))) (hq _) ?_
 refine xe0 ?_
 (repeat (first | refine W.seq ?_ | refine W.block ?_ | refine W.skip ?_ | refine W.exit ?_))
 refine W.regionK tab_ok 0 (by decide) ?_
 refine xs0 4 ?_
 refine runk_call rfl rfl rfl rfl rfl (by simp) (cvs_cons cv_refl (cvs_cons cv_refl cvs_nil)) (hs1 _) ?_
 refine runk_exec zb9q11 ?_
 repeat (first | refine W.seq ?_ | refine W.block ?_ | refine W.skip ?_ | refine W.exit ?_ | refine W.g ?_)
 refine W.ret ⟨.inr rfl, by rfl, ?_⟩
 simp only [Try.f4, resA, resOne, toT, fin, exb, Nat.reduceAdd, Nat.reduceLeDiff, Nat.reduceEqDiff, Nat.reduceMul, Int.reduceToNat, reduceIte, Int.reduceLE, Int.reduceNeg]
set_option maxHeartbeats 4000000 in
theorem lawValid_ok (n : Int) (l : List Q) (ids path : List Int) (m : Mem) : COk Try.prog 5 [.c (.int .i64 n), .c (.sl (l.map cS)), .c (.sl (ids.map cZ)), .c (.sl (path.map cZ))] m (.c (.bool true)) := by
 refine (ok_pure tab_ok Try.func5 (by kernel_rfl) rfl rfl (by rfl) (by rfl) (by rfl) (fun R hkeep => ?_) m)
 repeat (first | refine W.seq ?_ | refine W.block ?_ | refine W.skip ?_ | refine W.exit ?_ | refine W.g ?_)
 refine W.regionK tab_ok 0 (by decide) ?_
 refine xs0 0 ?_
 refine runk_call rfl rfl rfl rfl rfl (by simp) cvs_nil (live_ok _) ?_
 refine xe0 ?_
 (repeat (first | refine W.seq ?_ | refine W.block ?_ | refine W.skip ?_ | refine W.exit ?_))
 refine W.regionK tab_ok 0 (by decide) ?_
 refine xs0 2 ?_
 refine runk_call rfl rfl rfl rfl rfl (by simp) (cvs_cons cv_refl (cvs_cons cv_refl cvs_nil)) (big_ok n l _) ?_
 by_cases hb : bigS n l = true
 ·rw [hb]
  refine xe0 ?_
  refine W.cond rfl (fun _ => ?_) (fun h => absurd h (by simp))
  repeat (first | refine W.seq ?_ | refine W.block ?_ | refine W.skip ?_ | refine W.exit ?_ | refine W.g ?_)
  refine W.ret ⟨.inr rfl, by rfl, ?_⟩
  simp only [Try.f5, resA, resOne, toT, fin, exb, Nat.reduceAdd, Nat.reduceLeDiff, Nat.reduceEqDiff, Nat.reduceMul, Int.reduceToNat, reduceIte, Int.reduceLE, Int.reduceNeg]
 rw [show bigS n l = false by simpa using hb]
 have hbb := big_bound (show bigS n l = false by simpa using hb)
 clear hb
 by_cases hm : (50 : Int) < (ids.length : Int)
 ·have p0 := eq_true hm
  refine runk_exec zb9q6 ?_
  refine W.cond rfl (fun _ => ?_) (fun h => absurd h (by simp))
  repeat (first | refine W.seq ?_ | refine W.block ?_ | refine W.skip ?_ | refine W.exit ?_ | refine W.g ?_)
  refine W.ret ⟨.inr rfl, by rfl, ?_⟩
  simp only [Try.f5, resA, resOne, toT, fin, exb, Nat.reduceAdd, Nat.reduceLeDiff, Nat.reduceEqDiff, Nat.reduceMul, Int.reduceToNat, reduceIte, Int.reduceLE, Int.reduceNeg]
 have p0 := eq_false hm
 by_cases hm2 : (100 : Int) < (path.length : Int)
 ·have p1 := eq_true hm2
  refine runk_exec (by simp only [exb, Nat.reduceAdd, Nat.reduceLeDiff, Nat.reduceEqDiff, Nat.reduceMul, Int.reduceToNat, reduceIte, Int.reduceLE, Int.reduceNeg, p0, p1, decide_true, decide_false, List.length_map]; rfl) ?_
  refine W.cond rfl (fun _ => ?_) (fun h => absurd h (by simp))
  repeat (first | refine W.seq ?_ | refine W.block ?_ | refine W.skip ?_ | refine W.exit ?_ | refine W.g ?_)
  refine W.ret ⟨.inr rfl, by rfl, ?_⟩
  simp only [Try.f5, resA, resOne, toT, fin, exb, Nat.reduceAdd, Nat.reduceLeDiff, Nat.reduceEqDiff, Nat.reduceMul, Int.reduceToNat, reduceIte, Int.reduceLE, Int.reduceNeg]
 have p1 := eq_false hm2
 refine runk_exec (by simp only [exb, Nat.reduceAdd, Nat.reduceLeDiff, Nat.reduceEqDiff, Nat.reduceMul, Int.reduceToNat, reduceIte, Int.reduceLE, Int.reduceNeg, p0, p1, decide_false, List.length_map]; rfl) ?_
 refine W.cond rfl (fun h => absurd h (by simp)) (fun _ => ?_)
 have hsm := small_len (n := n) (l := l) (by omega) hbb.2
 have hr := fun m => validZ_ok n l ids path hsm (by omega) (by omega) m
 have hq := fun m => refValidZ_ok n l ids path hsm (by omega) (by omega) m
 have how := fun m => own_ok l (by omega) m
 generalize validO n l ids path = b at hr hq
 (repeat (first | refine W.seq ?_ | refine W.block ?_ | refine W.skip ?_ | refine W.exit ?_))
 refine W.regionK tab_ok 0 (by decide) ?_
 refine xs0 6 ?_
 refine runk_call rfl rfl rfl rfl rfl (by simp) (cvs_cons cv_refl (cvs_cons cv_refl (cvs_cons cv_refl (cvs_cons cv_refl cvs_nil)))) (hr _) ?_
 refine xs0 2 ?_
 refine runk_call rfl rfl rfl rfl rfl (by simp) (cvs_cons cv_refl cvs_nil) (how _) ?_
 refine xs0 2 ?_
 refine runk_call rfl rfl rfl rfl rfl (by simp) (cvs_cons cv_refl (cvs_cons cv_refl (cvs_cons cv_refl (cvs_cons cv_refl cvs_nil)))) (hq _) ?_
 refine xe0 ?_
 repeat (first | refine W.seq ?_ | refine W.block ?_ | refine W.skip ?_ | refine W.exit ?_ | refine W.g ?_)
 refine W.ret ⟨.inr rfl, by rfl, ?_⟩
 simp only [Try.f5, resA, resOne, toT, fin, exb, Nat.reduceAdd, Nat.reduceLeDiff, Nat.reduceEqDiff, Nat.reduceMul, Int.reduceToNat, reduceIte, Int.reduceLE, Int.reduceNeg]
end V
end Go.Proofs.Ytmhchhmhpoldhaa
end
section
namespace Go.Proofs.Ytmhchhmhpoldhaa
open Go.ChangeShapes Go.WideShapes Go.ChangeAt Go.RowKit
open Go.ChangeMaps (open_string shut_string)
open V
set_option maxRecDepth 100000 in
theorem flowReaches_lifted (os : Os) (started : os.Started) (H : Type) (enc : TypeId × Value → H) :
  ReturnsInHanded {} Try.checked os 3 .any (Rows.flowReachesSpec.pre6 enc Try.prog Try.f3 Rows.flowReachesRow.domain false) (Rows.flowReachesSpec.post enc Try.prog Try.f3 false true false false) := by
 refine returnsInHanded_of_change_shaped (C := Try.checked) own started (by kernel_rfl) Try.func3
  (ChangeSpec.witness6 (enc := enc) (C := Try.checked) false ⟨#[], #[.int .i64 0, .slice none 0 0, .slice none 0 0], []⟩ 8 (by kernel_rfl) (by kernel_rfl) (by kernel_rfl) (by kernel_rfl)) ?_
 intro W base args ds gs before hval0 hW hcnd hsz0 hsh _
 have hval : ∀ (j : Nat) t v, Try.f3.params[j]? = some t → args[j]? = some v → Value.okWide Try.prog W .any base t v := hval0
 have hW' := hW
 obtain ⟨p, q, hA0, hV, rfl, hfz, hnd⟩ := hW
 have hA : DataW.TrodAll enc Try.prog W 0 (fun _ => true) true Try.f3.params.toList args.toList ds p := hA0
 have hsz : ∀ n ∈ DataW.weightsEach Try.prog (Try.f3.params.toList ++ Rows.flowReachesSpec.plain.varTypes Try.prog) (ds ++ gs), n ≤ reachBytes := fun n hn => of_decide_eq_true (List.all_eq_true.1 hsz0 n hn)
 rw [Try.params3] at hA hval hsz
 clear hsz0
 obtain ⟨v0, vs0, d0, ds0, p0, q0, hargs, rfl, rfl, h0, r0⟩ := trodAll_cons hA
 obtain ⟨v1, vs1, d1, ds1, p1, q1, rfl, rfl, rfl, h1, r1⟩ := trodAll_cons r0
 obtain ⟨v2, vs2, d2, ds2, p2, q2, rfl, rfl, rfl, h2, r2⟩ := trodAll_cons r1
 obtain ⟨rfl, rfl, rfl⟩ := trodAll_nil r2
 obtain rfl : args = #[v0, v1, v2] := by cases args; simp_all
 obtain ⟨rfl, rfl⟩ := trodVars_none hV
 clear hA0 hval0
 simp only [List.append_nil] at hW'
 have k0 := h0
 have lt0 : ∀ x ∈ p0, x.block < W.heap.size := by obtain ⟨m, hm⟩ := k0; exact DataW.trod_lt m _ _ _ hm
 have k1 := h1
 have lt1 : ∀ x ∈ p1, x.block < W.heap.size := by obtain ⟨m, hm⟩ := k1; exact DataW.trod_lt m _ _ _ hm
 have k2 := h2
 have lt2 : ∀ x ∈ p2, x.block < W.heap.size := by obtain ⟨m, hm⟩ := k2; exact DataW.trod_lt m _ _ _ hm
 have fit0 : Fits Try.prog 3 d0 := fun n hn => hsz n (DataW.weights_mem_each (j := 0) rfl rfl n hn)
 have fit1 : Fits Try.prog 22 d1 := fun n hn => hsz n (DataW.weights_mem_each (j := 1) rfl rfl n hn)
 obtain ⟨z0, rfl⟩ := okWide_int Try.underlying3 (hval 0 3 v0 rfl rfl)
 obtain ⟨rn0, h0⟩ := h0
 obtain ⟨ra0, re0, wf0⟩ := read_int h0
 obtain rfl : ra0 = z0 := by simpa [Value.cells] using re0.symm
 have fit2 : Fits Try.prog 23 d2 := fun n hn => hsz n (DataW.weights_mem_each (j := 2) rfl rfl n hn)
 obtain ⟨sa1, sn1, sc1, rfl⟩ := okWide_slice Try.underlying22 (hval 1 22 v1 rfl rfl)
 obtain ⟨rn1, h1⟩ := h1
 obtain ⟨rv1, l1, re1, R1⟩ := read_qs fit1 h1
 obtain rfl : rv1 = _ := by simpa [Value.cells] using re1.symm
 obtain ⟨sa2, sn2, sc2, rfl⟩ := okWide_slice Try.underlying23 (hval 2 23 v2 rfl rfl)
 obtain ⟨rn2, h2⟩ := h2
 obtain ⟨rv2, l2, re2, R2⟩ := read_ints fit2 h2
 obtain rfl : rv2 = _ := by simpa [Value.cells] using re2.symm
 refine (cok_true (vals := [_, _, _]) (lawReaches_ok ra0 l1 l2 _) trivial (fun B => ⟨rv_int wf0, rv_qs R1, rv_ints R2, trivial⟩)).mono fun e W' ⟨he, bel⟩ => ?_
 subst he
 exact ⟨_, rfl, _, _, _, [], _, [], hW', trodAll_mk1 (shut_bool Try.underlying4 _), trodAll_cons_mk (Below.trod laidOut (by kernel_rfl) (of_decide_eq_true (by kernel_rfl)) k0 bel lt0) (trodAll_cons_mk (Below.trod laidOut (by kernel_rfl) (of_decide_eq_true (by kernel_rfl)) k1 bel lt1) (trodAll_cons_mk (Below.trod laidOut (by kernel_rfl) (of_decide_eq_true (by kernel_rfl)) k2 bel lt2) trodAll_mk0)), rfl, bel.frame _, fun h => by cases h⟩
theorem flowReaches_holds : Rows.FlowReachesSaid :=
 OpenClaim.holds_of_wide 3 Try.f3 rfl rfl rfl rfl rfl rfl rfl ⟨rfl, rfl, rfl, rfl, rfl⟩ rfl rfl rfl rfl rfl (by kernel_rfl) Try.func3 (by kernel_rfl)
  (of_decide_eq_true (by kernel_rfl)) zb9q29
  (fun os started H enc _ => flowReaches_lifted os started H enc)
end Go.Proofs.Ytmhchhmhpoldhaa
end
section
namespace Go.Proofs.Ytmhchhmhpoldhaa
open Go.ChangeShapes Go.WideShapes Go.ChangeAt Go.RowKit
open Go.ChangeMaps (open_string shut_string)
open V
set_option maxRecDepth 100000 in
theorem flowPaths_lifted (os : Os) (started : os.Started) (H : Type) (enc : TypeId × Value → H) :
  ReturnsInHanded {} Try.checked os 4 .any (Rows.flowPathsSpec.pre6 enc Try.prog Try.f4 Rows.flowPathsRow.domain false) (Rows.flowPathsSpec.post enc Try.prog Try.f4 false true false false) := by
 refine returnsInHanded_of_change_shaped (C := Try.checked) own started (by kernel_rfl) Try.func4
  (ChangeSpec.witness6 (enc := enc) (C := Try.checked) false ⟨#[], #[.int .i64 0, .slice none 0 0, .slice none 0 0, .int .i64 0], []⟩ 8 (by kernel_rfl) (by kernel_rfl) (by kernel_rfl) (by kernel_rfl)) ?_
 intro W base args ds gs before hval0 hW hcnd hsz0 hsh _
 have hval : ∀ (j : Nat) t v, Try.f4.params[j]? = some t → args[j]? = some v → Value.okWide Try.prog W .any base t v := hval0
 have hW' := hW
 obtain ⟨p, q, hA0, hV, rfl, hfz, hnd⟩ := hW
 have hA : DataW.TrodAll enc Try.prog W 0 (fun _ => true) true Try.f4.params.toList args.toList ds p := hA0
 have hsz : ∀ n ∈ DataW.weightsEach Try.prog (Try.f4.params.toList ++ Rows.flowPathsSpec.plain.varTypes Try.prog) (ds ++ gs), n ≤ reachBytes := fun n hn => of_decide_eq_true (List.all_eq_true.1 hsz0 n hn)
 rw [Try.params4] at hA hval hsz
 clear hsz0
 obtain ⟨v0, vs0, d0, ds0, p0, q0, hargs, rfl, rfl, h0, r0⟩ := trodAll_cons hA
 obtain ⟨v1, vs1, d1, ds1, p1, q1, rfl, rfl, rfl, h1, r1⟩ := trodAll_cons r0
 obtain ⟨v2, vs2, d2, ds2, p2, q2, rfl, rfl, rfl, h2, r2⟩ := trodAll_cons r1
 obtain ⟨v3, vs3, d3, ds3, p3, q3, rfl, rfl, rfl, h3, r3⟩ := trodAll_cons r2
 obtain ⟨rfl, rfl, rfl⟩ := trodAll_nil r3
 obtain rfl : args = #[v0, v1, v2, v3] := by cases args; simp_all
 obtain ⟨rfl, rfl⟩ := trodVars_none hV
 clear hA0 hval0
 simp only [List.append_nil] at hW'
 have k0 := h0
 have lt0 : ∀ x ∈ p0, x.block < W.heap.size := by obtain ⟨m, hm⟩ := k0; exact DataW.trod_lt m _ _ _ hm
 have k1 := h1
 have lt1 : ∀ x ∈ p1, x.block < W.heap.size := by obtain ⟨m, hm⟩ := k1; exact DataW.trod_lt m _ _ _ hm
 have k2 := h2
 have lt2 : ∀ x ∈ p2, x.block < W.heap.size := by obtain ⟨m, hm⟩ := k2; exact DataW.trod_lt m _ _ _ hm
 have k3 := h3
 have lt3 : ∀ x ∈ p3, x.block < W.heap.size := by obtain ⟨m, hm⟩ := k3; exact DataW.trod_lt m _ _ _ hm
 have fit0 : Fits Try.prog 3 d0 := fun n hn => hsz n (DataW.weights_mem_each (j := 0) rfl rfl n hn)
 have fit1 : Fits Try.prog 22 d1 := fun n hn => hsz n (DataW.weights_mem_each (j := 1) rfl rfl n hn)
 obtain ⟨z0, rfl⟩ := okWide_int Try.underlying3 (hval 0 3 v0 rfl rfl)
 obtain ⟨rn0, h0⟩ := h0
 obtain ⟨ra0, re0, wf0⟩ := read_int h0
 obtain rfl : ra0 = z0 := by simpa [Value.cells] using re0.symm
 have fit2 : Fits Try.prog 23 d2 := fun n hn => hsz n (DataW.weights_mem_each (j := 2) rfl rfl n hn)
 have fit3 : Fits Try.prog 3 d3 := fun n hn => hsz n (DataW.weights_mem_each (j := 3) rfl rfl n hn)
 obtain ⟨sa1, sn1, sc1, rfl⟩ := okWide_slice Try.underlying22 (hval 1 22 v1 rfl rfl)
 obtain ⟨rn1, h1⟩ := h1
 obtain ⟨rv1, l1, re1, R1⟩ := read_qs fit1 h1
 obtain rfl : rv1 = _ := by simpa [Value.cells] using re1.symm
 obtain ⟨sa2, sn2, sc2, rfl⟩ := okWide_slice Try.underlying23 (hval 2 23 v2 rfl rfl)
 obtain ⟨rn2, h2⟩ := h2
 obtain ⟨rv2, l2, re2, R2⟩ := read_ints fit2 h2
 obtain rfl : rv2 = _ := by simpa [Value.cells] using re2.symm
 obtain ⟨z3, rfl⟩ := okWide_int Try.underlying3 (hval 3 3 v3 rfl rfl)
 obtain ⟨rn3, h3⟩ := h3
 obtain ⟨ra3, re3, wf3⟩ := read_int h3
 obtain rfl : ra3 = z3 := by simpa [Value.cells] using re3.symm
 refine (cok_true (vals := [_, _, _, _]) (lawPaths_ok ra0 l1 l2 ra3 _) trivial (fun B => ⟨rv_int wf0, rv_qs R1, rv_ints R2, rv_int wf3, trivial⟩)).mono fun e W' ⟨he, bel⟩ => ?_
 subst he
 exact ⟨_, rfl, _, _, _, [], _, [], hW', trodAll_mk1 (shut_bool Try.underlying4 _), trodAll_cons_mk (Below.trod laidOut (by kernel_rfl) (of_decide_eq_true (by kernel_rfl)) k0 bel lt0) (trodAll_cons_mk (Below.trod laidOut (by kernel_rfl) (of_decide_eq_true (by kernel_rfl)) k1 bel lt1) (trodAll_cons_mk (Below.trod laidOut (by kernel_rfl) (of_decide_eq_true (by kernel_rfl)) k2 bel lt2) (trodAll_cons_mk (Below.trod laidOut (by kernel_rfl) (of_decide_eq_true (by kernel_rfl)) k3 bel lt3) trodAll_mk0))), rfl, bel.frame _, fun h => by cases h⟩
theorem flowPaths_holds : Rows.FlowPathsSaid :=
 OpenClaim.holds_of_wide 4 Try.f4 rfl rfl rfl rfl rfl rfl rfl ⟨rfl, rfl, rfl, rfl, rfl⟩ rfl rfl rfl rfl rfl (by kernel_rfl) Try.func4 (by kernel_rfl)
  (of_decide_eq_true (by kernel_rfl)) zb9q29
  (fun os started H enc _ => flowPaths_lifted os started H enc)
end Go.Proofs.Ytmhchhmhpoldhaa
end
section
namespace Go.Proofs.Ytmhchhmhpoldhaa
open Go.ChangeShapes Go.WideShapes Go.ChangeAt Go.RowKit
open Go.ChangeMaps (open_string shut_string)
open V
set_option maxRecDepth 100000 in
theorem flowValid_lifted (os : Os) (started : os.Started) (H : Type) (enc : TypeId × Value → H) :
  ReturnsInHanded {} Try.checked os 5 .any (Rows.flowValidSpec.pre6 enc Try.prog Try.f5 Rows.flowValidRow.domain false) (Rows.flowValidSpec.post enc Try.prog Try.f5 false true false false) := by
 refine returnsInHanded_of_change_shaped (C := Try.checked) own started (by kernel_rfl) Try.func5
  (ChangeSpec.witness6 (enc := enc) (C := Try.checked) false ⟨#[], #[.int .i64 0, .slice none 0 0, .slice none 0 0, .slice none 0 0], []⟩ 8 (by kernel_rfl) (by kernel_rfl) (by kernel_rfl) (by kernel_rfl)) ?_
 intro W base args ds gs before hval0 hW hcnd hsz0 hsh _
 have hval : ∀ (j : Nat) t v, Try.f5.params[j]? = some t → args[j]? = some v → Value.okWide Try.prog W .any base t v := hval0
 have hW' := hW
 obtain ⟨p, q, hA0, hV, rfl, hfz, hnd⟩ := hW
 have hA : DataW.TrodAll enc Try.prog W 0 (fun _ => true) true Try.f5.params.toList args.toList ds p := hA0
 have hsz : ∀ n ∈ DataW.weightsEach Try.prog (Try.f5.params.toList ++ Rows.flowValidSpec.plain.varTypes Try.prog) (ds ++ gs), n ≤ reachBytes := fun n hn => of_decide_eq_true (List.all_eq_true.1 hsz0 n hn)
 rw [Try.params5] at hA hval hsz
 clear hsz0
 obtain ⟨v0, vs0, d0, ds0, p0, q0, hargs, rfl, rfl, h0, r0⟩ := trodAll_cons hA
 obtain ⟨v1, vs1, d1, ds1, p1, q1, rfl, rfl, rfl, h1, r1⟩ := trodAll_cons r0
 obtain ⟨v2, vs2, d2, ds2, p2, q2, rfl, rfl, rfl, h2, r2⟩ := trodAll_cons r1
 obtain ⟨v3, vs3, d3, ds3, p3, q3, rfl, rfl, rfl, h3, r3⟩ := trodAll_cons r2
 obtain ⟨rfl, rfl, rfl⟩ := trodAll_nil r3
 obtain rfl : args = #[v0, v1, v2, v3] := by cases args; simp_all
 obtain ⟨rfl, rfl⟩ := trodVars_none hV
 clear hA0 hval0
 simp only [List.append_nil] at hW'
 have k0 := h0
 have lt0 : ∀ x ∈ p0, x.block < W.heap.size := by obtain ⟨m, hm⟩ := k0; exact DataW.trod_lt m _ _ _ hm
 have k1 := h1
 have lt1 : ∀ x ∈ p1, x.block < W.heap.size := by obtain ⟨m, hm⟩ := k1; exact DataW.trod_lt m _ _ _ hm
 have k2 := h2
 have lt2 : ∀ x ∈ p2, x.block < W.heap.size := by obtain ⟨m, hm⟩ := k2; exact DataW.trod_lt m _ _ _ hm
 have k3 := h3
 have lt3 : ∀ x ∈ p3, x.block < W.heap.size := by obtain ⟨m, hm⟩ := k3; exact DataW.trod_lt m _ _ _ hm
 have fit0 : Fits Try.prog 3 d0 := fun n hn => hsz n (DataW.weights_mem_each (j := 0) rfl rfl n hn)
 have fit1 : Fits Try.prog 22 d1 := fun n hn => hsz n (DataW.weights_mem_each (j := 1) rfl rfl n hn)
 obtain ⟨z0, rfl⟩ := okWide_int Try.underlying3 (hval 0 3 v0 rfl rfl)
 obtain ⟨rn0, h0⟩ := h0
 obtain ⟨ra0, re0, wf0⟩ := read_int h0
 obtain rfl : ra0 = z0 := by simpa [Value.cells] using re0.symm
 have fit2 : Fits Try.prog 23 d2 := fun n hn => hsz n (DataW.weights_mem_each (j := 2) rfl rfl n hn)
 have fit3 : Fits Try.prog 23 d3 := fun n hn => hsz n (DataW.weights_mem_each (j := 3) rfl rfl n hn)
 obtain ⟨sa1, sn1, sc1, rfl⟩ := okWide_slice Try.underlying22 (hval 1 22 v1 rfl rfl)
 obtain ⟨rn1, h1⟩ := h1
 obtain ⟨rv1, l1, re1, R1⟩ := read_qs fit1 h1
 obtain rfl : rv1 = _ := by simpa [Value.cells] using re1.symm
 obtain ⟨sa2, sn2, sc2, rfl⟩ := okWide_slice Try.underlying23 (hval 2 23 v2 rfl rfl)
 obtain ⟨rn2, h2⟩ := h2
 obtain ⟨rv2, l2, re2, R2⟩ := read_ints fit2 h2
 obtain rfl : rv2 = _ := by simpa [Value.cells] using re2.symm
 obtain ⟨sa3, sn3, sc3, rfl⟩ := okWide_slice Try.underlying23 (hval 3 23 v3 rfl rfl)
 obtain ⟨rn3, h3⟩ := h3
 obtain ⟨rv3, l3, re3, R3⟩ := read_ints fit3 h3
 obtain rfl : rv3 = _ := by simpa [Value.cells] using re3.symm
 refine (cok_true (vals := [_, _, _, _]) (lawValid_ok ra0 l1 l2 l3 _) trivial (fun B => ⟨rv_int wf0, rv_qs R1, rv_ints R2, rv_ints R3, trivial⟩)).mono fun e W' ⟨he, bel⟩ => ?_
 subst he
 exact ⟨_, rfl, _, _, _, [], _, [], hW', trodAll_mk1 (shut_bool Try.underlying4 _), trodAll_cons_mk (Below.trod laidOut (by kernel_rfl) (of_decide_eq_true (by kernel_rfl)) k0 bel lt0) (trodAll_cons_mk (Below.trod laidOut (by kernel_rfl) (of_decide_eq_true (by kernel_rfl)) k1 bel lt1) (trodAll_cons_mk (Below.trod laidOut (by kernel_rfl) (of_decide_eq_true (by kernel_rfl)) k2 bel lt2) (trodAll_cons_mk (Below.trod laidOut (by kernel_rfl) (of_decide_eq_true (by kernel_rfl)) k3 bel lt3) trodAll_mk0))), rfl, bel.frame _, fun h => by cases h⟩
theorem flowValid_holds : Rows.FlowValidSaid :=
 OpenClaim.holds_of_wide 5 Try.f5 rfl rfl rfl rfl rfl rfl rfl ⟨rfl, rfl, rfl, rfl, rfl⟩ rfl rfl rfl rfl rfl (by kernel_rfl) Try.func5 (by kernel_rfl)
  (of_decide_eq_true (by kernel_rfl)) zb9q29
  (fun os started H enc _ => flowValid_lifted os started H enc)
end Go.Proofs.Ytmhchhmhpoldhaa
end
section
namespace Go.Proofs.Ytmhchhmhpoldhaa
end Go.Proofs.Ytmhchhmhpoldhaa
end
