/- Joined by my own program, in build order: Far, Rst, Lay, Stp, Rch, Min, Ow24, Two, DelG, Del, SortR, FQ, FQ2, Std, Nxt, Pth, Wlk, Er. -/
import Derived.Test.YtmhchhmhpoldhaaB7
import Derived.Test.YtmhchhmhpoldhaaB5
import Derived.Test.YtmhchhmhpoldhaaB1
import Derived.Sort.Row
import Derived.Sort.Grow
import Derived.Test.YtmhchhmhpoldhaaB4
set_option linter.unusedVariables false
set_option linter.unusedSimpArgs false
namespace Go.Proofs.Ytmhchhmhpoldhaa
theorem zb8q1 {p : Prop} (h : p := by (first | rfl | (simp only [upd_app, killM_app, O.kill, A.kill, Nat.reduceEqDiff, reduceIte, Option.map_some, Option.map_none, List.map_cons, List.map_nil, wrap_succ (show k + 1 < 9223372036854775808 by omega), List.append_assoc, List.cons_append, List.nil_append, Nat.add_zero]; done))) : p := h
theorem zb8q2 {p : Prop} (h : p := by (simp only [exb, Nat.reduceAdd, Nat.reduceLeDiff, Nat.reduceEqDiff, Nat.reduceMul, Int.reduceToNat, reduceIte, Int.reduceLE, Int.reduceNeg, w1, hx0, hxN, rowD_at hxN, rowD_len, Int.toNat_natCast, and_self, begI, Int.reduceLT, p0, hqn, w2, hq0, hqN, rowD_at hqN, p1, p2, p3]; rfl)) : p := h
theorem zb8q3 {p : Prop} (h : p := by (first | rfl | (simp only [upd_app, killS_app, A.kill, entry_zero, entry_succ, Nat.reduceEqDiff, reduceIte, wrap_succ (show k + 1 < 9223372036854775808 by omega), List.append_assoc, List.cons_append, List.nil_append, Nat.add_zero]; done))) : p := h
theorem zb8q4 {p : Prop} (h : p := by (simp only [exb, Nat.reduceAdd, Nat.reduceLeDiff, Nat.reduceEqDiff, Nat.reduceMul, Int.reduceToNat, reduceIte, Int.reduceLE, Int.reduceNeg, w1, w2, b1, b2, z1, z2, h1, rowD_at b1, rowD_at b2, rowD_len, Int.toNat_natCast, and_self]; rfl)) : p := h
theorem zb8q5 {p : Prop} (h : p := by (simp only [exb, Nat.reduceAdd, Nat.reduceLeDiff, Nat.reduceEqDiff, Nat.reduceMul, Int.reduceToNat, reduceIte, Int.reduceLE, Int.reduceNeg, w1, hx0, hxN, rowD_at hxN, rowD_len, Int.toNat_natCast, and_self, begI, Int.reduceLT, p0]; rfl)) : p := h
theorem zb8q6 {p : Prop} (h : p := by (simp only [exb, Nat.reduceAdd, Nat.reduceLeDiff, Nat.reduceEqDiff, Nat.reduceMul, Int.reduceToNat, reduceIte, Int.reduceLE, Int.reduceNeg, Int.reduceEq, rF, rl, hiN, hi0, Int.toNat_natCast, and_self, p0, p1, hq, hqw]; rfl)) : p := h
theorem zb8q7 {p : Prop} (h : p := by (simp only [exb, Nat.reduceAdd, Nat.reduceLeDiff, Nat.reduceEqDiff, Nat.reduceMul, Int.reduceToNat, reduceIte, Int.reduceLE, Int.reduceNeg, Int.reduceEq, rF, rl, hiN, hi0, Int.toNat_natCast, and_self, p0, hq, hqw]; rfl)) : p := h
theorem zb8q8 {p : Prop} (h : p := by (first | rfl | (simp only [upd_app, killM_app, O.kill, A.kill, Nat.reduceEqDiff, reduceIte, Option.map_some, Option.map_none, List.map_cons, List.map_nil, wrap_succ (show k + 1 < 9223372036854775808 by omega)]; done))) : p := h
theorem zb8q9 {p : Prop} (h : p := by (simp only [exb, Nat.reduceAdd, Nat.reduceLeDiff, Nat.reduceEqDiff, Nat.reduceMul, Int.reduceToNat, reduceIte, Int.reduceLE, Int.reduceNeg, tabU_at hiN, tabU_len, hiN, hi0, Int.toNat_natCast, and_self]; rfl)) : p := h
theorem zb8q10 {p : Prop} (h : p := by (simp only [exb, Nat.reduceAdd, Nat.reduceLeDiff, Nat.reduceEqDiff, Nat.reduceMul, Int.reduceToNat, reduceIte, Int.reduceLE, Int.reduceNeg, hy2, hll, hk0, hk1, Int.toNat_natCast, and_self]; rfl)) : p := h
theorem zb8q11 {p : Prop} (h : p := by (first | rfl | (simp only [upd_app, entry_zero, entry_succ, Nat.reduceEqDiff, reduceIte, wrap_succ (show k + 1 < 9223372036854775808 by omega), List.map_cons, List.map_nil, cN]; done))) : p := h
theorem zb8q12 {p : Prop} (h : p := by (simp only [exb, Nat.reduceAdd, Nat.reduceLeDiff, Nat.reduceEqDiff, Nat.reduceMul, Int.reduceToNat, reduceIte, Int.reduceLE, Int.reduceNeg, castS, cS, e1, e2, e3, e4]; rfl)) : p := h
theorem zb8q13 {p : Prop} (h : p := by (simp only [exb, Nat.reduceAdd, Nat.reduceLeDiff, Nat.reduceEqDiff, Nat.reduceMul, Int.reduceToNat, reduceIte, Int.reduceLE, Int.reduceNeg, Int.reduceEq, p1, hq, hqw]; rfl)) : p := h
theorem zb8q14 {p : Prop} (h : p := by (simp only [exb, Nat.reduceAdd, Nat.reduceLeDiff, Nat.reduceEqDiff, Nat.reduceMul, Int.reduceToNat, reduceIte, Int.reduceLE, Int.reduceNeg, Int.reduceEq, hq, hqw, p2]; rfl)) : p := h
theorem zb8q15 {p : Prop} (h : p := by (first | rfl | (simp only [upd_app, killM_app, Nat.reduceEqDiff, reduceIte, wrap_succ (show k + 1 < 9223372036854775808 by omega), List.map_cons, List.map_nil, cN]; done))) : p := h
theorem zb8q16 {p : Prop} (h : p := by (first | rfl | (simp only [upd_app, killS_app, A.kill, entry_zero, entry_succ, Nat.reduceEqDiff, reduceIte, wrap_succ (show k + 1 < 9223372036854775808 by omega)]; done))) : p := h
theorem zb8q17 {p : Prop} (h : p := by (simp only [exb, Nat.reduceAdd, Nat.reduceLeDiff, Nat.reduceEqDiff, Nat.reduceMul, Int.reduceToNat, reduceIte, Int.reduceLE, Int.reduceNeg, Int.reduceEq, hq, hqw]; rfl)) : p := h
theorem zb8q18 {p : Prop} (h : p := by (first | rfl | (simp only [upd_app, killM_app, O.kill, A.kill, Nat.reduceEqDiff, reduceIte, Option.map_some, Option.map_none, List.map_cons, List.map_nil]; done))) : p := h
theorem zb8q19 {p : Prop} (h : p := by (simp only [exb, Nat.reduceAdd, Nat.reduceLeDiff, Nat.reduceEqDiff, Nat.reduceMul, Int.reduceToNat, reduceIte, Int.reduceLE, Int.reduceNeg, List.length_map]; rfl)) : p := h
theorem zb8q20 {p : Prop} (h : p := by (first | rfl | (simp only [exb, Nat.reduceAdd, Nat.reduceLeDiff, Nat.reduceEqDiff, Nat.reduceMul, Int.reduceToNat, reduceIte, Int.reduceLE, Int.reduceNeg]; rfl))) : p := h
theorem zb8q21 {p : Prop} (h : p := by (simp only [exb, Nat.reduceAdd, Nat.reduceLeDiff, Nat.reduceEqDiff, Nat.reduceMul, Int.reduceToNat, reduceIte, Int.reduceLE, Int.reduceNeg, at_map hx, hcx]; rfl)) : p := h
theorem zb8q22 {p : Prop} (h : p := by (simp only [exb, Nat.reduceAdd, Nat.reduceLeDiff, Nat.reduceEqDiff, Nat.reduceMul, Int.reduceToNat, reduceIte, Int.reduceLE, Int.reduceNeg, at_map hx, cN]; rfl)) : p := h
theorem zb8q23 {p : Prop} (h : p := by (simp only [exb, Nat.reduceAdd, Nat.reduceLeDiff, Nat.reduceEqDiff, Nat.reduceMul, Int.reduceToNat, reduceIte, Int.reduceLE, Int.reduceNeg, at_map hi, cN]; rfl)) : p := h
theorem zb8q24 {p : Prop} (h : p := by (simp only [exb, Nat.reduceAdd, Nat.reduceLeDiff, Nat.reduceEqDiff, Nat.reduceMul, Int.reduceToNat, reduceIte, Int.reduceLE, Int.reduceNeg, castS, cS]; rfl)) : p := h
theorem zb8q25 {p : Prop} (h : p := by (simp only [exb, Nat.reduceAdd, Nat.reduceLeDiff, Nat.reduceEqDiff, Nat.reduceMul, Int.reduceToNat, reduceIte, Int.reduceLE, Int.reduceNeg, cS, castS]; rfl)) : p := h
theorem zb8q26 {p : Prop} (h : p := by (first | rfl | (simp only [upd_app, entry_zero, entry_succ, Nat.reduceEqDiff, reduceIte, wrap_succ (show k + 1 + 1 < 9223372036854775808 by omega)]; done))) : p := h
theorem zb8q27 {p : Prop} (h : p := by (simp [A.ids, O.ids, upd_app, wrap_succ (show k + 1 < 9223372036854775808 by omega), List.append_assoc, List.cons_append, List.nil_append, Nat.add_zero])) : p := h
theorem zb8q28 {p : Prop} (h : p := by (simp only [exb, Nat.reduceAdd, Nat.reduceLeDiff, Nat.reduceEqDiff, Nat.reduceMul, Int.reduceToNat, reduceIte, Int.reduceLE, Int.reduceNeg, h1, h2]; rfl)) : p := h
theorem zb8q29 {p : Prop} (h : p := by (first | rfl | (simp only [upd_app, entry_zero, entry_succ, Nat.reduceEqDiff, reduceIte, wrap_succ (show k + 1 < 9223372036854775808 by omega)]; done))) : p := h
theorem zb8q30 {p : Prop} (h : p := by (first | rfl | (simp only [upd_app, entry_zero, entry_succ, Nat.reduceEqDiff, reduceIte, wrap_succ (show j + 1 < 9223372036854775808 by omega)]; done))) : p := h
theorem zb8q31 {p : Prop} (h : p := by (simp only [exb, Nat.reduceAdd, Nat.reduceLeDiff, Nat.reduceEqDiff, Nat.reduceMul, Int.reduceToNat, reduceIte, Int.reduceLE, Int.reduceNeg, hne]; rfl)) : p := h
theorem zb8q32 {p : Prop} (h : p := by (simp [A.ids, upd_app, wrap_succ (show k + 1 < 9223372036854775808 by omega), List.append_assoc, List.cons_append, List.nil_append, Nat.add_zero])) : p := h
theorem zb8q33 {p : Prop} (h : p := by (simp only [exb, Nat.reduceAdd, Nat.reduceLeDiff, Nat.reduceEqDiff, Nat.reduceMul, Int.reduceToNat, reduceIte, Int.reduceLE, Int.reduceNeg]; rfl)) : p := h
theorem zb8q34 {p : Prop} (h : p := by (first | rfl | (simp only [upd_app, killM_app, Nat.reduceEqDiff, reduceIte, wrap_succ (show k + 1 + 1 < 9223372036854775808 by omega)]; done))) : p := h
theorem zb8q35 {p : Prop} (h : p := by (simp only [exb, Nat.reduceAdd, Nat.reduceLeDiff, Nat.reduceEqDiff, Nat.reduceMul, Int.reduceToNat, reduceIte, Int.reduceLE, Int.reduceNeg])) : p := h
theorem zb8q36 {p : Prop} (h : p := by (first | rfl | (simp only [upd_app, killM_app, Nat.reduceEqDiff, reduceIte, wrap_succ (show k + 1 < 9223372036854775808 by omega)]; done))) : p := h
theorem zb8q37 {p : Prop} (h : p := by (first | rfl | (simp only [upd_app, killM_app, Nat.reduceEqDiff, reduceIte, wrap_succ (show j + 1 < 9223372036854775808 by omega)]; done))) : p := h
theorem zb8q38 {p : Prop} (h : p := by (simp only [List.length_map, List.length_append, List.length_cons, List.length_nil]; have := List.length_take_le k K; omega)) : p := h
theorem zb8q39 {p : Prop} (h : p := by (first | rfl | (simp only [upd_app, killS_app, A.kill, entry_zero, entry_succ, Nat.reduceEqDiff, reduceIte]; done))) : p := h
theorem zb8q40 {p : Prop} (h : p := by (first | rfl | (simp only [upd_app, entry_zero, entry_succ, Nat.reduceEqDiff, reduceIte, begI]; done))) : p := h
theorem zb8q41 {p : Prop} (h : p := by (first | rfl | (simp only [upd_app, entry_zero, entry_succ, Nat.reduceEqDiff, reduceIte]; done))) : p := h
theorem zb8q42 {p : Prop} (h : p := by (first | rfl | (simp only [upd_app, killM_app, Nat.reduceEqDiff, reduceIte, begI]; done))) : p := h
theorem zb8q43 {p : Prop} (h : p := by (simp [A.ids, O.ids, upd_app, wrap_succ (show k + 1 < 9223372036854775808 by omega)])) : p := h
theorem zb8q44 {p : Prop} (h : p := by (first | rfl | (simp only [upd_app, killM_app, Nat.reduceEqDiff, reduceIte]; done))) : p := h
theorem zb8q45 {p : Prop} (h : p := by ((try simp only [List.length_append, List.length_cons, List.length_nil]); omega)) : p := h
theorem zb8q46 {p : Prop} (h : p := by (simp [A.ids, upd_app, wrap_succ (show k + 1 < 9223372036854775808 by omega)])) : p := h
theorem zb8q47 {p : Prop} (h : p := by (simp only [List.length_map, List.length_cons, List.length_nil]; omega)) : p := h
theorem zb8q48 {p : Prop} (h : p := by (intro a ha; simp at ha; rcases ha with rfl | rfl | rfl | rfl <;> rfl)) : p := h
theorem zb8q49 {p : Prop} (h : p := by (intro j hj; simp at hj; subst hj; exact ⟨_, _, rfl⟩)) : p := h
theorem zb8q50 {p : Prop} (h : p := by (simp [A.ids, O.ids, upd_app])) : p := h
end Go.Proofs.Ytmhchhmhpoldhaa
section
namespace Go.Proofs.Ytmhchhmhpoldhaa
namespace V
open Go.RowKit G
def rowD (n : Nat) (F : Nat → Nat) : List (List C) := (List.range n).map fun i => [.int .i64 ((F i : Int) - 1)]
theorem rowD_len (n : Nat) (F : Nat → Nat) : (rowD n F).length = n := by simp [rowD]
theorem rowD_at {n k : Nat} {F : Nat → Nat} (h : k < n) : (rowD n F)[k]? = some [.int .i64 ((F k : Int) - 1)] := by simp [rowD, h]
theorem rowD_set {n k v : Nat} {F : Nat → Nat} : (rowD n F).set k [.int .i64 (v : Int)] = rowD n (setF F k (v + 1)) := by
 refine List.ext_getElem? fun i => ?_
 rw [List.getElem?_set, rowD_len]
 by_cases hi : i < n
 ·rw [rowD_at hi, rowD_at hi]
  by_cases e : k = i
  ·subst e; rw [if_pos rfl, if_pos hi]; simp [setF]
  ·rw [if_neg e]; simp [setF, Ne.symm e]
 ·have h1 : (rowD n F)[i]? = none := by rw [List.getElem?_eq_none]; rw [rowD_len]; omega
  have h2 : (rowD n (setF F k (v + 1)))[i]? = none := by rw [List.getElem?_eq_none]; rw [rowD_len]; omega
  rw [h1, h2]
  split
  ·rw [if_neg (by omega)]
  ·rfl
theorem rowD_set0 {n k : Nat} {F : Nat → Nat} : (rowD n F).set k [.int .i64 0] = rowD n (setF F k 1) := rowD_set (v := 0)
def rowM (n k : Nat) : List (List C) := (List.range n).map fun i => [.int .i64 (if i < k then -1 else 0)]
theorem rowM_len (n k : Nat) : (rowM n k).length = n := by simp [rowM]
theorem rowM_at {n k i : Nat} (h : i < n) : (rowM n k)[i]? = some [.int .i64 (if i < k then -1 else 0)] := by simp [rowM, h]
theorem rowM_zero (n : Nat) : List.replicate n [C.int .i64 0] = rowM n 0 := by
 refine List.ext_getElem? fun i => ?_
 by_cases hi : i < n
 ·rw [rowM_at hi]; simp [hi]
 ·rw [List.getElem?_eq_none (by simpa using hi), List.getElem?_eq_none (by rw [rowM_len]; omega)]
theorem rowM_set {n k : Nat} : (rowM n k).set k [.int .i64 (-1)] = rowM n (k + 1) := by
 refine List.ext_getElem? fun i => ?_
 rw [List.getElem?_set, rowM_len]
 by_cases hi : i < n
 ·rw [rowM_at hi, rowM_at hi]
  by_cases e : k = i
  ·subst e; rw [if_pos rfl, if_pos hi]; simp
  ·rw [if_neg e]
   by_cases q : i < k
   ·rw [if_pos q, if_pos (by omega)]
   ·rw [if_neg q, if_neg (by omega)]
 ·have h1 : (rowM n k)[i]? = none := by rw [List.getElem?_eq_none]; rw [rowM_len]; omega
  have h2 : (rowM n (k + 1))[i]? = none := by rw [List.getElem?_eq_none]; rw [rowM_len]; omega
  rw [h1, h2]
  split
  ·rw [if_neg (by omega)]
  ·rfl
theorem rowM_full (n : Nat) (T : List Nat) : rowM n n = rowD n (FT (T.take 0)) := by
 unfold rowM rowD
 refine List.map_congr_left fun i hi => ?_
 rw [if_pos (List.mem_range.1 hi)]
 simp [FT]
theorem left_lt {R : Nat → Bool} {k : Nat} (hk : R k = true) : ∀ {n : Nat}, k < n → left R n + 1 ≤ n
 | 0, h => absurd h (by omega)
 | n + 1, h => by
  simp only [left]
  by_cases e : k = n
  ·subst e
   rw [if_pos hk]; have := left_le R k; omega
  ·have := left_lt hk (n := n) (by omega)
   split <;> omega
set_option maxHeartbeats 4000000 in
theorem far_ok (N : Nat) (hN : N ≤ 200000) (D : List (Nat × Nat)) (hlen : D.length ≤ 1000000) (hD : ∀ e ∈ D, e.1 < N ∧ e.2 < N) (T : List Nat) (hT : ∀ t ∈ T, t < N) (hTl : T.length ≤ 1000000000) (m : Mem) :
  COk Try.prog 26 [.c (.sl (tabU D N)), .c (.sl (T.map cN))] m (.c (.sl (rowD N (Ms.farF (turnL D) T)))) := by
 have hm1 : N * 8 ≤ 140737488355328 := by omega
 have hm2 : (N : Int) ≤ 9223372036854775807 := by omega
 have hn0 : (0 : Int) ≤ (N : Int) := by omega
 have hE : ∀ e ∈ turnL D, e.1 < N ∧ e.2 < N := fun ⟨a, b⟩ he => by have := hD _ (mem_turn.1 he); exact ⟨this.2, this.1⟩
 have hol : ∀ i, (outs D i).length ≤ D.length := fun i => outs_len D i
 refine (ok_pure tab_ok Try.func26 (by kernel_rfl) rfl rfl (by rfl) (by rfl) (by rfl) (fun R hkeep => ?_) m)
 repeat (first | refine W.seq ?_ | refine W.block ?_ | refine W.skip ?_ | refine W.exit ?_ | refine W.g ?_ (by simp only [exb, Nat.reduceAdd, Nat.reduceLeDiff, Nat.reduceEqDiff, Nat.reduceMul, Int.reduceToNat, reduceIte, Int.reduceLE, Int.reduceNeg, tabU_len, hm1, hm2, hn0, Int.toNat_natCast, and_self, Bool.false_eq_true, rowM_zero]; rfl))
 refine W.loop (ι := Nat) (fun k => ⟨upd (upd (upd (upd (upd (upd (fun _ => .top) 0 (.c (.sl (tabU D N)))) 1 (.c (.sl (T.map cN)))) 5 (.own 15)) 16 (.own 15)) 17 (.c (.int .i64 N))) 18 (.c (.int .i64 k)),
   upd Mem.nil 15 (some (.mrow 3 1 (rowM N k)))⟩) (fun k => k ≤ N) (fun k => N - k) 0 ?start (Nat.zero_le _) ?round
 case start =>
  refine le_mk ?sle ?mle ?swf ?mwf (kept_not hkeep) (by rfl)
  case swf => repeat (first | exact swf_top _ | refine swf_upd ?_ (by simp [A.ids, upd_app, rowM_len]))
  case mwf => repeat (first | exact mwf_nil _ | refine mwf_upd ?_ (by simp [A.ids, O.ids, upd_app, rowM_len]))
  case mle => repeat (first | exact mle_nil _ | exact mle_refl _ | refine mle_upd ?_ (by first | rfl | (simp only [upd_app, killM_app, O.kill, A.kill, Nat.reduceEqDiff, reduceIte, Option.map_some, Option.map_none, List.map_cons, List.map_nil, rowM_len]; done)))
  case sle => repeat (first | exact sle_top _ | exact sle_refl _ | refine sle_upd ?_ (by first | rfl | (simp only [upd_app, killS_app, A.kill, entry_zero, entry_succ, Nat.reduceEqDiff, reduceIte, rowM_len]; done)))
 case round =>
  intro k hk
  repeat (first | refine W.seq ?_ | refine W.block ?_ | refine W.skip ?_ | refine W.exit ?_ | refine W.g ?_)
  refine W.cond rfl ?_ ?_
  ·intro hlt
   simp only [decide_eq_true_eq, Int.ofNat_lt] at hlt
   have hk0 : (0 : Int) ≤ (k : Int) := by omega
   repeat (first | refine W.seq ?_ | refine W.block ?_ | refine W.skip ?_ | refine W.exit ?_ | refine W.g ?_ (by simp only [exb, Nat.reduceAdd, Nat.reduceLeDiff, Nat.reduceEqDiff, Nat.reduceMul, Int.reduceToNat, reduceIte, Int.reduceLE, Int.reduceNeg, rowM_at hlt, rowM_len, hlt, hk0, Int.toNat_natCast, and_self, rowM_set]; rfl))
   refine ⟨k + 1, hlt, by omega, ?_⟩
   refine le_mk ?sle ?mle ?swf ?mwf (kept_not hkeep) (by rfl)
   case swf => repeat (first | exact swf_top _ | refine swf_upd ?_ zb8q46)
   case mwf => repeat (first | exact mwf_nil _ | refine mwf_upd ?_ zb8q43)
   case mle => repeat (first | exact mle_nil _ | exact mle_refl _ | refine mle_upd ?_ zb8q8)
   case sle => repeat (first | exact sle_top _ | exact sle_refl _ | refine sle_upd ?_ zb8q16)
  ·intro hge
   simp only [decide_eq_false_iff_not, Int.ofNat_lt] at hge
   obtain rfl : N = k := by omega
   (repeat (first | refine W.seq ?_ | refine W.block ?_ | refine W.skip ?_ | refine W.exit ?_))
   refine W.regionK tab_ok 0 (by decide) ?_
   refine xs0 1 ?_
   refine runk_appendNil tab_ok 40 false rfl rfl rfl rfl rfl rfl rfl rfl zb8q20 rfl rfl rfl rfl (fun z hz => by obtain ⟨y, -, rfl⟩ := List.mem_map.1 hz; rfl) (by rw [List.length_map]; omega) (by decide) ?_
   refine xe0 ?_
   repeat (first | refine W.seq ?_ | refine W.block ?_ | refine W.skip ?_ | refine W.exit ?_ | refine W.g ?_ (by simp only [exb, Nat.reduceAdd, Nat.reduceLeDiff, Nat.reduceEqDiff, Nat.reduceMul, Int.reduceToNat, reduceIte, Int.reduceLE, Int.reduceNeg, rowM_full N T, List.length_map]; rfl))
   refine W.loop (ι := Nat) (fun k => ⟨upd (upd (upd (upd (upd (upd (fun _ => .top) 0 (.c (.sl (tabU D N)))) 5 (.own 15)) 7 (.own 40)) 27 (.own 40)) 28 (.c (.int .i64 T.length))) 29 (.c (.int .i64 k)),
     upd (upd Mem.nil 15 (some (.mrow 3 1 (rowD N (FT (T.take k)))))) 40 (some (.mrow 3 1 (T.map cN)))⟩) (fun k => k ≤ T.length) (fun k => T.length - k) 0 ?start2 (Nat.zero_le _) ?round2
   case start2 =>
    refine le_mk ?sle ?mle ?swf ?mwf (kept_not hkeep) (by rfl)
    case swf => repeat (first | exact swf_top _ | refine swf_upd ?_ (by simp [A.ids, upd_app, rowM_full N T, List.length_map]))
    case mwf => repeat (first | exact mwf_nil _ | refine mwf_upd ?_ (by simp [A.ids, O.ids, upd_app, rowM_full N T, List.length_map]))
    case mle => repeat (first | exact mle_nil _ | exact mle_refl _ | refine mle_upd ?_ (by first | rfl | (simp only [upd_app, killM_app, O.kill, A.kill, Nat.reduceEqDiff, reduceIte, Option.map_some, Option.map_none, List.map_cons, List.map_nil, rowM_full N T, List.length_map]; done)))
    case sle => repeat (first | exact sle_top _ | exact sle_refl _ | refine sle_upd ?_ (by first | rfl | (simp only [upd_app, killS_app, A.kill, entry_zero, entry_succ, Nat.reduceEqDiff, reduceIte, rowM_full N T, List.length_map]; done)))
   case round2 =>
    intro k hk
    repeat (first | refine W.seq ?_ | refine W.block ?_ | refine W.skip ?_ | refine W.exit ?_ | refine W.g ?_)
    refine W.cond rfl ?_ ?_
    ·intro hlt
     simp only [decide_eq_true_eq, Int.ofNat_lt] at hlt
     obtain ⟨x, hx⟩ : ∃ x, T[k]? = some x := ⟨_, List.getElem?_eq_getElem hlt⟩
     have hxn : x < N := hT x (List.mem_of_getElem? hx)
     have hx0 : (0 : Int) ≤ (x : Int) := by omega
     have hk0 : (0 : Int) ≤ (k : Int) := by omega
     repeat (first | refine W.seq ?_ | refine W.block ?_ | refine W.skip ?_ | refine W.exit ?_ | refine W.g ?_ (by simp only [exb, Nat.reduceAdd, Nat.reduceLeDiff, Nat.reduceEqDiff, Nat.reduceMul, Int.reduceToNat, reduceIte, Int.reduceLE, Int.reduceNeg, at_map hx, cN, hk0, hlt, List.length_map, rowD_at hxn, rowD_len, hxn, hx0, Int.toNat_natCast, and_self, rowD_set0]; rfl))
     refine ⟨k + 1, hlt, by omega, ?_⟩
     rw [FT_new hx]
     refine le_mk ?sle ?mle ?swf ?mwf (kept_not hkeep) (by rfl)
     case swf => repeat (first | exact swf_top _ | refine swf_upd ?_ zb8q46)
     case mwf => repeat (first | exact mwf_nil _ | refine mwf_upd ?_ zb8q43)
     case mle => repeat (first | exact mle_nil _ | exact mle_refl _ | refine mle_upd ?_ zb8q8)
     case sle => repeat (first | exact sle_top _ | exact sle_refl _ | refine sle_upd ?_ zb8q16)
    ·intro hge
     simp only [decide_eq_false_iff_not, Int.ofNat_lt] at hge
     obtain rfl : k = T.length := by omega
     rw [List.take_length]
     have hF1 : ∀ a, FT T a + left (mF (FT T)) N ≤ N := fun a => by
      by_cases e : a ∈ T
      ·have h1 : FT T a = 1 := by simp [FT, e]
       have := left_lt (R := mF (FT T)) (k := a) (by simp [mF, h1]) (hT a e)
       omega
      ·have h1 : FT T a = 0 := by simp [FT, e]
       have := left_le (mF (FT T)) N; omega
     have hl0 := left_le (mF (FT T)) N
     (repeat (first | refine W.seq ?_ | refine W.block ?_ | refine W.skip ?_ | refine W.exit ?_))
     refine W.loop (ι := List Nat × (Nat → Nat)) (fun x => ⟨upd (upd (upd (fun _ => .top) 0 (.c (.sl (tabU D N)))) 5 (.own 15)) 7 (.own 40),
       upd (upd Mem.nil 15 (some (.mrow 3 1 (rowD N x.2)))) 40 (some (.mrow 3 1 (x.1.map cN)))⟩)
      (fun x => Ms.BInv (turnL D) T N x.1 x.2 ∧ (∀ a, x.2 a + left (mF x.2) N ≤ N) ∧ left (mF x.2) N + x.1.length ≤ N + T.length) (fun x => left (mF x.2) N + x.1.length) (T, FT T) ?start3 ⟨Ms.BInv.first (fun y => Iff.rfl) (fun x => rfl) hT, hF1, by simp only; omega⟩ ?round3
     case start3 =>
      refine le_L ?sle ?mle (kept_not hkeep)
      case mle => repeat (first | exact mle_nil _ | exact mle_refl _ | refine mle_upd ?_ zb8q18)
      case sle => repeat (first | exact sle_top _ | exact sle_refl _ | refine sle_upd ?_ zb8q39)
     case round3 =>
      clear hF1 hl0
      rintro ⟨ws, F⟩ ⟨hinv, hF, hbd⟩
      simp only at hinv hF hbd
      cases ws with
      | nil =>
       repeat (first | refine W.seq ?_ | refine W.block ?_ | refine W.skip ?_ | refine W.exit ?_ | refine W.g ?_)
       refine W.cond rfl ?_ ?_
       ·intro h; simp at h
       ·intro _
        repeat (first | refine W.seq ?_ | refine W.block ?_ | refine W.skip ?_ | refine W.exit ?_ | refine W.g ?_)
        refine W.freeze 4 15 rfl zb8q33 (nokeep hkeep) ?_
        refine W.ret ⟨.inr rfl, by rfl, ?_⟩
        simp only [Try.f26, resA, resOne, toT, fin, exb, Nat.reduceAdd, Nat.reduceLeDiff, Nat.reduceEqDiff, Nat.reduceMul, Int.reduceToNat, reduceIte, Int.reduceLE, Int.reduceNeg]
        rw [hinv.far]
      | cons i vs =>
       have hi : i < N := hinv.lt i (hinv.sub i (by simp))
       have hi0 : (0 : Int) ≤ (i : Int) := by omega
       have hb1 : vs.length + 1 ≤ N + T.length := by simp only [List.length_cons] at hbd; omega
       have hsn := hol i
       repeat (first | refine W.seq ?_ | refine W.block ?_ | refine W.skip ?_ | refine W.exit ?_ | refine W.g ?_ (by simp only [exb, Nat.reduceAdd, Nat.reduceLeDiff, Nat.reduceEqDiff, Nat.reduceMul, Int.reduceToNat, reduceIte, Int.reduceLE, Int.reduceNeg, List.length_map, List.length_cons]; rfl))
       refine W.cond rfl ?_ ?_
       ·intro _
        have hlu : vs.length ≤ vs.length := Nat.le_refl _
        (repeat (first | refine W.seq ?_ | refine W.block ?_ | refine W.skip ?_ | refine W.exit ?_))
        refine W.g ?_ (by simp only [exb, Nat.reduceAdd, Nat.reduceLeDiff, Nat.reduceEqDiff, Nat.reduceMul, Int.reduceToNat, reduceIte, Int.reduceLE, Int.reduceNeg, List.map_cons, cN, Int.toNat_zero, Nat.zero_lt_succ, List.length_map, List.length_cons, and_self]; rfl)
        (repeat (first | refine W.seq ?_ | refine W.block ?_ | refine W.skip ?_ | refine W.exit ?_))
        refine W.g ?_ (by simp only [exb, Nat.reduceAdd, Nat.reduceLeDiff, Nat.reduceEqDiff, Nat.reduceMul, Int.reduceToNat, reduceIte, Int.reduceLE, Int.reduceNeg, List.map_cons, List.length_map, List.length_cons, hlu]; rfl)
        refine W.rewin 7 40 (by decide) rfl zb8q33 (by simp only [List.length_map, List.length_append, List.length_cons, List.length_nil]; omega) (nokeep hkeep) ?_
        have htl : (([C.int .i64 (i : Int)] :: vs.map cN).take (vs.length + 1)).drop 1 = vs.map cN := by rw [List.take_of_length_le (by simp)]; rfl
        repeat (first | refine W.seq ?_ | refine W.block ?_ | refine W.skip ?_ | refine W.exit ?_ | refine W.g ?_ (by simp only [exb, Nat.reduceAdd, Nat.reduceLeDiff, Nat.reduceEqDiff, Nat.reduceMul, Int.reduceToNat, reduceIte, Int.reduceLE, Int.reduceNeg, tabU_at hi, hi, hi0, tabU_len, Int.toNat_natCast, and_self, List.length_map]; rfl))
        refine W.loop (ι := Nat × List Nat × (Nat → Nat)) (fun x => ⟨upd (upd (upd (upd (upd (upd (upd (fun _ => .top) 0 (.c (.sl (tabU D N)))) 5 (.own 15)) 7 (.own 40)) 10 (.c (.int .i64 i))) 48 (.c (.sl ((outs D i).map cN)))) 49 (.c (.int .i64 (outs D i).length))) 50 (.c (.int .i64 x.1)),
          upd (upd Mem.nil 15 (some (.mrow 3 1 (rowD N x.2.2)))) 40 (some (.mrow 3 1 (x.2.1.map cN)))⟩)
         (fun x => x.1 ≤ (outs D i).length ∧ Ms.BMid (turnL D) T N i x.2.1 x.2.2 ((outs D i).drop x.1) ∧ (∀ a, x.2.2 a + left (mF x.2.2) N ≤ N) ∧ left (mF x.2.2) N + x.2.1.length = left (mF F) N + vs.length) (fun x => (outs D i).length - x.1) (0, vs, F) ?start4 ⟨Nat.zero_le _, hinv.take (fun k hk => mem_outs'.2 hk), hF, rfl⟩ ?round4
        case start4 =>
         have htl2 : (vs.map cN).take vs.length = vs.map cN := List.take_of_length_le (by simp)
         refine le_mk ?sle ?mle ?swf ?mwf (kept_not hkeep) (by rfl)
         case swf => repeat (first | exact swf_top _ | refine swf_upd ?_ (by simp [A.ids, upd_app, htl, htl2]))
         case mwf => repeat (first | exact mwf_nil _ | refine mwf_upd ?_ (by simp [A.ids, O.ids, upd_app, htl, htl2]))
         case mle => repeat (first | exact mle_nil _ | exact mle_refl _ | refine mle_upd ?_ (by first | rfl | (simp only [upd_app, killM_app, O.kill, A.kill, Nat.reduceEqDiff, reduceIte, Option.map_some, Option.map_none, List.map_cons, List.map_nil, htl, htl2]; done)))
         case sle => repeat (first | exact sle_top _ | exact sle_refl _ | refine sle_upd ?_ (by first | rfl | (simp only [upd_app, killS_app, A.kill, entry_zero, entry_succ, Nat.reduceEqDiff, reduceIte, htl, htl2]; done)))
        case round4 =>
         rintro ⟨j, us, F2⟩ ⟨hj, hmid, hF2, hcnt⟩
         simp only at hj hmid hF2 hcnt
         repeat (first | refine W.seq ?_ | refine W.block ?_ | refine W.skip ?_ | refine W.exit ?_ | refine W.g ?_)
         refine W.cond rfl ?_ ?_
         ·intro hlt
          simp only [decide_eq_true_eq, Int.ofNat_lt] at hlt
          obtain ⟨x, hx⟩ : ∃ x, (outs D i)[j]? = some x := ⟨_, List.getElem?_eq_getElem hlt⟩
          have hedge : (x, i) ∈ turnL D := mem_outs'.1 (List.mem_of_getElem? hx)
          have hxn : x < N := (hE _ hedge).1
          have hx0 : (0 : Int) ≤ (x : Int) := by omega
          have hdrop : (outs D i).drop j = x :: (outs D i).drop (j + 1) := by
           rw [List.drop_eq_getElem_cons hlt]
           congr 1
           rw [List.getElem?_eq_getElem hlt] at hx; exact Option.some.inj hx
          rw [hdrop] at hmid
          repeat (first | refine W.seq ?_ | refine W.block ?_ | refine W.skip ?_ | refine W.exit ?_ | refine W.g ?_ (by simp only [exb, Nat.reduceAdd, Nat.reduceLeDiff, Nat.reduceEqDiff, Nat.reduceMul, Int.reduceToNat, reduceIte, Int.reduceLE, Int.reduceNeg, at_map hx, cN, rowD_at hxn, rowD_len, hxn, hx0, Int.toNat_natCast, and_self]; rfl))
          refine W.cond rfl ?_ ?_
          ·intro hq
           have hq : F2 x = 0 := by simp only [decide_eq_true_eq] at hq; omega
           have hFi := hF2 i
           have hm := left_mark (mF F2) x (by simp [mF, hq]) N
           rw [if_pos hxn] at hm
           have hwr : IntKind.i64.wrap ((F2 i : Int) - 1 + 1) = ((F2 i : Nat) : Int) := by rw [Int.sub_add_cancel]; exact wrap_nat (by omega)
           (repeat (first | refine W.seq ?_ | refine W.block ?_ | refine W.skip ?_ | refine W.exit ?_))
           refine W.g ?_ (by simp only [exb, Nat.reduceAdd, Nat.reduceLeDiff, Nat.reduceEqDiff, Nat.reduceMul, Int.reduceToNat, reduceIte, Int.reduceLE, Int.reduceNeg, List.map_cons, cN, rowD_at hi, rowD_at hxn, rowD_len, hi, hi0, hxn, hx0, Int.toNat_natCast, and_self, Int.toNat_zero, Nat.zero_lt_succ, hwr, rowD_set, List.length_cons]; rfl)
           (repeat (first | refine W.seq ?_ | refine W.block ?_ | refine W.skip ?_ | refine W.exit ?_))
           refine W.regionK tab_ok 0 (by decide) ?_
           refine xs0 3 ?_
           refine runk_appendM tab_ok 40 rfl rfl rfl rfl rfl rfl zb8q35 zb8q33 zb8q20 rfl rfl rfl rfl (nokeep hkeep) (fun z hz => by simp at hz; subst hz; rfl) zb8q47 (by decide) ?_
           refine xe0 ?_
           repeat (first | refine W.seq ?_ | refine W.block ?_ | refine W.skip ?_ | refine W.exit ?_ | refine W.g ?_)
           refine ⟨(j + 1, us ++ [x], setF F2 x (F2 i + 1)), ⟨hlt, hmid.new hq hxn hedge, fun a => ?_, ?_⟩, by simp only; omega, ?_⟩
           ·rw [mF_set (by omega)]
            have := hF2 a
            simp only [setF]
            split <;> omega
           ·rw [mF_set (by omega)]
            simp only [List.length_append, List.length_cons, List.length_nil]; omega
           refine le_mk ?sle ?mle ?swf ?mwf (kept_not hkeep) (by rfl)
           case swf => repeat (first | exact swf_top _ | refine swf_upd ?_ (by simp [A.ids, upd_app, wrap_succ (show j + 1 < 9223372036854775808 by omega), List.map_append, List.map_cons, cN]))
           case mwf => repeat (first | exact mwf_nil _ | refine mwf_upd ?_ (by simp [A.ids, O.ids, upd_app, wrap_succ (show j + 1 < 9223372036854775808 by omega), List.map_append, List.map_cons, cN]))
           case mle => repeat (first | exact mle_nil _ | exact mle_refl _ | refine mle_upd ?_ (by first | rfl | (simp only [upd_app, killM_app, O.kill, A.kill, Nat.reduceEqDiff, reduceIte, Option.map_some, Option.map_none, List.map_cons, List.map_nil, wrap_succ (show j + 1 < 9223372036854775808 by omega), List.map_append, List.map_cons, cN]; done)))
           case sle => repeat (first | exact sle_top _ | exact sle_refl _ | refine sle_upd ?_ (by first | rfl | (simp only [upd_app, killS_app, A.kill, entry_zero, entry_succ, Nat.reduceEqDiff, reduceIte, wrap_succ (show j + 1 < 9223372036854775808 by omega), List.map_append, List.map_cons, cN]; done)))
          ·intro hq
           have hq : F2 x ≠ 0 := by simp only [decide_eq_false_iff_not] at hq; omega
           repeat (first | refine W.seq ?_ | refine W.block ?_ | refine W.skip ?_ | refine W.exit ?_ | refine W.g ?_)
           refine ⟨(j + 1, us, F2), ⟨hlt, hmid.old hq, hF2, hcnt⟩, by simp only; omega, ?_⟩
           refine le_mk ?sle ?mle ?swf ?mwf (kept_not hkeep) (by rfl)
           case swf => repeat (first | exact swf_top _ | refine swf_upd ?_ (by simp [A.ids, upd_app, wrap_succ (show j + 1 < 9223372036854775808 by omega)]))
           case mwf => repeat (first | exact mwf_nil _ | refine mwf_upd ?_ (by simp [A.ids, O.ids, upd_app, wrap_succ (show j + 1 < 9223372036854775808 by omega)]))
           case mle => repeat (first | exact mle_nil _ | exact mle_refl _ | refine mle_upd ?_ (by first | rfl | (simp only [upd_app, killM_app, O.kill, A.kill, Nat.reduceEqDiff, reduceIte, Option.map_some, Option.map_none, List.map_cons, List.map_nil, wrap_succ (show j + 1 < 9223372036854775808 by omega)]; done)))
           case sle => repeat (first | exact sle_top _ | exact sle_refl _ | refine sle_upd ?_ (by first | rfl | (simp only [upd_app, killS_app, A.kill, entry_zero, entry_succ, Nat.reduceEqDiff, reduceIte, wrap_succ (show j + 1 < 9223372036854775808 by omega)]; done)))
         ·intro hge
          simp only [decide_eq_false_iff_not, Int.ofNat_lt] at hge
          rw [List.drop_of_length_le (by omega)] at hmid
          (repeat (first | refine W.seq ?_ | refine W.block ?_ | refine W.skip ?_ | refine W.exit ?_))
          refine ⟨(us, F2), ⟨hmid.done, hF2, by simp only [List.length_cons] at hbd; simp only; omega⟩, by simp only [List.length_cons]; omega, ?_⟩
          refine le_L ?sle ?mle (kept_not hkeep)
          case mle => repeat (first | exact mle_nil _ | exact mle_refl _ | refine mle_upd ?_ zb8q18)
          case sle => repeat (first | exact sle_top _ | exact sle_refl _ | refine sle_upd ?_ zb8q39)
       ·intro h; simp at h
end V
end Go.Proofs.Ytmhchhmhpoldhaa
end
section
namespace Go.Proofs.Ytmhchhmhpoldhaa
namespace V
open Go.RowKit G
def toD (x : Int × Int) : Q := (x.1, x.2, 1, 0)
noncomputable def wholeL (n : Int) (l : List Q) : List Q := l ++ (sumI n l).map toD
set_option maxHeartbeats 1000000 in
theorem refSteps_ok (n : Int) (l : List Q) (hc : chkS n l = true) (hlen : l.length ≤ 100000000) (m : Mem) : COk Try.prog 28 [.c (.int .i64 n), .c (.sl (l.map cS))] m (.c (.sl ((wholeL n l).map cS))) := by
 obtain ⟨K, hK⟩ : ∃ K, K = sumI n l := ⟨_, rfl⟩
 have hKl : K.length ≤ 100000 * 100000 := by rw [hK]; exact sumI_len hc
 have hR : edgesR n l = [(false, [.sl (K.map cE)]), (false, [.int .i64 0])] := by unfold edgesR; rw [if_pos hc, ← hK]
 unfold wholeL
 rw [← hK]
 refine (ok_pure tab_ok Try.func28 (by kernel_rfl) rfl rfl (by rfl) (by rfl) (by rfl) (fun R hkeep => ?_) m)
 repeat (first | refine W.seq ?_ | refine W.block ?_ | refine W.skip ?_ | refine W.exit ?_ | refine W.g ?_)
 refine W.regionK tab_ok 0 (by decide) ?_
 refine xs0 1 ?_
 refine runk_appendNil tab_ok 100 true rfl rfl rfl rfl rfl rfl rfl rfl zb8q20 rfl rfl rfl rfl (fun z hz => by obtain ⟨y, -, rfl⟩ := List.mem_map.1 hz; rfl) (by rw [List.length_map]; omega) (by decide) ?_
 refine xe0 ?_
 repeat (first | refine W.seq ?_ | refine W.block ?_ | refine W.skip ?_ | refine W.exit ?_ | refine W.g ?_)
 refine W.regionK tab_ok 0 (by decide) ?_
 refine xs0 2 ?_
 refine runk_call rfl rfl rfl rfl rfl (by simp) (cvs_cons cv_refl (cvs_cons cv_refl cvs_nil)) (hR ▸ refEdgesR_ok n l hlen _) ?_
 refine xe0 ?_
 repeat (first | refine W.seq ?_ | refine W.block ?_ | refine W.skip ?_ | refine W.exit ?_ | refine W.g ?_)
 refine W.loop (ι := Nat) (fun k => ⟨upd (upd (upd (upd (fun _ => .top) 5 (.own 100)) 18 (.c (.sl (K.map cE)))) 19 (.c (.int .i64 K.length))) 20 (.c (.int .i64 k)), upd Mem.nil 100 (some (.arr 55 4 ((l ++ (K.take k).map toD).map cS)))⟩) (fun k => k ≤ K.length) (fun k => K.length - k) 0 ?start (Nat.zero_le _) ?round
 case start =>
  refine le_L ?sle ?mle (kept_not hkeep)
  case mle => repeat (first | exact mle_nil _ | exact mle_refl _ | refine mle_upd ?_ (by first | rfl | (simp only [upd_app, killM_app, Nat.reduceEqDiff, reduceIte, List.take_zero, List.map_nil, List.append_nil, List.length_map]; done)))
  case sle => repeat (first | exact sle_top _ | exact sle_refl _ | refine sle_upd ?_ (by first | rfl | (simp only [upd_app, entry_zero, entry_succ, Nat.reduceEqDiff, reduceIte, List.take_zero, List.map_nil, List.append_nil, List.length_map]; done)))
 case round =>
  intro k hkl
  repeat (first | refine W.seq ?_ | refine W.block ?_ | refine W.skip ?_ | refine W.exit ?_ | refine W.g ?_)
  refine W.cond rfl ?_ ?_
  ·intro hlt
   simp only [decide_eq_true_eq, Int.ofNat_lt] at hlt
   obtain ⟨⟨x, y⟩, hx⟩ : ∃ x, K[k]? = some x := ⟨_, List.getElem?_eq_getElem hlt⟩
   have hcx : cE (x, y) = [.int .i64 x, .int .i64 y] := rfl
   repeat (first | refine W.seq ?_ | refine W.block ?_ | refine W.skip ?_ | refine W.exit ?_ | refine W.g ?_ zb8q21)
   refine W.regionK tab_ok 0 (by decide) ?_
   refine xs0 7 ?_
   refine runk_append tab_ok 100 rfl rfl rfl rfl rfl rfl rfl rfl zb8q20 rfl rfl rfl rfl (nokeep hkeep) (fun z hz => by simp at hz; subst hz; rfl) zb8q38 (by decide) ?_
   refine xe0 ?_
   repeat (first | refine W.seq ?_ | refine W.block ?_ | refine W.skip ?_ | refine W.exit ?_ | refine W.g ?_)
   refine ⟨k + 1, hlt, by omega, ?_⟩
   have htk : (l ++ (K.take (k + 1)).map toD).map cS = (l ++ (K.take k).map toD).map cS ++ [[.int .i64 x, .int .i64 y, .int .i64 1, .int .i64 0]] := by
    rw [List.take_add_one, hx, Option.toList_some]; simp [toD, cS]
   rw [htk]
   refine le_L ?sle ?mle (kept_not hkeep)
   case mle => repeat (first | exact mle_nil _ | exact mle_refl _ | refine mle_upd ?_ zb8q36)
   case sle => repeat (first | exact sle_top _ | exact sle_refl _ | refine sle_upd ?_ zb8q29)
  ·intro hge
   simp only [decide_eq_false_iff_not, Int.ofNat_lt] at hge
   obtain rfl : k = K.length := by omega
   repeat (first | refine W.seq ?_ | refine W.block ?_ | refine W.skip ?_ | refine W.exit ?_ | refine W.g ?_)
   refine W.ret ⟨.inr rfl, by rfl, ?_⟩
   simp only [Try.f28, resA, resOne, toT, fin, exb, Nat.reduceAdd, Nat.reduceLeDiff, Nat.reduceEqDiff, Nat.reduceMul, Int.reduceToNat, reduceIte, Int.reduceLE, Int.reduceNeg, List.take_length]
end V
end Go.Proofs.Ytmhchhmhpoldhaa
end
section
namespace Go.Proofs.Ytmhchhmhpoldhaa
namespace V
open Go.RowKit G
theorem live_both {m m' : Mem} {j : Nat} {o o' : O} (h : ∀ i, (m i).isSome = true → (m' i).isSome = true) : ∀ i, (upd m j (some o) i).isSome = true → (upd m' j (some o') i).isSome = true := fun i hi => by
 unfold upd at hi ⊢
 split
 ·rfl
 ·rename_i e; rw [if_neg e] at hi; exact h i hi
theorem wrap_twop {x p : Nat} (h : 2 * x + p < 9223372036854775808) : IntKind.i64.wrap (((2 * x : Nat) : Int) + (p : Int)) = ((2 * x + p : Nat) : Int) := by
 rw [← wrap_nat h]; congr 1
set_option maxHeartbeats 2000000 in
theorem lay_ok (S : List (Nat × Nat)) (hS : S.length ≤ 100000000000) (f t k s p q : Nat) (hf : f ≤ 1000000) (ht : t ≤ 1000000) (hp : p ≤ 1) (hq : q ≤ 1) (E : List A) (hE : ∀ a ∈ E, a.ids = []) :
  CallE Try.prog 38 [.agg (cS (castS ⟨f, t, k, s⟩)), .c (.int .i64 p), .c (.int .i64 q), .ptr 4 0] (upd (upd (upd Mem.nil 4 (some (.box 46 [.own 70]))) 70 (some (.arr 65 2 (S.map cEd)))) 11 (some (.box 54 E))) [70] (.tup []) (upd (upd (upd Mem.nil 4 (some (.box 46 [.own 70]))) 70 (some (.arr 65 2 ((S ++ [(2 * f + p, 2 * t + q)]).map cEd)))) 11 (some (.box 54 E))) := by
 refine (ok_eff tab_ok [70] Try.func38 (by kernel_rfl) rfl rfl (by rfl) (by rfl) ?ids ?res ?sub ?wfm (fun hWF Rr hkeep => ?_))
 case ids => intro a ha j hj; simp at ha; rcases ha with rfl | rfl | rfl | rfl <;> simp [A.ids] at hj; subst hj; simp [upd_app]
 case res => intro j hj; simp [A.ids] at hj
 case sub => exact fun j h => live_both (live_both (live_both (fun _ h => h))) j h
 case wfm =>
  intro hw
  have h11 := hw 11 _ (upd_same ..)
  show MWf _ _
  refine mwf_upd (mwf_upd (mwf_upd (mwf_nil _) zb8q50) zb8q50) (fun j hj => ?_)
  simp only [O.ids, List.mem_flatMap] at hj
  obtain ⟨a, ha, hj⟩ := hj
  rw [hE a ha] at hj; simp at hj
 have nk : ¬ Rr.keep 70 := by rw [hkeep]; exact fun h => h.2 (by simp)
 have kept : ∀ j, Rr.keep j → ((upd (upd (upd Mem.nil 4 (some (.box 46 [.own 70]))) 70 (some (.arr 65 2 ((S ++ [(2 * f + p, 2 * t + q)]).map cEd)))) 11 (some (.box 54 E))) j).isSome = true := fun j hj => by rw [hkeep] at hj; exact live_both (live_both (live_both (fun _ h => h))) j hj.1
 have e1 := wrap_two (x := f) (by omega)
 have e2 := wrap_two (x := t) (by omega)
 have e3 := wrap_twop (x := f) (p := p) (by omega)
 have e4 := wrap_twop (x := t) (p := q) (by omega)
 repeat (first | refine W.seq ?_ | refine W.block ?_ | refine W.skip ?_ | refine W.exit ?_ | refine W.region tab_ok 200 (by decide) (exec_run zb8q24) ?_)
 refine W.regionK tab_ok 200 (by decide) ?_
 refine runk_split 13 zb8q12 ?_
 refine runk_append tab_ok 70 rfl rfl rfl rfl rfl rfl (by simp only [exb, Nat.reduceAdd, Nat.reduceLeDiff, Nat.reduceEqDiff, Nat.reduceMul, Int.reduceToNat, reduceIte, Int.reduceLE, Int.reduceNeg, castS, cS, e1, e2, e3, e4]) zb8q12 (by first | rfl | (simp only [exb, Nat.reduceAdd, Nat.reduceLeDiff, Nat.reduceEqDiff, Nat.reduceMul, Int.reduceToNat, reduceIte, Int.reduceLE, Int.reduceNeg, castS, cS, e1, e2, e3, e4]; rfl)) rfl rfl rfl rfl nk (fun z hz => by simp at hz; subst hz; rfl) zb8q47 (by decide) ?_
 refine runk_exec zb8q24 ?_
 refine ⟨.inl rfl, rfl, rfl, ?_⟩
 have hEk : E.map (A.kill 70) = E := by
  refine (List.map_congr_left fun a ha => ?_).trans (List.map_id _)
  rcases (A.kill_ids (id := 70) (a := a)).2 with h | h
  ·exact A.kill_not (by rw [hE a ha]; simp)
  ·exact h.1
 refine mle_upd (mle_upd (mle_upd (mle_nil _) ?_) ?_) ?_
 all_goals simp only [upd_app, killM_app, O.kill, A.kill, A.ids, Nat.reduceEqDiff, reduceIte, Option.map_some, Option.map_none, List.map_cons, List.map_nil, List.map_append, hEk, cEd, List.set]
end V
end Go.Proofs.Ytmhchhmhpoldhaa
end
section
namespace Go.Proofs.Ytmhchhmhpoldhaa
namespace V
open Go.RowKit G
def mkD (p : Nat × Nat) : SE := ⟨p.1, p.2, 1, 0⟩
noncomputable def wholeE (n : Int) (l : List Q) : List SE := natS l ++ (sumL (natS l) n.toNat).map mkD
theorem wholeL_eq {n : Int} {l : List Q} (hc : chkS n l = true) : wholeL n l = (wholeE n l).map castS := by
 obtain ⟨h1, -, -⟩ := natS_back hc
 unfold wholeL wholeE sumI
 rw [List.map_append, h1, List.map_map, List.map_map]
 rfl
theorem wholeE_lt {n : Int} {l : List Q} (hc : chkS n l = true) : ∀ e ∈ wholeE n l, e.f < n.toNat ∧ e.t < n.toNat := fun e he => by
 obtain ⟨-, -, h3⟩ := natS_back hc
 rcases List.mem_append.1 he with he | he
 ·exact h3 e he
 ·obtain ⟨p, hp, rfl⟩ := List.mem_map.1 he
  have := mem_sumL.1 (show (p.1, p.2) ∈ sumL (natS l) n.toNat from hp)
  exact ⟨this.1, this.2.1⟩
theorem wholeE_len (n : Int) (l : List Q) : (wholeE n l).length = l.length + (sumI n l).length := by simp [wholeE, natS, sumI]
set_option maxRecDepth 100000 in
theorem cloneS_mut (l : List Q) (hl : l.length ≤ 1000000000) (M : Mem) (id : Nat) (hid : M id = none) : CallE Try.prog 40 [.c (.sl (l.map cS))] M [] (.own id) (upd M id (some (.mrow 54 4 (l.map cS)))) :=
 clone_mut (size := 4) (bytes := 32) Try.laysClone40 ⟨_, _, rfl, rfl, rfl, rfl, rfl⟩ (by decide) (enters_of Try.func40 (by kernel_rfl) rfl) (l.map cS) (fun x hx => by obtain ⟨⟨a, b, c, d⟩, -, rfl⟩ := List.mem_map.1 hx; rfl) (by rw [List.length_map]; omega) M id hid
set_option maxHeartbeats 8000000 in
theorem steps_ok (n : Int) (l : List Q) (hc : chkS n l = true) (hlen : l.length ≤ 100000000) (m : Mem) : COk Try.prog 23 [.c (.int .i64 n), .c (.sl (l.map cS))] m (.c (.sl ((stp (wholeE n l)).map cEd))) := by
 obtain ⟨K, hK⟩ : ∃ K, K = sumI n l := ⟨_, rfl⟩
 have hKl : K.length ≤ 100000 * 100000 := by rw [hK]; exact sumI_len hc
 have hR : edgesR n l = [(false, [.sl (K.map cE)]), (false, [.int .i64 0])] := by unfold edgesR; rw [if_pos hc, ← hK]
 have hW : l ++ K.map toD = (wholeE n l).map castS := by rw [← wholeL_eq hc, hK]; rfl
 have hlt' := wholeE_lt hc
 have hEl := wholeE_len n l
 have hn := (natS_back hc).2.1
 rw [← hK] at hEl
 obtain ⟨E, hE⟩ : ∃ E, E = wholeE n l := ⟨_, rfl⟩
 rw [← hE] at hW hlt' hEl ⊢
 clear hE
 refine (ok_pure tab_ok Try.func23 (by kernel_rfl) rfl rfl (by rfl) (by rfl) (by rfl) (fun R hkeep => ?_) m)
 repeat (first | refine W.seq ?_ | refine W.block ?_ | refine W.skip ?_ | refine W.exit ?_ | refine W.g ?_)
 refine W.regionK tab_ok 0 (by decide) ?_
 refine xs0 2 ?_
 refine runk_call rfl rfl rfl rfl rfl (by simp) (cvs_cons cv_refl (cvs_cons cv_refl cvs_nil)) (hR ▸ edgesR_ok n l hlen _) ?_
 refine xe0 ?_
 (repeat (first | refine W.seq ?_ | refine W.block ?_ | refine W.skip ?_ | refine W.exit ?_))
 refine W.regionK tab_ok 0 (by decide) ?_
 refine xs0 1 ?_
 refine runk_callE (D := []) rfl rfl rfl rfl rfl (fun j hj => by simp at hj) (by simp) (cvs_cons cv_refl cvs_nil) (cloneS_mut l (by omega) _ 50 rfl) ?_
 simp only [killL, putS, upd_upd]
 refine xe0 ?_
 repeat (first | refine W.seq ?_ | refine W.block ?_ | refine W.skip ?_ | refine W.exit ?_ | refine W.g ?_)
 refine W.loop (ι := Nat) (fun k => ⟨upd (upd (upd (upd (upd (upd (fun _ => .top) 1 (.own 50)) 4 (.ptr 4 0)) 5 (.fn 38 [4])) 21 (.c (.sl (K.map cE)))) 22 (.c (.int .i64 K.length))) 23 (.c (.int .i64 k)), upd (upd Mem.nil 4 (some (.box 46 [.nil]))) 50 (some (.mrow 54 4 ((l ++ (K.take k).map toD).map cS)))⟩) (fun k => k ≤ K.length) (fun k => K.length - k) 0 ?start (Nat.zero_le _) ?round
 case start =>
  refine le_mk ?sle ?mle ?swf ?mwf (kept_not hkeep) (by rfl)
  case swf => repeat (first | exact swf_top _ | refine swf_upd ?_ (by simp [A.ids, upd_app, List.take_zero, List.map_nil, List.append_nil, List.length_map]))
  case mwf => repeat (first | exact mwf_nil _ | refine mwf_upd ?_ (by simp [A.ids, O.ids, upd_app, List.take_zero, List.map_nil, List.append_nil, List.length_map]))
  case mle => repeat (first | exact mle_nil _ | exact mle_refl _ | refine mle_upd ?_ (by first | rfl | (simp only [upd_app, killM_app, O.kill, A.kill, Nat.reduceEqDiff, reduceIte, Option.map_some, Option.map_none, List.map_cons, List.map_nil, List.take_zero, List.map_nil, List.append_nil, List.length_map]; done)))
  case sle => repeat (first | exact sle_top _ | exact sle_refl _ | refine sle_upd ?_ (by first | rfl | (simp only [upd_app, killS_app, A.kill, entry_zero, entry_succ, Nat.reduceEqDiff, reduceIte, List.take_zero, List.map_nil, List.append_nil, List.length_map]; done)))
 case round =>
  intro k hkl
  repeat (first | refine W.seq ?_ | refine W.block ?_ | refine W.skip ?_ | refine W.exit ?_ | refine W.g ?_)
  refine W.cond rfl ?_ ?_
  ·intro hlt
   simp only [decide_eq_true_eq, Int.ofNat_lt] at hlt
   obtain ⟨⟨x, y⟩, hx⟩ : ∃ x, K[k]? = some x := ⟨_, List.getElem?_eq_getElem hlt⟩
   have hcx : cE (x, y) = [.int .i64 x, .int .i64 y] := rfl
   repeat (first | refine W.seq ?_ | refine W.block ?_ | refine W.skip ?_ | refine W.exit ?_ | refine W.g ?_ zb8q21)
   refine W.regionK tab_ok 0 (by decide) ?_
   refine xs0 7 ?_
   refine runk_appendM tab_ok 50 rfl rfl rfl rfl rfl rfl zb8q35 zb8q33 zb8q20 rfl rfl rfl rfl (nokeep hkeep) (fun z hz => by simp at hz; subst hz; rfl) zb8q38 (by decide) ?_
   refine xe0 ?_
   repeat (first | refine W.seq ?_ | refine W.block ?_ | refine W.skip ?_ | refine W.exit ?_ | refine W.g ?_)
   refine ⟨k + 1, hlt, by omega, ?_⟩
   have htk : (l ++ (K.take (k + 1)).map toD).map cS = (l ++ (K.take k).map toD).map cS ++ [[.int .i64 x, .int .i64 y, .int .i64 1, .int .i64 0]] := by
    rw [List.take_add_one, hx, Option.toList_some]; simp [toD, cS]
   rw [htk]
   refine le_mk ?sle ?mle ?swf ?mwf (kept_not hkeep) (by rfl)
   case swf => repeat (first | exact swf_top _ | refine swf_upd ?_ zb8q46)
   case mwf => repeat (first | exact mwf_nil _ | refine mwf_upd ?_ zb8q43)
   case mle => repeat (first | exact mle_nil _ | exact mle_refl _ | refine mle_upd ?_ zb8q8)
   case sle => repeat (first | exact sle_top _ | exact sle_refl _ | refine sle_upd ?_ zb8q16)
  ·intro hge
   simp only [decide_eq_false_iff_not, Int.ofNat_lt] at hge
   obtain rfl : k = K.length := by omega
   rw [List.take_length, hW]
   (repeat (first | refine W.seq ?_ | refine W.block ?_ | refine W.skip ?_ | refine W.exit ?_))
   refine W.freeze 1 50 rfl zb8q33 (nokeep hkeep) ?_
   refine W.newRowBox true 4 0 70 65 2 rfl rfl rfl ?_
   repeat (first | refine W.seq ?_ | refine W.block ?_ | refine W.skip ?_ | refine W.exit ?_ | refine W.g ?_ zb8q19)
   refine W.loop (ι := Nat) (fun k => ⟨upd (upd (upd (upd (upd (fun _ => .top) 4 (.ptr 4 0)) 5 (.fn 38 [4])) 36 (.c (.sl ((E.map castS).map cS)))) 37 (.c (.int .i64 E.length))) 38 (.c (.int .i64 k)), upd (upd Mem.nil 4 (some (.box 46 [.own 70]))) 70 (some (.arr 65 2 ((stp (E.take k)).map cEd)))⟩) (fun k => k ≤ E.length) (fun k => E.length - k) 0 ?start2 (Nat.zero_le _) ?round2
   case start2 =>
    refine le_mk ?sle ?mle ?swf ?mwf (kept_not hkeep) (by rfl)
    case swf => repeat (first | exact swf_top _ | refine swf_upd ?_ (by simp [A.ids, upd_app, stp, List.take_zero, List.flatMap_nil, List.map_nil, List.set]))
    case mwf => repeat (first | exact mwf_nil _ | refine mwf_upd ?_ (by simp [A.ids, O.ids, upd_app, stp, List.take_zero, List.flatMap_nil, List.map_nil, List.set]))
    case mle => repeat (first | exact mle_nil _ | exact mle_refl _ | refine mle_upd ?_ (by first | rfl | (simp only [upd_app, killM_app, O.kill, A.kill, Nat.reduceEqDiff, reduceIte, Option.map_some, Option.map_none, List.map_cons, List.map_nil, stp, List.take_zero, List.flatMap_nil, List.map_nil, List.set]; done)))
    case sle => repeat (first | exact sle_top _ | exact sle_refl _ | refine sle_upd ?_ (by first | rfl | (simp only [upd_app, killS_app, A.kill, entry_zero, entry_succ, Nat.reduceEqDiff, reduceIte, stp, List.take_zero, List.flatMap_nil, List.map_nil, List.set]; done)))
   case round2 =>
    intro k hk
    repeat (first | refine W.seq ?_ | refine W.block ?_ | refine W.skip ?_ | refine W.exit ?_ | refine W.g ?_)
    refine W.cond rfl ?_ ?_
    ·intro hlt
     simp only [decide_eq_true_eq, Int.ofNat_lt] at hlt
     obtain ⟨⟨f, t, kk, s⟩, hx⟩ : ∃ x, E[k]? = some x := ⟨_, List.getElem?_eq_getElem hlt⟩
     obtain ⟨hf, ht⟩ := hlt' _ (List.mem_of_getElem? hx)
     replace hf : f < n.toNat := hf
     replace ht : t < n.toNat := ht
     have hxc : (E.map castS)[k]? = some (castS ⟨f, t, kk, s⟩) := by rw [List.getElem?_map, hx]; rfl
     have hcc : cS (castS ⟨f, t, kk, s⟩) = [.int .i64 (f : Int), .int .i64 (t : Int), .int .i64 (kk : Int), .int .i64 (s : Int)] := rfl
     obtain ⟨S, hS⟩ : ∃ S, S = stp (E.take k) := ⟨_, rfl⟩
     have hSl : S.length ≤ 90000000000 := by
      have := stp_len (E.take k); have := List.length_take_le' k E; rw [hS]; omega
     repeat (first | refine W.seq ?_ | refine W.block ?_ | refine W.skip ?_ | refine W.exit ?_ | refine W.g ?_ (by simp only [exb, Nat.reduceAdd, Nat.reduceLeDiff, Nat.reduceEqDiff, Nat.reduceMul, Int.reduceToNat, reduceIte, Int.reduceLE, Int.reduceNeg, at_map hxc, hcc]; rfl))
     rw [← hS]
     simp only [upd_upd]
     by_cases h1 : kk = 1
     ·have hst : stepE ⟨f, t, kk, s⟩ = [(2 * f + 0, 2 * t + 0), (2 * f + 1, 2 * t + 1)] := by simp [stepE, h1]
      refine W.cond rfl (fun _ => ?_) (fun h => absurd h (by simp; omega))
      repeat (first | refine W.seq ?_ | refine W.block ?_ | refine W.skip ?_ | refine W.exit ?_ | refine W.g ?_)
      refine W.cond rfl (fun _ => ?_) (fun h => absurd h (by simp; omega))
      (repeat (first | refine W.seq ?_ | refine W.block ?_ | refine W.skip ?_ | refine W.exit ?_))
      refine W.regionK tab_ok 0 (by decide) ?_
      refine runk_split 2 zb8q25 ?_
      refine runk_callE (D := [70]) rfl rfl rfl rfl rfl (fun j hj => nokeep hkeep) zb8q49 (cvs_cons cv_refl (cvs_cons cv_refl (cvs_cons cv_refl (cvs_cons cv_refl cvs_nil)))) (lay_ok S zb8q45 f t kk s 0 0 (by omega) (by omega) (by decide) (by decide) _ zb8q48) ?_
      simp only [killL, putS, upd_upd]
      refine xe0 ?_
      (repeat (first | refine W.seq ?_ | refine W.block ?_ | refine W.skip ?_ | refine W.exit ?_))
      refine W.regionK tab_ok 0 (by decide) ?_
      refine runk_split 2 zb8q25 ?_
      refine runk_callE (D := [70]) rfl rfl rfl rfl rfl (fun j hj => nokeep hkeep) zb8q49 (cvs_cons cv_refl (cvs_cons cv_refl (cvs_cons cv_refl (cvs_cons cv_refl cvs_nil)))) (lay_ok (S ++ [(2 * f + 0, 2 * t + 0)]) zb8q45 f t kk s 1 1 (by omega) (by omega) (by decide) (by decide) _ zb8q48) ?_
      simp only [killL, putS, upd_upd]
      refine xe0 ?_
      subst hS
      repeat (first | refine W.seq ?_ | refine W.block ?_ | refine W.skip ?_ | refine W.exit ?_ | refine W.g ?_)
      refine ⟨k + 1, hlt, by omega, ?_⟩
      rw [stp_next hx, hst]
      refine le_mk ?sle ?mle ?swf ?mwf (kept_not hkeep) (by rfl)
      case swf => repeat (first | exact swf_top _ | refine swf_upd ?_ zb8q32)
      case mwf => repeat (first | exact mwf_nil _ | refine mwf_upd ?_ zb8q27)
      case mle => repeat (first | exact mle_nil _ | exact mle_refl _ | refine mle_upd ?_ zb8q1)
      case sle => repeat (first | exact sle_top _ | exact sle_refl _ | refine sle_upd ?_ zb8q3)
     refine W.cond rfl (fun h => absurd h (by simp; omega)) (fun _ => ?_)
     repeat (first | refine W.seq ?_ | refine W.block ?_ | refine W.skip ?_ | refine W.exit ?_ | refine W.g ?_)
     by_cases h2 : kk = 2
     ·have hst : stepE ⟨f, t, kk, s⟩ = [(2 * f + 0, 2 * t + 0), (2 * f + 1, 2 * t + 1)] := by simp [stepE, h2]
      refine W.cond rfl (fun _ => ?_) (fun h => absurd h (by simp; omega))
      (repeat (first | refine W.seq ?_ | refine W.block ?_ | refine W.skip ?_ | refine W.exit ?_))
      refine W.regionK tab_ok 0 (by decide) ?_
      refine runk_split 2 zb8q25 ?_
      refine runk_callE (D := [70]) rfl rfl rfl rfl rfl (fun j hj => nokeep hkeep) zb8q49 (cvs_cons cv_refl (cvs_cons cv_refl (cvs_cons cv_refl (cvs_cons cv_refl cvs_nil)))) (lay_ok S zb8q45 f t kk s 0 0 (by omega) (by omega) (by decide) (by decide) _ zb8q48) ?_
      simp only [killL, putS, upd_upd]
      refine xe0 ?_
      (repeat (first | refine W.seq ?_ | refine W.block ?_ | refine W.skip ?_ | refine W.exit ?_))
      refine W.regionK tab_ok 0 (by decide) ?_
      refine runk_split 2 zb8q25 ?_
      refine runk_callE (D := [70]) rfl rfl rfl rfl rfl (fun j hj => nokeep hkeep) zb8q49 (cvs_cons cv_refl (cvs_cons cv_refl (cvs_cons cv_refl (cvs_cons cv_refl cvs_nil)))) (lay_ok (S ++ [(2 * f + 0, 2 * t + 0)]) zb8q45 f t kk s 1 1 (by omega) (by omega) (by decide) (by decide) _ zb8q48) ?_
      simp only [killL, putS, upd_upd]
      refine xe0 ?_
      subst hS
      repeat (first | refine W.seq ?_ | refine W.block ?_ | refine W.skip ?_ | refine W.exit ?_ | refine W.g ?_)
      refine ⟨k + 1, hlt, by omega, ?_⟩
      rw [stp_next hx, hst]
      refine le_mk ?sle ?mle ?swf ?mwf (kept_not hkeep) (by rfl)
      case swf => repeat (first | exact swf_top _ | refine swf_upd ?_ zb8q32)
      case mwf => repeat (first | exact mwf_nil _ | refine mwf_upd ?_ zb8q27)
      case mle => repeat (first | exact mle_nil _ | exact mle_refl _ | refine mle_upd ?_ zb8q1)
      case sle => repeat (first | exact sle_top _ | exact sle_refl _ | refine sle_upd ?_ zb8q3)
     refine W.cond rfl (fun h => absurd h (by simp; omega)) (fun _ => ?_)
     repeat (first | refine W.seq ?_ | refine W.block ?_ | refine W.skip ?_ | refine W.exit ?_ | refine W.g ?_)
     by_cases h5 : kk = 5
     ·have hst : stepE ⟨f, t, kk, s⟩ = [(2 * f + 0, 2 * t + 0)] := by simp [stepE, h5]
      refine W.cond rfl (fun _ => ?_) (fun h => absurd h (by simp; omega))
      (repeat (first | refine W.seq ?_ | refine W.block ?_ | refine W.skip ?_ | refine W.exit ?_))
      refine W.regionK tab_ok 0 (by decide) ?_
      refine runk_split 2 zb8q25 ?_
      refine runk_callE (D := [70]) rfl rfl rfl rfl rfl (fun j hj => nokeep hkeep) zb8q49 (cvs_cons cv_refl (cvs_cons cv_refl (cvs_cons cv_refl (cvs_cons cv_refl cvs_nil)))) (lay_ok S zb8q45 f t kk s 0 0 (by omega) (by omega) (by decide) (by decide) _ zb8q48) ?_
      simp only [killL, putS, upd_upd]
      refine xe0 ?_
      subst hS
      repeat (first | refine W.seq ?_ | refine W.block ?_ | refine W.skip ?_ | refine W.exit ?_ | refine W.g ?_)
      refine ⟨k + 1, hlt, by omega, ?_⟩
      rw [stp_next hx, hst]
      refine le_mk ?sle ?mle ?swf ?mwf (kept_not hkeep) (by rfl)
      case swf => repeat (first | exact swf_top _ | refine swf_upd ?_ zb8q32)
      case mwf => repeat (first | exact mwf_nil _ | refine mwf_upd ?_ zb8q27)
      case mle => repeat (first | exact mle_nil _ | exact mle_refl _ | refine mle_upd ?_ zb8q1)
      case sle => repeat (first | exact sle_top _ | exact sle_refl _ | refine sle_upd ?_ zb8q3)
     refine W.cond rfl (fun h => absurd h (by simp; omega)) (fun _ => ?_)
     repeat (first | refine W.seq ?_ | refine W.block ?_ | refine W.skip ?_ | refine W.exit ?_ | refine W.g ?_)
     by_cases h4 : kk = 4
     ·have hst : stepE ⟨f, t, kk, s⟩ = [(2 * f + 0, 2 * t + 1), (2 * f + 1, 2 * t + 1)] := by simp [stepE, h4]
      refine W.cond rfl (fun _ => ?_) (fun h => absurd h (by simp; omega))
      (repeat (first | refine W.seq ?_ | refine W.block ?_ | refine W.skip ?_ | refine W.exit ?_))
      refine W.regionK tab_ok 0 (by decide) ?_
      refine runk_split 2 zb8q25 ?_
      refine runk_callE (D := [70]) rfl rfl rfl rfl rfl (fun j hj => nokeep hkeep) zb8q49 (cvs_cons cv_refl (cvs_cons cv_refl (cvs_cons cv_refl (cvs_cons cv_refl cvs_nil)))) (lay_ok S zb8q45 f t kk s 0 1 (by omega) (by omega) (by decide) (by decide) _ zb8q48) ?_
      simp only [killL, putS, upd_upd]
      refine xe0 ?_
      (repeat (first | refine W.seq ?_ | refine W.block ?_ | refine W.skip ?_ | refine W.exit ?_))
      refine W.regionK tab_ok 0 (by decide) ?_
      refine runk_split 2 zb8q25 ?_
      refine runk_callE (D := [70]) rfl rfl rfl rfl rfl (fun j hj => nokeep hkeep) zb8q49 (cvs_cons cv_refl (cvs_cons cv_refl (cvs_cons cv_refl (cvs_cons cv_refl cvs_nil)))) (lay_ok (S ++ [(2 * f + 0, 2 * t + 1)]) zb8q45 f t kk s 1 1 (by omega) (by omega) (by decide) (by decide) _ zb8q48) ?_
      simp only [killL, putS, upd_upd]
      refine xe0 ?_
      subst hS
      repeat (first | refine W.seq ?_ | refine W.block ?_ | refine W.skip ?_ | refine W.exit ?_ | refine W.g ?_)
      refine ⟨k + 1, hlt, by omega, ?_⟩
      rw [stp_next hx, hst]
      refine le_mk ?sle ?mle ?swf ?mwf (kept_not hkeep) (by rfl)
      case swf => repeat (first | exact swf_top _ | refine swf_upd ?_ zb8q32)
      case mwf => repeat (first | exact mwf_nil _ | refine mwf_upd ?_ zb8q27)
      case mle => repeat (first | exact mle_nil _ | exact mle_refl _ | refine mle_upd ?_ zb8q1)
      case sle => repeat (first | exact sle_top _ | exact sle_refl _ | refine sle_upd ?_ zb8q3)
     refine W.cond rfl (fun h => absurd h (by simp; omega)) (fun _ => ?_)
     have hst : stepE ⟨f, t, kk, s⟩ = [(2 * f + 0, 2 * t + 0), (2 * f + 1, 2 * t + 0)] := by simp [stepE, h1, h2, h5, h4]
     (repeat (first | refine W.seq ?_ | refine W.block ?_ | refine W.skip ?_ | refine W.exit ?_))
     refine W.regionK tab_ok 0 (by decide) ?_
     refine runk_split 2 zb8q25 ?_
     refine runk_callE (D := [70]) rfl rfl rfl rfl rfl (fun j hj => nokeep hkeep) zb8q49 (cvs_cons cv_refl (cvs_cons cv_refl (cvs_cons cv_refl (cvs_cons cv_refl cvs_nil)))) (lay_ok S zb8q45 f t kk s 0 0 (by omega) (by omega) (by decide) (by decide) _ zb8q48) ?_
     simp only [killL, putS, upd_upd]
     refine xe0 ?_
     (repeat (first | refine W.seq ?_ | refine W.block ?_ | refine W.skip ?_ | refine W.exit ?_))
     refine W.regionK tab_ok 0 (by decide) ?_
     refine runk_split 2 zb8q25 ?_
     refine runk_callE (D := [70]) rfl rfl rfl rfl rfl (fun j hj => nokeep hkeep) zb8q49 (cvs_cons cv_refl (cvs_cons cv_refl (cvs_cons cv_refl (cvs_cons cv_refl cvs_nil)))) (lay_ok (S ++ [(2 * f + 0, 2 * t + 0)]) zb8q45 f t kk s 1 0 (by omega) (by omega) (by decide) (by decide) _ zb8q48) ?_
     simp only [killL, putS, upd_upd]
     refine xe0 ?_
     subst hS
     repeat (first | refine W.seq ?_ | refine W.block ?_ | refine W.skip ?_ | refine W.exit ?_ | refine W.g ?_)
     refine ⟨k + 1, hlt, by omega, ?_⟩
     rw [stp_next hx, hst]
     refine le_mk ?sle ?mle ?swf ?mwf (kept_not hkeep) (by rfl)
     case swf => repeat (first | exact swf_top _ | refine swf_upd ?_ zb8q32)
     case mwf => repeat (first | exact mwf_nil _ | refine mwf_upd ?_ zb8q27)
     case mle => repeat (first | exact mle_nil _ | exact mle_refl _ | refine mle_upd ?_ zb8q1)
     case sle => repeat (first | exact sle_top _ | exact sle_refl _ | refine sle_upd ?_ zb8q3)
    ·intro hge
     simp only [decide_eq_false_iff_not, Int.ofNat_lt] at hge
     obtain rfl : k = E.length := by omega
     rw [List.take_length]
     repeat (first | refine W.seq ?_ | refine W.block ?_ | refine W.skip ?_ | refine W.exit ?_ | refine W.g ?_)
     refine W.ret ⟨.inr rfl, by rfl, ?_⟩
     simp only [Try.f23, resA, resOne, toT, fin, exb, Nat.reduceAdd, Nat.reduceLeDiff, Nat.reduceEqDiff, Nat.reduceMul, Int.reduceToNat, reduceIte, Int.reduceLE, Int.reduceNeg]
end V
end Go.Proofs.Ytmhchhmhpoldhaa
end
section
namespace Go.Proofs.Ytmhchhmhpoldhaa
namespace V
open Go.RowKit G
def metB (F : Nat → Nat) (i : Nat) : Bool := decide (F (2 * i) ≠ 0 ∨ F (2 * i + 1) ≠ 0)
def reachB (F : Nat → Nat) (n : Nat) : List Nat := (List.range n).filter (metB F)
theorem reachB_succ (F : Nat → Nat) (k : Nat) : reachB F (k + 1) = reachB F k ++ (if metB F k = true then [k] else []) := by
 unfold reachB
 rw [List.range_succ, List.filter_append]
 by_cases h : metB F k = true <;> simp [h]
theorem reachB_len (F : Nat → Nat) (n : Nat) : (reachB F n).length ≤ n := by
 have := List.length_filter_le (metB F) (List.range n); simpa [reachB] using this
theorem errN_zero {n : Nat} {l : List Q} (hc : chkS n l = true) {S : List Nat} (hS : ∀ i ∈ S, i < n) : errN n l (zN S) = 0 := by
 have h : (zN S).any (outN n) = false := by
  rw [List.any_eq_false]
  intro z hz
  obtain ⟨i, hi, rfl⟩ := List.mem_map.1 hz
  have := hS i hi
  simp [outN]; omega
 simp [errN, hc, h]
theorem fcheckN_ok {n : Nat} {l : List Q} (hc : chkS n l = true) {S : List Nat} (hS : ∀ i ∈ S, i < n) (hlen : l.length ≤ 1000000000) (hSl : S.length ≤ 1000000000) (m : Mem) : COk Try.prog 20 [.c (.int .i64 n), .c (.sl (l.map cS)), .c (.sl (S.map cN))] m (.c (.int .i64 0)) := by
 have := fcheck_ok n l (zN S) (by omega) (by rw [zN_len]; omega) m
 rwa [cZ_zN, errN_zero hc hS] at this
theorem refCheckNN_ok {n : Nat} {l : List Q} (hc : chkS n l = true) {S : List Nat} (hS : ∀ i ∈ S, i < n) (hlen : l.length ≤ 1000000000) (hSl : S.length ≤ 1000000000) (m : Mem) : COk Try.prog 25 [.c (.int .i64 n), .c (.sl (l.map cS)), .c (.sl (S.map cN))] m (.c (.int .i64 0)) := by
 have := refCheckN_ok n l (zN S) (by omega) (by rw [zN_len]; omega) m
 rwa [cZ_zN, errN_zero hc hS] at this
noncomputable def allS (n : Nat) (l : List Q) : List (Nat × Nat) := stp (wholeE n l)
theorem allS_lt {n : Nat} {l : List Q} (hc : chkS n l = true) : ∀ e ∈ allS n l, e.1 < 2 * n ∧ e.2 < 2 * n :=
 stp_lt fun e he => by have := wholeE_lt hc e he; simpa using this
theorem turn_lt {S : List (Nat × Nat)} {N : Nat} (h : ∀ e ∈ S, e.1 < N ∧ e.2 < N) : ∀ e ∈ turnL S, e.1 < N ∧ e.2 < N := fun ⟨a, b⟩ he => by have := h _ (mem_turn.1 he); exact ⟨this.2, this.1⟩
theorem headsF_ok (n : Nat) (hn : n ≤ 100000) (E0 : List (Nat × Nat)) (hlen : E0.length ≤ 1000000) (hE0 : ∀ e ∈ E0, e.1 < 2 * n ∧ e.2 < 2 * n) (m : Mem) : COk Try.prog 22 [.c (.int .i64 n), .c (.sl (E0.map cEd)), .c (.bool false)] m (.c (.sl (tabU E0 (2 * n)))) := heads_ok n hn E0 hlen hE0 false m
theorem headsT_ok (n : Nat) (hn : n ≤ 100000) (E0 : List (Nat × Nat)) (hlen : E0.length ≤ 1000000) (hE0 : ∀ e ∈ E0, e.1 < 2 * n ∧ e.2 < 2 * n) (m : Mem) : COk Try.prog 22 [.c (.int .i64 n), .c (.sl (E0.map cEd)), .c (.bool true)] m (.c (.sl (tabU (turnL E0) (2 * n)))) := heads_ok n hn E0 hlen hE0 true m
theorem waysF_ok (n : Nat) (l : List Q) (hc : chkS n l = true) (hlen : (wholeE n l).length ≤ 1000000) (m : Mem) : COk Try.prog 27 [.c (.int .i64 n), .c (.sl ((wholeL n l).map cS)), .c (.bool false)] m (.c (.sl (tabU (allS n l) (2 * n)))) := by
 rw [wholeL_eq hc]
 exact ways_ok n (by have := (natS_back hc).2.1; omega) (wholeE n l) hlen (fun e he => by have := wholeE_lt hc e he; simpa using this) false m
theorem waysT_ok (n : Nat) (l : List Q) (hc : chkS n l = true) (hlen : (wholeE n l).length ≤ 1000000) (m : Mem) : COk Try.prog 27 [.c (.int .i64 n), .c (.sl ((wholeL n l).map cS)), .c (.bool true)] m (.c (.sl (tabU (turnL (allS n l)) (2 * n)))) := by
 rw [wholeL_eq hc]
 exact ways_ok n (by have := (natS_back hc).2.1; omega) (wholeE n l) hlen (fun e he => by have := wholeE_lt hc e he; simpa using this) true m
theorem twi_lt {S : List Nat} {n : Nat} (hS : ∀ i ∈ S, i < n) : ∀ t ∈ twi S, t < 2 * n := fun t ht => by
 obtain ⟨i, hi, rfl⟩ := List.mem_map.1 ht
 have := hS i hi; omega
theorem wrap_add {a b : Nat} (h : a + b < 9223372036854775808) : IntKind.i64.wrap ((a : Int) + (b : Int)) = ((a + b : Nat) : Int) := by
 rw [← wrap_nat h]; congr 1
set_option maxHeartbeats 2000000 in
theorem reachG_ok (n : Nat) (l : List Q) (hc : chkS n l = true) (hlen : l.length ≤ 1000000) (hK : (allS n l).length ≤ 1000000) (S : List Nat) (hS : ∀ i ∈ S, i < n) (hSl : S.length ≤ 1000000000) (m : Mem) :
  COk Try.prog 11 [.c (.int .i64 n), .c (.sl (l.map cS)), .c (.sl (S.map cN))] m (.tup [(false, [.sl ((reachB (Ms.farF (turnL (allS n l)) (twi S)) n).map cN)]), (false, [.int .i64 0])]) := by
 have hn : n ≤ 100000 := by have := (natS_back hc).2.1; omega
 have hE := allS_lt hc
 have hF : ∀ i, Ms.farF (turnL (allS n l)) (twi S) i ≤ 2 * n := Ms.farF_le (turn_lt hE) (twi_lt hS)
 obtain ⟨F, hFe⟩ : ∃ F, F = Ms.farF (turnL (allS n l)) (twi S) := ⟨_, rfl⟩
 rw [← hFe] at hF ⊢
 refine (ok_pure tab_ok Try.func11 (by kernel_rfl) rfl rfl (by rfl) (by rfl) (by rfl) (fun R hkeep => ?_) m)
 repeat (first | refine W.seq ?_ | refine W.block ?_ | refine W.skip ?_ | refine W.exit ?_ | refine W.g ?_)
 refine W.regionK tab_ok 0 (by decide) ?_
 refine xs0 3 ?_
 refine runk_call rfl rfl rfl rfl rfl (by simp) (cvs_cons cv_refl (cvs_cons cv_refl (cvs_cons cv_refl cvs_nil))) (fcheckN_ok hc hS (by omega) hSl _) ?_
 refine xe0 ?_
 repeat (first | refine W.seq ?_ | refine W.block ?_ | refine W.skip ?_ | refine W.exit ?_ | refine W.g ?_)
 refine W.cond rfl ?_ ?_
 ·intro h; cases h
 intro _
 (repeat (first | refine W.seq ?_ | refine W.block ?_ | refine W.skip ?_ | refine W.exit ?_))
 refine W.regionK tab_ok 0 (by decide) ?_
 refine xs0 4 ?_
 refine runk_call rfl rfl rfl rfl rfl (by simp) (cvs_cons cv_refl (cvs_cons cv_refl cvs_nil)) (steps_ok n l hc (by omega) _) ?_
 refine xs0 0 ?_
 refine runk_call rfl rfl rfl rfl rfl (by simp) (cvs_cons cv_refl (cvs_cons cv_refl (cvs_cons cv_refl cvs_nil))) (headsF_ok n hn (allS n l) hK hE _) ?_
 refine xs0 1 ?_
 refine runk_call rfl rfl rfl rfl rfl (by simp) (cvs_cons cv_refl cvs_nil) (firsts_ok S hSl (fun i hi => by have := hS i hi; omega) _) ?_
 refine xs0 0 ?_
 refine runk_call rfl rfl rfl rfl rfl (by simp) (cvs_cons cv_refl (cvs_cons cv_refl (cvs_cons cv_refl cvs_nil))) (hFe ▸ spread_ok n hn (allS n l) hK hE (twi S) (twi_lt hS) (by rw [twi_len]; exact hSl) _) ?_
 refine xe0 ?_
 repeat (first | refine W.seq ?_ | refine W.block ?_ | refine W.skip ?_ | refine W.exit ?_ | refine W.g ?_)
 refine W.newArr 6 100 3 1 rfl rfl ?_
 refine W.loop (ι := Nat) (fun k => ⟨upd (upd (upd (upd (fun _ => .top) 6 (.own 100)) 9 (.c (.sl (rowF (2 * n) F)))) 27 (.c (.int .i64 n))) 28 (.c (.int .i64 k)), upd Mem.nil 100 (some (.arr 3 1 ((reachB F k).map cN)))⟩) (fun k => k ≤ n) (fun k => n - k) 0 ?start (Nat.zero_le _) ?round
 case start =>
  refine le_L ?sle ?mle (kept_not hkeep)
  case mle => repeat (first | exact mle_nil _ | exact mle_refl _ | refine mle_upd ?_ zb8q44)
  case sle => repeat (first | exact sle_top _ | exact sle_refl _ | refine sle_upd ?_ zb8q41)
 case round =>
  intro k hkl
  repeat (first | refine W.seq ?_ | refine W.block ?_ | refine W.skip ?_ | refine W.exit ?_ | refine W.g ?_)
  refine W.cond rfl ?_ ?_
  ·intro hlt
   simp only [decide_eq_true_eq, Int.ofNat_lt] at hlt
   have b1 : 2 * k < 2 * n := by omega
   have b2 : 2 * k + 1 < 2 * n := by omega
   have z1 : (0 : Int) ≤ ((2 * k : Nat) : Int) := by omega
   have z2 : (0 : Int) ≤ ((2 * k + 1 : Nat) : Int) := by omega
   have w1 := wrap_two (x := k) (by omega)
   have w2 : IntKind.i64.wrap (((2 * k : Nat) : Int) + 1) = ((2 * k + 1 : Nat) : Int) := wrap_succ (by omega)
   have w3 : IntKind.i64.wrap ((F (2 * k) : Int) + (F (2 * k + 1) : Int)) = ((F (2 * k) + F (2 * k + 1) : Nat) : Int) := wrap_add (by have := hF (2 * k); have := hF (2 * k + 1); omega)
   repeat (first | refine W.seq ?_ | refine W.block ?_ | refine W.skip ?_ | refine W.exit ?_ | refine W.g ?_)
   refine W.regionDK tab_ok 0 follows_mixed (by kernel_rfl) (by decide) ?_
   refine runk_exec (by simp only [exb, Nat.reduceAdd, Nat.reduceLeDiff, Nat.reduceEqDiff, Nat.reduceMul, Int.reduceToNat, reduceIte, Int.reduceLE, Int.reduceNeg, w1, w2, w3, b1, b2, z1, z2, rowF_at b1, rowF_at b2, rowF_len, Int.toNat_natCast, and_self]; rfl) ?_
   repeat (first | refine W.seq ?_ | refine W.block ?_ | refine W.skip ?_ | refine W.exit ?_ | refine W.g ?_)
   have hrl := reachB_len F k
   refine W.cond rfl ?_ ?_
   ·intro hq
    have hq : metB F k = true := by simp only [decide_eq_true_eq] at hq; simp [metB]; omega
    (repeat (first | refine W.seq ?_ | refine W.block ?_ | refine W.skip ?_ | refine W.exit ?_))
    refine W.regionK tab_ok 0 (by decide) ?_
    refine xs0 3 ?_
    refine runk_append tab_ok 100 rfl rfl rfl rfl rfl rfl rfl rfl zb8q20 rfl rfl rfl rfl (nokeep hkeep) (fun z hz => by simp at hz; subst hz; rfl) zb8q47 (by decide) ?_
    refine xe0 ?_
    repeat (first | refine W.seq ?_ | refine W.block ?_ | refine W.skip ?_ | refine W.exit ?_ | refine W.g ?_)
    refine ⟨k + 1, hlt, by omega, ?_⟩
    rw [reachB_succ, if_pos hq, List.map_append]
    refine le_L ?sle ?mle (kept_not hkeep)
    case mle => repeat (first | exact mle_nil _ | exact mle_refl _ | refine mle_upd ?_ zb8q15)
    case sle => repeat (first | exact sle_top _ | exact sle_refl _ | refine sle_upd ?_ zb8q11)
   ·intro hq
    have hq : ¬ metB F k = true := by simp only [decide_eq_false_iff_not] at hq; simp [metB]; omega
    repeat (first | refine W.seq ?_ | refine W.block ?_ | refine W.skip ?_ | refine W.exit ?_ | refine W.g ?_)
    refine ⟨k + 1, hlt, by omega, ?_⟩
    rw [reachB_succ, if_neg hq, List.append_nil]
    refine le_L ?sle ?mle (kept_not hkeep)
    case mle => repeat (first | exact mle_nil _ | exact mle_refl _ | refine mle_upd ?_ zb8q36)
    case sle => repeat (first | exact sle_top _ | exact sle_refl _ | refine sle_upd ?_ zb8q29)
  ·intro hge
   simp only [decide_eq_false_iff_not, Int.ofNat_lt] at hge
   obtain rfl : n = k := by omega
   repeat (first | refine W.seq ?_ | refine W.block ?_ | refine W.skip ?_ | refine W.exit ?_ | refine W.g ?_)
   refine W.ret ⟨.inr rfl, by rfl, ?_⟩
   simp only [Try.f11, resA, resOne, toT, fin, exb, Nat.reduceAdd, Nat.reduceLeDiff, Nat.reduceEqDiff, Nat.reduceMul, Int.reduceToNat, reduceIte, Int.reduceLE, Int.reduceNeg]
set_option maxHeartbeats 2000000 in
theorem refReachG_ok (n : Nat) (l : List Q) (hc : chkS n l = true) (hlen : l.length ≤ 1000000) (hK : (allS n l).length ≤ 1000000) (hKE : (wholeE n l).length ≤ 1000000) (S : List Nat) (hS : ∀ i ∈ S, i < n) (hSl : S.length ≤ 1000000000) (m : Mem) :
  COk Try.prog 12 [.c (.int .i64 n), .c (.sl (l.map cS)), .c (.sl (S.map cN))] m (.tup [(false, [.sl ((reachB (Ms.farF (turnL (allS n l)) (twi S)) n).map cN)]), (false, [.int .i64 0])]) := by
 have hn : n ≤ 100000 := by have := (natS_back hc).2.1; omega
 have hE := allS_lt hc
 have hF : ∀ i, Ms.farF (turnL (allS n l)) (twi S) i ≤ 2 * n := Ms.farF_le (turn_lt hE) (twi_lt hS)
 obtain ⟨F, hFe⟩ : ∃ F, F = Ms.farF (turnL (allS n l)) (twi S) := ⟨_, rfl⟩
 rw [← hFe] at hF ⊢
 refine (ok_pure tab_ok Try.func12 (by kernel_rfl) rfl rfl (by rfl) (by rfl) (by rfl) (fun R hkeep => ?_) m)
 repeat (first | refine W.seq ?_ | refine W.block ?_ | refine W.skip ?_ | refine W.exit ?_ | refine W.g ?_)
 refine W.regionK tab_ok 0 (by decide) ?_
 refine xs0 3 ?_
 refine runk_call rfl rfl rfl rfl rfl (by simp) (cvs_cons cv_refl (cvs_cons cv_refl (cvs_cons cv_refl cvs_nil))) (refCheckNN_ok hc hS (by omega) hSl _) ?_
 refine xe0 ?_
 repeat (first | refine W.seq ?_ | refine W.block ?_ | refine W.skip ?_ | refine W.exit ?_ | refine W.g ?_)
 refine W.cond rfl ?_ ?_
 ·intro h; cases h
 intro _
 (repeat (first | refine W.seq ?_ | refine W.block ?_ | refine W.skip ?_ | refine W.exit ?_))
 refine W.regionK tab_ok 0 (by decide) ?_
 refine xs0 3 ?_
 refine runk_call rfl rfl rfl rfl rfl (by simp) (cvs_cons cv_refl (cvs_cons cv_refl cvs_nil)) (refSteps_ok n l hc (by omega) _) ?_
 refine xs0 0 ?_
 refine runk_call rfl rfl rfl rfl rfl (by simp) (cvs_cons cv_refl (cvs_cons cv_refl (cvs_cons cv_refl cvs_nil))) (waysF_ok n l hc hKE _) ?_
 refine xs0 1 ?_
 refine runk_call rfl rfl rfl rfl rfl (by simp) (cvs_cons cv_refl cvs_nil) (refFirsts_ok S hSl (fun i hi => by have := hS i hi; omega) _) ?_
 refine xs0 0 ?_
 refine runk_call rfl rfl rfl rfl rfl (by simp) (cvs_cons cv_refl (cvs_cons cv_refl cvs_nil)) (hFe ▸ far_ok (2 * n) (by omega) (allS n l) hK hE (twi S) (twi_lt hS) (by rw [twi_len]; exact hSl) _) ?_
 refine xe0 ?_
 repeat (first | refine W.seq ?_ | refine W.block ?_ | refine W.skip ?_ | refine W.exit ?_ | refine W.g ?_)
 refine W.newArr 10 100 3 1 rfl rfl ?_
 refine W.loop (ι := Nat) (fun k => ⟨upd (upd (upd (upd (fun _ => .top) 10 (.own 100)) 9 (.c (.sl (rowD (2 * n) F)))) 27 (.c (.int .i64 n))) 28 (.c (.int .i64 k)), upd Mem.nil 100 (some (.arr 3 1 ((reachB F k).map cN)))⟩) (fun k => k ≤ n) (fun k => n - k) 0 ?start (Nat.zero_le _) ?round
 case start =>
  refine le_L ?sle ?mle (kept_not hkeep)
  case mle => repeat (first | exact mle_nil _ | exact mle_refl _ | refine mle_upd ?_ zb8q44)
  case sle => repeat (first | exact sle_top _ | exact sle_refl _ | refine sle_upd ?_ zb8q41)
 case round =>
  intro k hkl
  repeat (first | refine W.seq ?_ | refine W.block ?_ | refine W.skip ?_ | refine W.exit ?_ | refine W.g ?_)
  refine W.cond rfl ?_ ?_
  ·intro hlt
   simp only [decide_eq_true_eq, Int.ofNat_lt] at hlt
   have b1 : 2 * k < 2 * n := by omega
   have b2 : 2 * k + 1 < 2 * n := by omega
   have z1 : (0 : Int) ≤ ((2 * k : Nat) : Int) := by omega
   have z2 : (0 : Int) ≤ ((2 * k + 1 : Nat) : Int) := by omega
   have w1 := wrap_two (x := k) (by omega)
   have w2 : IntKind.i64.wrap (((2 * k : Nat) : Int) + 1) = ((2 * k + 1 : Nat) : Int) := wrap_succ (by omega)
   have hrl := reachB_len F k
   by_cases h1 : (0 : Int) ≤ (F (2 * k) : Int) - 1
   ·have hq : metB F k = true := by simp [metB]; omega
    repeat (first | refine W.seq ?_ | refine W.block ?_ | refine W.skip ?_ | refine W.exit ?_ | refine W.g ?_ zb8q4)
    refine W.cond rfl ?_ ?_
    ·intro _
     (repeat (first | refine W.seq ?_ | refine W.block ?_ | refine W.skip ?_ | refine W.exit ?_))
     refine W.regionK tab_ok 0 (by decide) ?_
     refine xs0 3 ?_
     refine runk_append tab_ok 100 rfl rfl rfl rfl rfl rfl rfl rfl zb8q20 rfl rfl rfl rfl (nokeep hkeep) (fun z hz => by simp at hz; subst hz; rfl) zb8q47 (by decide) ?_
     refine xe0 ?_
     repeat (first | refine W.seq ?_ | refine W.block ?_ | refine W.skip ?_ | refine W.exit ?_ | refine W.g ?_)
     refine ⟨k + 1, hlt, by omega, ?_⟩
     rw [reachB_succ, if_pos hq, List.map_append]
     refine le_L ?sle ?mle (kept_not hkeep)
     case mle => repeat (first | exact mle_nil _ | exact mle_refl _ | refine mle_upd ?_ zb8q15)
     case sle => repeat (first | exact sle_top _ | exact sle_refl _ | refine sle_upd ?_ zb8q11)
    ·intro h; cases h
   ·skip
    repeat (first | refine W.seq ?_ | refine W.block ?_ | refine W.skip ?_ | refine W.exit ?_ | refine W.g ?_ zb8q4)
    refine W.cond rfl ?_ ?_
    ·intro hq
     have hq : metB F k = true := by simp only [decide_eq_true_eq] at hq; simp [metB]; omega
     (repeat (first | refine W.seq ?_ | refine W.block ?_ | refine W.skip ?_ | refine W.exit ?_))
     refine W.regionK tab_ok 0 (by decide) ?_
     refine xs0 3 ?_
     refine runk_append tab_ok 100 rfl rfl rfl rfl rfl rfl rfl rfl zb8q20 rfl rfl rfl rfl (nokeep hkeep) (fun z hz => by simp at hz; subst hz; rfl) zb8q47 (by decide) ?_
     refine xe0 ?_
     repeat (first | refine W.seq ?_ | refine W.block ?_ | refine W.skip ?_ | refine W.exit ?_ | refine W.g ?_)
     refine ⟨k + 1, hlt, by omega, ?_⟩
     rw [reachB_succ, if_pos hq, List.map_append]
     refine le_L ?sle ?mle (kept_not hkeep)
     case mle => repeat (first | exact mle_nil _ | exact mle_refl _ | refine mle_upd ?_ zb8q15)
     case sle => repeat (first | exact sle_top _ | exact sle_refl _ | refine sle_upd ?_ zb8q11)
    ·intro hq
     have hq : ¬ metB F k = true := by simp only [decide_eq_false_iff_not] at hq; simp [metB]; omega
     repeat (first | refine W.seq ?_ | refine W.block ?_ | refine W.skip ?_ | refine W.exit ?_ | refine W.g ?_)
     refine ⟨k + 1, hlt, by omega, ?_⟩
     rw [reachB_succ, if_neg hq, List.append_nil]
     refine le_L ?sle ?mle (kept_not hkeep)
     case mle => repeat (first | exact mle_nil _ | exact mle_refl _ | refine mle_upd ?_ zb8q36)
     case sle => repeat (first | exact sle_top _ | exact sle_refl _ | refine sle_upd ?_ zb8q29)
  ·intro hge
   simp only [decide_eq_false_iff_not, Int.ofNat_lt] at hge
   obtain rfl : n = k := by omega
   repeat (first | refine W.seq ?_ | refine W.block ?_ | refine W.skip ?_ | refine W.exit ?_ | refine W.g ?_)
   refine W.ret ⟨.inr rfl, by rfl, ?_⟩
   simp only [Try.f12, resA, resOne, toT, fin, exb, Nat.reduceAdd, Nat.reduceLeDiff, Nat.reduceEqDiff, Nat.reduceMul, Int.reduceToNat, reduceIte, Int.reduceLE, Int.reduceNeg]
end V
end Go.Proofs.Ytmhchhmhpoldhaa
end
section
namespace Go.Proofs.Ytmhchhmhpoldhaa
namespace V
open Go.RowKit G
theorem wrap_sub {a b : Nat} (ha : a < 4611686018427387904) (hb : b < 4611686018427387904) : IntKind.i64.wrap ((a : Int) - (b : Int)) = (a : Int) - (b : Int) := by
 by_cases h : b ≤ a
 ·rw [show (a : Int) - (b : Int) = ((a - b : Nat) : Int) by omega]; exact wrap_nat (by omega)
 ·have h2 : ((a : Int) - (b : Int)) % 18446744073709551616 = (a : Int) - (b : Int) + 18446744073709551616 := by omega
  have h3 : ((a : Int) - (b : Int) + 18446744073709551616) ≥ 9223372036854775808 := by omega
  simp [IntKind.wrap, IntKind.bits, IntKind.signed, h2]
  omega
theorem pathB_ok (N : Nat) (F : Nat → Nat) (hF : ∀ i, F i ≤ 1000000) (a b : Nat) (ha : a < N) (hb : b < N) (m : Mem) : COk Try.prog 60 [.c (.int .i64 a), .c (.int .i64 b), .rptr [.sl (rowF N F)]] m (.c (.int .i64 ((F a : Int) - (F b : Int)))) := by
 have h0 : (0 : Int) ≤ (a : Int) := by omega
 have h1 : (0 : Int) ≤ (b : Int) := by omega
 have hw := wrap_sub (a := F a) (b := F b) (by have := hF a; omega) (by have := hF b; omega)
 refine (ok_pure tab_ok Try.func60 (by kernel_rfl) rfl rfl (by rfl) (by rfl) (by rfl) (fun R hkeep => ?_) m)
 repeat (first | refine W.seq ?_ | refine W.block ?_ | refine W.skip ?_ | refine W.exit ?_ | refine W.g ?_)
 refine W.regionDK tab_ok 0 follows_mixed (by kernel_rfl) (by decide) ?_
 refine runk_exec (by simp only [exb, Nat.reduceAdd, Nat.reduceLeDiff, Nat.reduceEqDiff, Nat.reduceMul, Int.reduceToNat, reduceIte, Int.reduceLE, Int.reduceNeg, rowF_at ha, rowF_at hb, rowF_len, ha, hb, h0, h1, Int.toNat_natCast, and_self, hw]; rfl) ?_
 repeat (first | refine W.seq ?_ | refine W.block ?_ | refine W.skip ?_ | refine W.exit ?_ | refine W.g ?_)
 refine W.ret ⟨.inr rfl, by rfl, ?_⟩
 simp only [Try.f60, resA, resOne, toT, fin, exb, Nat.reduceAdd, Nat.reduceLeDiff, Nat.reduceEqDiff, Nat.reduceMul, Int.reduceToNat, reduceIte, Int.reduceLE, Int.reduceNeg]
def minG (F : Nat → Nat) (x : Nat) (l : List Nat) : Nat := l.foldl (fun a y => if F y < F a then y else a) x
theorem minG_spec (F : Nat → Nat) : ∀ (l : List Nat) (x : Nat), (minG F x l = x ∨ minG F x l ∈ l) ∧ F (minG F x l) ≤ F x ∧ ∀ y ∈ l, F (minG F x l) ≤ F y
 | [], x => ⟨.inl rfl, Nat.le_refl _, by simp⟩
 | y :: l, x => by
  obtain ⟨h1, h2, h3⟩ := minG_spec F l (if F y < F x then y else x)
  have e : minG F x (y :: l) = minG F (if F y < F x then y else x) l := rfl
  rw [e]
  refine ⟨?_, ?_, fun z hz => ?_⟩
  ·rcases h1 with h | h
   ·rw [h]; split
    ·exact .inr (by simp)
    ·exact .inl rfl
   ·exact .inr (by simp [h])
  ·refine Nat.le_trans h2 ?_; split <;> omega
  ·rcases List.mem_cons.1 hz with rfl | hz
   ·refine Nat.le_trans h2 ?_; split <;> omega
   ·exact h3 z hz
theorem minG_snoc (F : Nat → Nat) (x : Nat) (l : List Nat) (y : Nat) : minG F x (l ++ [y]) = if F y < F (minG F x l) then y else minG F x l := by rw [minG, List.foldl_append]; rfl
theorem minG_lt {F : Nat → Nat} {x N : Nat} {l : List Nat} (hx : x < N) (hl : ∀ y ∈ l, y < N) : minG F x l < N := by
 rcases (minG_spec F l x).1 with h | h
 ·rw [h]; exact hx
 ·exact hl _ h
set_option maxHeartbeats 1000000 in
theorem minF_ok (N : Nat) (F : Nat → Nat) (hF : ∀ i, F i ≤ 1000000) (x : Nat) (l : List Nat) (hx : x < N) (hl : ∀ y ∈ l, y < N) (hlen : l.length ≤ 1000000000000) (m : Mem) :
  COk Try.prog 59 [.c (.sl ((x :: l).map cN)), .fnR 60 [[.sl (rowF N F)]]] m (.c (.int .i64 (minG F x l : Nat))) := by
 obtain ⟨Lc, hLc⟩ : ∃ Lc, Lc = (x :: l).map cN := ⟨_, rfl⟩
 have hat : Lc[0]? = some [.int .i64 (x : Int)] := by rw [hLc]; rfl
 have hll : Lc.length = l.length + 1 := by rw [hLc]; simp
 rw [← hLc]
 refine (ok_pure tab_ok Try.func59 (by kernel_rfl) rfl rfl (by rfl) (by rfl) (by rfl) (fun R hkeep => ?_) m)
 repeat (first | refine W.seq ?_ | refine W.block ?_ | refine W.skip ?_ | refine W.exit ?_ | refine W.g ?_)
 refine W.cond rfl (fun h => absurd h (by simp [hll]; omega)) (fun _ => ?_)
 repeat (first | refine W.seq ?_ | refine W.block ?_ | refine W.skip ?_ | refine W.exit ?_ | refine W.g ?_ (by simp only [exb, Nat.reduceAdd, Nat.reduceLeDiff, Nat.reduceEqDiff, Nat.reduceMul, Int.reduceToNat, reduceIte, Int.reduceLE, Int.reduceNeg, hat, hll, Int.toNat_zero, Nat.zero_lt_succ, and_self]; rfl))
 refine W.loop (ι := Nat) (fun k => ⟨upd (upd (upd (upd (fun _ => .top) 0 (.c (.sl Lc))) 1 (.fnR 60 [[.sl (rowF N F)]])) 5 (.c (.int .i64 (minG F x (l.take k) : Nat)))) 6 (.c (.int .i64 ((k + 1 : Nat) : Int))), Mem.nil⟩) (fun k => k ≤ l.length) (fun k => l.length - k) 0 ?start (Nat.zero_le _) ?round
 case start =>
  refine le_L ?sle ?mle (kept_not hkeep)
  case mle => repeat (first | exact mle_nil _ | exact mle_refl _ | refine mle_upd ?_ (by first | rfl | (simp only [upd_app, killM_app, Nat.reduceEqDiff, reduceIte, List.take_zero]; done)))
  case sle => repeat (first | exact sle_top _ | exact sle_refl _ | refine sle_upd ?_ (by first | rfl | (simp only [upd_app, entry_zero, entry_succ, Nat.reduceEqDiff, reduceIte, List.take_zero]; done)))
 case round =>
  intro k hk
  repeat (first | refine W.seq ?_ | refine W.block ?_ | refine W.skip ?_ | refine W.exit ?_ | refine W.g ?_ (by simp only [exb, Nat.reduceAdd, Nat.reduceLeDiff, Nat.reduceEqDiff, Nat.reduceMul, Int.reduceToNat, reduceIte, Int.reduceLE, Int.reduceNeg, hll]; rfl))
  refine W.cond rfl ?_ ?_
  ·intro hlt
   have hlt : k < l.length := by simp only [decide_eq_true_eq] at hlt; omega
   obtain ⟨y, hy⟩ : ∃ y, l[k]? = some y := ⟨_, List.getElem?_eq_getElem hlt⟩
   have hyN := hl y (List.mem_of_getElem? hy)
   have hy2 : Lc[k + 1]? = some [.int .i64 (y : Int)] := by rw [hLc]; simp [hy, cN]
   have hk0 : (0 : Int) ≤ ((k + 1 : Nat) : Int) := by omega
   have hk1 : k + 1 < l.length + 1 := by omega
   have htk : l.take (k + 1) = l.take k ++ [y] := by rw [List.take_add_one, hy]; rfl
   have hmN : minG F x (l.take k) < N := minG_lt hx fun z hz => hl z (List.mem_of_mem_take hz)
   repeat (first | refine W.seq ?_ | refine W.block ?_ | refine W.skip ?_ | refine W.exit ?_ | refine W.g ?_)
   refine W.regionK tab_ok 0 (by decide) ?_
   refine runk_split 6 zb8q10 ?_
   refine runk_callF rfl rfl rfl rfl rfl (cvs_cons cv_refl (cvs_cons cv_refl (cvs_caps _))) (pathB_ok N F hF y (minG F x (l.take k)) hyN hmN _) ?_
   refine xe0 ?_
   refine W.cond rfl ?_ ?_
   ·intro hq
    have hq : F y < F (minG F x (l.take k)) := by simp only [decide_eq_true_eq] at hq; omega
    repeat (first | refine W.seq ?_ | refine W.block ?_ | refine W.skip ?_ | refine W.exit ?_ | refine W.g ?_ zb8q10)
    refine ⟨k + 1, hlt, by omega, ?_⟩
    rw [htk, minG_snoc, if_pos hq]
    refine le_L ?sle ?mle (kept_not hkeep)
    case mle => repeat (first | exact mle_nil _ | exact mle_refl _ | refine mle_upd ?_ zb8q34)
    case sle => repeat (first | exact sle_top _ | exact sle_refl _ | refine sle_upd ?_ zb8q26)
   ·intro hq
    have hq : ¬ F y < F (minG F x (l.take k)) := by simp only [decide_eq_false_iff_not] at hq; omega
    repeat (first | refine W.seq ?_ | refine W.block ?_ | refine W.skip ?_ | refine W.exit ?_ | refine W.g ?_)
    refine ⟨k + 1, hlt, by omega, ?_⟩
    rw [htk, minG_snoc, if_neg hq]
    refine le_L ?sle ?mle (kept_not hkeep)
    case mle => repeat (first | exact mle_nil _ | exact mle_refl _ | refine mle_upd ?_ zb8q34)
    case sle => repeat (first | exact sle_top _ | exact sle_refl _ | refine sle_upd ?_ zb8q26)
  ·intro hge
   have hge : k = l.length := by simp only [decide_eq_false_iff_not] at hge; omega
   subst hge
   rw [List.take_length]
   repeat (first | refine W.seq ?_ | refine W.block ?_ | refine W.skip ?_ | refine W.exit ?_ | refine W.g ?_)
   refine W.ret ⟨.inr rfl, by rfl, ?_⟩
   simp only [Try.f59, resA, resOne, toT, fin, exb, Nat.reduceAdd, Nat.reduceLeDiff, Nat.reduceEqDiff, Nat.reduceMul, Int.reduceToNat, reduceIte, Int.reduceLE, Int.reduceNeg]
end V
end Go.Proofs.Ytmhchhmhpoldhaa
end
section
namespace Go.Proofs.Ytmhchhmhpoldhaa
namespace V
open Go.RowKit G
theorem own_ok (l : List Q) (hlen : l.length ≤ 100000000) (m : Mem) : COk Try.prog 13 [.c (.sl (l.map cS))] m (.c (.sl (l.map cS))) := by
 refine (ok_pure tab_ok Try.func13 (by kernel_rfl) rfl rfl (by rfl) (by rfl) (by rfl) (fun R hkeep => ?_) m)
 repeat (first | refine W.seq ?_ | refine W.block ?_ | refine W.skip ?_ | refine W.exit ?_ | refine W.g ?_)
 refine W.newArr 3 100 55 4 rfl rfl ?_
 refine W.loop (ι := Nat) (fun k => ⟨upd (upd (upd (upd (fun _ => .top) 3 (.own 100)) 6 (.c (.sl (l.map cS)))) 7 (.c (.int .i64 l.length))) 8 (.c (.int .i64 k)), upd Mem.nil 100 (some (.arr 55 4 ((l.take k).map cS)))⟩) (fun k => k ≤ l.length) (fun k => l.length - k) 0 ?start (Nat.zero_le _) ?round
 case start =>
  refine le_L ?sle ?mle (kept_not hkeep)
  case mle => repeat (first | exact mle_nil _ | exact mle_refl _ | refine mle_upd ?_ zb8q44)
  case sle => repeat (first | exact sle_top _ | exact sle_refl _ | refine sle_upd ?_ zb8q41)
 case round =>
  intro k hkl
  repeat (first | refine W.seq ?_ | refine W.block ?_ | refine W.skip ?_ | refine W.exit ?_ | refine W.g ?_)
  refine W.cond rfl ?_ ?_
  ·intro hlt
   simp only [decide_eq_true_eq, Int.ofNat_lt] at hlt
   obtain ⟨⟨x, y, z, u⟩, hx⟩ : ∃ x, l[k]? = some x := ⟨_, List.getElem?_eq_getElem hlt⟩
   have hcx : cS (x, y, z, u) = [.int .i64 x, .int .i64 y, .int .i64 z, .int .i64 u] := rfl
   repeat (first | refine W.seq ?_ | refine W.block ?_ | refine W.skip ?_ | refine W.exit ?_ | refine W.g ?_ zb8q21)
   refine W.regionK tab_ok 0 (by decide) ?_
   refine xs0 3 ?_
   refine runk_append tab_ok 100 rfl rfl rfl rfl rfl rfl rfl rfl zb8q20 rfl rfl rfl rfl (nokeep hkeep) (fun z hz => by simp at hz; subst hz; rfl) (by simp only [List.length_map, List.length_cons, List.length_nil]; have := List.length_take_le k l; omega) (by decide) ?_
   refine xe0 ?_
   repeat (first | refine W.seq ?_ | refine W.block ?_ | refine W.skip ?_ | refine W.exit ?_ | refine W.g ?_)
   refine ⟨k + 1, hlt, by omega, ?_⟩
   have htk : (l.take (k + 1)).map cS = (l.take k).map cS ++ [[.int .i64 x, .int .i64 y, .int .i64 z, .int .i64 u]] := by rw [List.take_add_one, hx, Option.toList_some, List.map_append]; rfl
   rw [htk]
   refine le_L ?sle ?mle (kept_not hkeep)
   case mle => repeat (first | exact mle_nil _ | exact mle_refl _ | refine mle_upd ?_ zb8q36)
   case sle => repeat (first | exact sle_top _ | exact sle_refl _ | refine sle_upd ?_ zb8q29)
  ·intro hge
   simp only [decide_eq_false_iff_not, Int.ofNat_lt] at hge
   obtain rfl : k = l.length := by omega
   repeat (first | refine W.seq ?_ | refine W.block ?_ | refine W.skip ?_ | refine W.exit ?_ | refine W.g ?_)
   refine W.ret ⟨.inr rfl, by rfl, ?_⟩
   simp only [Try.f13, resA, resOne, toT, fin, exb, Nat.reduceAdd, Nat.reduceLeDiff, Nat.reduceEqDiff, Nat.reduceMul, Int.reduceToNat, reduceIte, Int.reduceLE, Int.reduceNeg, List.take_length]
def bigS (n : Int) (l : List Q) : Bool := (decide (80 < n) && decide (n ≤ 100000)) || decide (300 < l.length)
theorem big_ok (n : Int) (l : List Q) (m : Mem) : COk Try.prog 10 [.c (.int .i64 n), .c (.sl (l.map cS))] m (.c (.bool (bigS n l))) := by
 refine (ok_pure tab_ok Try.func10 (by kernel_rfl) rfl rfl (by rfl) (by rfl) (by rfl) (fun R hkeep => ?_) m)
 have e3 : decide ((300 : Int) < (l.length : Int)) = decide (300 < l.length) := by
  by_cases q : 300 < l.length
  ·simp [q]; omega
  ·simp [q]; omega
 by_cases h1 : 80 < n
 ·by_cases h2 : n ≤ 100000
  ·skip
   repeat (first | refine W.seq ?_ | refine W.block ?_ | refine W.skip ?_ | refine W.exit ?_ | refine W.g ?_ zb8q28)
   refine W.ret ⟨.inr rfl, by rfl, ?_⟩
   simp only [Try.f10, resA, resOne, toT, fin, exb, Nat.reduceAdd, Nat.reduceLeDiff, Nat.reduceEqDiff, Nat.reduceMul, Int.reduceToNat, reduceIte, Int.reduceLE, Int.reduceNeg]
   simp [bigS, h1, h2]
  ·skip
   repeat (first | refine W.seq ?_ | refine W.block ?_ | refine W.skip ?_ | refine W.exit ?_ | refine W.g ?_ zb8q28)
   refine W.ret ⟨.inr rfl, by rfl, ?_⟩
   simp only [Try.f10, resA, resOne, toT, fin, exb, Nat.reduceAdd, Nat.reduceLeDiff, Nat.reduceEqDiff, Nat.reduceMul, Int.reduceToNat, reduceIte, Int.reduceLE, Int.reduceNeg]
   simp [bigS, h1, h2, ← e3]
 ·skip
  repeat (first | refine W.seq ?_ | refine W.block ?_ | refine W.skip ?_ | refine W.exit ?_ | refine W.g ?_ (by simp only [exb, Nat.reduceAdd, Nat.reduceLeDiff, Nat.reduceEqDiff, Nat.reduceMul, Int.reduceToNat, reduceIte, Int.reduceLE, Int.reduceNeg, h1]; rfl))
  refine W.ret ⟨.inr rfl, by rfl, ?_⟩
  simp only [Try.f10, resA, resOne, toT, fin, exb, Nat.reduceAdd, Nat.reduceLeDiff, Nat.reduceEqDiff, Nat.reduceMul, Int.reduceToNat, reduceIte, Int.reduceLE, Int.reduceNeg]
  simp [bigS, h1, ← e3]
def twoL : List Q := [(0, 1, 4, 4), (1, 4, 5, 4), (1, 5, 5, 5)]
theorem two_ok (m : Mem) : COk Try.prog 19 [] m (.c (.sl (twoL.map cS))) := by
 refine (ok_pure tab_ok Try.func19 (by kernel_rfl) rfl rfl (by rfl) (by rfl) (by rfl) (fun R hkeep => ?_) m)
 repeat (first | refine W.seq ?_ | refine W.block ?_ | refine W.skip ?_ | refine W.exit ?_ | refine W.g ?_ (by simp only [exb, Nat.reduceAdd, Nat.reduceLeDiff, Nat.reduceEqDiff, Nat.reduceMul, Int.reduceToNat, reduceIte, Int.reduceLE, Int.reduceNeg, Int.cast_ofNat_Int]; rfl))
 refine W.ret ⟨.inr rfl, by rfl, ?_⟩
 simp only [Try.f19, resA, resOne, toT, fin, exb, Nat.reduceAdd, Nat.reduceLeDiff, Nat.reduceEqDiff, Nat.reduceMul, Int.reduceToNat, reduceIte, Int.reduceLE, Int.reduceNeg]
 rfl
theorem sameInts_ok (a b : List Int) (ha : a.length ≤ 1000000000000) (m : Mem) : COk Try.prog 14 [.c (.sl (a.map cZ)), .c (.sl (b.map cZ))] m (.c (.bool (decide (a = b)))) := by
 refine (ok_pure tab_ok Try.func14 (by kernel_rfl) rfl rfl (by rfl) (by rfl) (by rfl) (fun R hkeep => ?_) m)
 by_cases hne : a.length = b.length
 ·repeat (first | refine W.seq ?_ | refine W.block ?_ | refine W.skip ?_ | refine W.exit ?_ | refine W.g ?_ zb8q31)
  refine W.cond rfl ?_ ?_
  ·intro h; simp at h
  ·intro _
   repeat (first | refine W.seq ?_ | refine W.block ?_ | refine W.skip ?_ | refine W.exit ?_ | refine W.g ?_ zb8q31)
   refine W.loop (ι := Nat) (fun k => ⟨upd (upd (upd (upd (upd (fun _ => .top) 0 (.c (.sl (a.map cZ)))) 1 (.c (.sl (b.map cZ)))) 4 (.c (.bool false))) 12 (.c (.int .i64 b.length))) 13 (.c (.int .i64 k)), Mem.nil⟩) (fun k => k ≤ b.length ∧ a.take k = b.take k) (fun k => b.length - k) 0 ?start ⟨Nat.zero_le _, rfl⟩ ?round
   case start =>
    refine le_L ?sle ?mle (kept_not hkeep)
    case mle => repeat (first | exact mle_nil _ | exact mle_refl _ | refine mle_upd ?_ zb8q44)
    case sle => repeat (first | exact sle_top _ | exact sle_refl _ | refine sle_upd ?_ zb8q41)
   case round =>
    rintro k ⟨hkl, hin⟩
    repeat (first | refine W.seq ?_ | refine W.block ?_ | refine W.skip ?_ | refine W.exit ?_ | refine W.g ?_)
    refine W.cond rfl ?_ ?_
    ·intro hlt
     simp only [decide_eq_true_eq, Int.ofNat_lt] at hlt
     obtain ⟨x, hx⟩ : ∃ x, a[k]? = some x := ⟨_, List.getElem?_eq_getElem (by omega)⟩
     obtain ⟨y, hy⟩ : ∃ y, b[k]? = some y := ⟨_, List.getElem?_eq_getElem (by omega)⟩
     repeat (first | refine W.seq ?_ | refine W.block ?_ | refine W.skip ?_ | refine W.exit ?_ | refine W.g ?_)
     refine W.regionDK tab_ok 0 follows_mixed (by kernel_rfl) (by decide) ?_
     refine runk_exec (by simp only [exb, Nat.reduceAdd, Nat.reduceLeDiff, Nat.reduceEqDiff, Nat.reduceMul, Int.reduceToNat, reduceIte, Int.reduceLE, Int.reduceNeg, at_map hx, at_map hy, cZ]; rfl) ?_
     refine W.cond rfl ?_ ?_
     ·intro hp
      repeat (first | refine W.seq ?_ | refine W.block ?_ | refine W.skip ?_ | refine W.exit ?_ | refine W.g ?_)
      refine W.ret ⟨.inr rfl, by rfl, ?_⟩
      simp only [Try.f14, resA, resOne, toT, fin, exb, Nat.reduceAdd, Nat.reduceLeDiff, Nat.reduceEqDiff, Nat.reduceMul, Int.reduceToNat, reduceIte, Int.reduceLE, Int.reduceNeg]
      have hxy : x ≠ y := (by simpa [cZ] using hp)
      have : a ≠ b := fun e => by subst e; rw [hx] at hy; exact hxy (Option.some.inj hy)
      simp [this]
     ·intro hp
      repeat (first | refine W.seq ?_ | refine W.block ?_ | refine W.skip ?_ | refine W.exit ?_ | refine W.g ?_)
      refine ⟨k + 1, ⟨hlt, ?_⟩, by omega, ?_⟩
      ·have hxy : x = y := Decidable.byContradiction fun q => by
        have : x ≠ y := q
        simp [cZ, this] at hp
        try (obtain ⟨x1, x2⟩ := x; obtain ⟨y1, y2⟩ := y; simp at hp; simp [hp] at this)
       rw [List.take_add_one, List.take_add_one, hx, hy, hin, hxy]
      refine le_L ?sle ?mle (kept_not hkeep)
      case mle => repeat (first | exact mle_nil _ | exact mle_refl _ | refine mle_upd ?_ zb8q36)
      case sle => repeat (first | exact sle_top _ | exact sle_refl _ | refine sle_upd ?_ zb8q29)
    ·intro hge
     simp only [decide_eq_false_iff_not, Int.ofNat_lt] at hge
     obtain rfl : k = b.length := by omega
     rw [List.take_of_length_le (by omega), List.take_length] at hin
     repeat (first | refine W.seq ?_ | refine W.block ?_ | refine W.skip ?_ | refine W.exit ?_ | refine W.g ?_)
     refine W.ret ⟨.inr rfl, by rfl, ?_⟩
     simp only [Try.f14, resA, resOne, toT, fin, exb, Nat.reduceAdd, Nat.reduceLeDiff, Nat.reduceEqDiff, Nat.reduceMul, Int.reduceToNat, reduceIte, Int.reduceLE, Int.reduceNeg]
     simp [hin]
 ·repeat (first | refine W.seq ?_ | refine W.block ?_ | refine W.skip ?_ | refine W.exit ?_ | refine W.g ?_)
  refine W.cond rfl ?_ ?_
  ·intro _
   repeat (first | refine W.seq ?_ | refine W.block ?_ | refine W.skip ?_ | refine W.exit ?_ | refine W.g ?_)
   refine W.ret ⟨.inr rfl, by rfl, ?_⟩
   simp only [Try.f14, resA, resOne, toT, fin, exb, Nat.reduceAdd, Nat.reduceLeDiff, Nat.reduceEqDiff, Nat.reduceMul, Int.reduceToNat, reduceIte, Int.reduceLE, Int.reduceNeg]
   have : a ≠ b := fun e => by subst e; exact hne rfl
   simp [this]
  ·intro h
   exfalso
   simp at h
   omega
end V
end Go.Proofs.Ytmhchhmhpoldhaa
end
section
namespace Go.Proofs.Ytmhchhmhpoldhaa
namespace G
theorem Ms.farF_eq {E : List (Nat × Nat)} {T : List Nat} {F : Nat → Nat} (h1 : ∀ t ∈ T, F t = 1) (h2 : ∀ i, F i = 1 → i ∈ T) (h3 : ∀ i v, F i = v + 2 → ∃ k, (i, k) ∈ E ∧ F k = v + 1) (h4 : ∀ e ∈ E, F e.2 ≠ 0 → F e.1 ≠ 0 ∧ F e.1 ≤ F e.2 + 1) : Ms.farF E T = F := by
 funext i
 cases hF : F i with
 | zero => exact Ms.farF_zero.2 fun ⟨v, hv⟩ => far_none h1 h4 hF v hv
 | succ v => exact Ms.farF_at.2 ((far_table h1 h2 h3 h4 i v).1 hF)
end G
namespace V
open Go.RowKit G
theorem two_sum : sumL (natS twoL) 6 = [(0, 4)] := by
 have hE : natS twoL = [⟨0, 1, 4, 4⟩, ⟨1, 4, 5, 4⟩, ⟨1, 5, 5, 5⟩] := rfl
 have hp : plE (natS twoL) = [] := rfl
 refine (sumL_ext (by rw [hE]; decide) (List.pairwise_singleton _ _) fun a d => ?_).symm
 constructor
 ·intro h
  obtain ⟨rfl, rfl⟩ : a = 0 ∧ d = 4 := by simpa using h
  exact .sum (c := ⟨0, 1, 4, 4⟩) (r := ⟨1, 4, 5, 4⟩) (by rw [hE]; simp) rfl (by rw [hE]; simp) rfl rfl (.refl 1)
 ·intro h
  have := (SL.sub (S := fun p => p = (1, 1)) (F := fun p => p = (0, 4)) (fun c hc k => by rw [hE] at hc; simp at hc; rcases hc with rfl | rfl | rfl <;> simp at k ⊢) (fun v a b hs he => by
   rw [hp] at he
   simp at he) (fun v a b hs hf => by simp at hs hf; omega) (fun c hc kc r hr kr hs hS => by
   rw [hE] at hc hr
   simp at hc hr
   rcases hc with rfl | rfl | rfl <;> simp at kc
   rcases hr with rfl | rfl | rfl <;> simp at kr hs ⊢) h).1 rfl
  simp [this]
theorem two_steps : allS 6 twoL = [(0, 3), (1, 3), (2, 8), (2, 10), (0, 8), (1, 9)] := by
 unfold allS wholeE
 rw [show ((6 : Nat) : Int).toNat = 6 from rfl, two_sum]
 rfl
theorem two_reach0 : reachB (Ms.farF (turnL (allS 6 twoL)) (twi [0])) 6 = [0, 1, 4] := by
 rw [two_steps]
 have : Ms.farF (turnL [(0, 3), (1, 3), (2, 8), (2, 10), (0, 8), (1, 9)]) (twi [0]) = fun i => if i = 0 then 1 else if i = 3 ∨ i = 8 then 2 else 0 := by
  refine Ms.farF_eq (by simp [twi]) (fun i h => ?_) (fun i v h => ?_) (by simp [turnL])
  ·(try simp only at h); split at h
   ·rename_i e; simp [twi, e]
   ·split at h <;> omega
  ·(try simp only at h); split at h
   ·omega
   ·split at h
    ·rename_i e
     obtain rfl : v = 0 := by omega
     rcases e with rfl | rfl
     ·exact ⟨0, by simp [turnL], rfl⟩
     ·exact ⟨0, by simp [turnL], rfl⟩
    ·omega
 rw [this]
 decide
theorem two_reach1 : reachB (Ms.farF (turnL (allS 6 twoL)) (twi [1])) 6 = [1, 4, 5] := by
 rw [two_steps]
 have : Ms.farF (turnL [(0, 3), (1, 3), (2, 8), (2, 10), (0, 8), (1, 9)]) (twi [1]) = fun i => if i = 2 then 1 else if i = 8 ∨ i = 10 then 2 else 0 := by
  refine Ms.farF_eq (by simp [twi]) (fun i h => ?_) (fun i v h => ?_) (by simp [turnL])
  ·(try simp only at h); split at h
   ·rename_i e; simp [twi, e]
   ·split at h <;> omega
  ·(try simp only at h); split at h
   ·omega
   ·split at h
    ·rename_i e
     obtain rfl : v = 0 := by omega
     rcases e with rfl | rfl
     ·exact ⟨2, by simp [turnL], rfl⟩
     ·exact ⟨2, by simp [turnL], rfl⟩
    ·omega
 rw [this]
 decide
end V
end Go.Proofs.Ytmhchhmhpoldhaa
end
section
namespace Go.Proofs.Ytmhchhmhpoldhaa
namespace V
open Go.RowKit
theorem pathA_any (N : Nat) (x : Int) (k : Nat) (hk : k < N) (b g o cap : Nat) (W : World) (h1 : W.cell? ⟨b, 0, none⟩ = some (.slice (some ⟨g, o, none⟩) N cap)) (h2 : W.cell? ⟨g, o + k, none⟩ = some (.int .i64 x)) :
  Calls Try.prog 58 #[.int .i64 k, .pointer (some ⟨b, 0, none⟩)] W fun e w' => e = .returned (.bool (x == 0)) ∧ w' = W := by
 go_enter Try.func58, Try.ntmps58
 go_wp2
 go_ret
 exact ⟨rfl, rfl⟩
end V
end Go.Proofs.Ytmhchhmhpoldhaa
end
section
namespace Go.Proofs.Ytmhchhmhpoldhaa
namespace V
open Go.RowKit
theorem idx_nil (v : Value) (w : World) : Calls Try.prog 49 #[.slice none 0 0, v] w fun e w' => e = .returned (.int .i64 (-1)) ∧ w' = w := by
 go_enter Try.func49, Try.ntmps49
 go_wp2
 refine wp_loop_rounds 1 ?_
 rw [rounds_succ]
 go_wp2
 go_ret
 exact ⟨rfl, rfl⟩
theorem del_nil (v : Value) (w : World) : Calls Try.prog 57 #[.slice none 0 0, v] w fun e w' => e = .returned (.slice none 0 0) ∧ w' = w := by
 have hI := idx_nil v w
 have eI : ∀ args w, (callFunc 49 args).run Try.prog w = .ok (.enter 49 args) w := enters_of Try.func49 (by kernel_rfl) rfl
 go_enter Try.func57, Try.ntmps57
 go_wp2_with (go_at_call 49; refine hI.mono ?_; rintro e w' ⟨rfl, rfl⟩)
 go_ret
 exact ⟨rfl, rfl⟩
def encN {N : Nat} (x : Fin N) : Value := .int .i64 ((x.val : Nat) : Int)
theorem putRow_enc {α : Type} [Inhabited α] (f : α → Int) (w : World) (blk off : Nat) (d : List α) : Sort.putRow (fun x => Value.int .i64 (f x)) w blk off d.toArray = Sort.putRow (Value.int .i64) w blk off (d.map f).toArray := by
 unfold Sort.putRow
 congr 1
 funext c
 unfold Sort.putCells
 refine Array.ext_getElem? fun k => ?_
 simp only [Array.getElem?_mapIdx, List.size_toArray, List.length_map]
 cases c[k]? with
 | none => rfl
 | some x =>
  simp only [Option.map_some]
  by_cases h : off ≤ k ∧ k < off + d.length
  ·rw [if_pos h, if_pos h]
   have h2 : k - off < d.length := by omega
   rw [getElem!_pos _ _ (by simpa using h2), getElem!_pos _ _ (by simpa using h2)]
   simp
  ·rw [if_neg h, if_neg h]
set_option maxHeartbeats 2000000 in
theorem del_ok (N : Nat) (hN : 0 < N) (F : Nat → Nat) (zs : List Nat) (hz : ∀ z ∈ zs, z < N) (hlen : zs.length < 4611686018427387904) (M : Mem) (id jb : Nat) {ty tyb : TypeId} (hM : M id = some (.mrow ty 1 ((zN zs).map cI))) (hB : M jb = some (.box tyb [.c (.sl (rowF N F))])) (hne : id ≠ jb) :
  CallE Try.prog 57 [.own id, .fn 58 [jb]] M [id] (.own id) (upd (killM id M) id (some (.mrow ty 1 ((zN (zs.filter fun z => !decide (F z = 0))).map cI)))) := by
 obtain ⟨GG, hGG⟩ : ∃ GG : List Int → List Int, GG = fun l => l.filter fun z => !decide (F z.toNat = 0) := ⟨_, rfl⟩
 have hG : GG (zN zs) = zN (zs.filter fun z => !decide (F z = 0)) := by
  rw [hGG]; simp [zN, List.filter_map, Function.comp_def]
 rw [← hG]
 refine cut_mut (rest := [.fn 58 [jb]]) GG (fun l => by rw [hGG]; exact ⟨List.length_filter_le _ _, fun z hz => (List.mem_filter.1 hz).1⟩) (enters_of Try.func57 (by kernel_rfl) rfl) (zN zs) (by rw [zN_len]; exact hlen) M id hM ?_ ?_
 ·intro w0 I0 B I w rv hm hrv blk off cap e hcap hH hb
  match rv, hrv with
  | [v], ⟨hv, _⟩ =>
   have hv : v = .func (.func 58) #[] #[B jb] := hv
   obtain ⟨b, vs, hBb, hbox, hvs, hnoI⟩ := hm.objs jb _ hB
   match vs, hvs with
   | [u], ⟨hu, _⟩ =>
    have hu : RC w I u (.sl (rowF N F)) := hu.1
    obtain ⟨g, o, cap', hu', hcell, hIg⟩ : ∃ g o cap', u = .slice (some ⟨g, o, none⟩) N cap' ∧ (∀ k, k < N → w.cell? ⟨g, o + k, none⟩ = some (.int .i64 (F k : Int))) ∧ I g o := by
     cases hu with
     | @sl a n cap' e' xs f hn hc hmx hl ha hr =>
      rw [rowF_len] at hn
      subst hn
      have he : e' = 1 := by
       have := hl _ (List.mem_of_getElem? (rowF_at (F := F) hN)); simpa using this.symm
      subst he
      obtain ⟨g, o, hao, h0⟩ := ha 0 _ (rowF_at hN)
      subst hao
      refine ⟨g, o, cap', rfl, fun k hk => ?_, by have := (h0 0 (by decide)).1; simpa using this⟩
      obtain ⟨g', o', hao, h1⟩ := ha k _ (rowF_at hk)
      simp only [Option.some.injEq, Addr.mk.injEq, and_true] at hao
      obtain ⟨rfl, rfl⟩ := hao
      have h2 := (h1 0 (by decide)).2
      have h3 := hr k 0 _ _ (rowF_at hk) rfl
      rw [(RC.toInt h3).1] at h2
      simpa using h2
    subst hu'
    have hbc : w.cell? ⟨b, 0, none⟩ = some (.slice (some ⟨g, o, none⟩) N cap') := by simp [World.cell?, hbox]
    have hbs : b < w.heap.size := (Array.getElem?_eq_some_iff.1 hbox).1
    have hgs : g < w.heap.size := hm.there g o hIg
    have hown : (B id).ownBlock = some blk := by rw [e]; rfl
    have hgb : g ≠ blk := fun q => by
     obtain ⟨_, _, _, _, hno⟩ := hm.objs id _ hM
     exact hno blk hown o (q ▸ hIg)
    have hbb : b ≠ blk := fun q => hm.apart id _ jb _ hM hB hne blk hown ⟨0, by rw [hBb, q]⟩
    have eg : ∀ args w, (callFunc 58 args).run Try.prog w = .ok (.enter 58 args) w := enters_of Try.func58 (by kernel_rfl) rfl
    haveI : Inhabited (Fin N) := ⟨⟨0, hN⟩⟩
    obtain ⟨d, hd⟩ : ∃ d : List (Fin N), d = zs.pmap (fun z h => (⟨z, h⟩ : Fin N)) hz := ⟨_, rfl⟩
    have hmap : zN zs = d.map fun x => ((x.val : Nat) : Int) := by rw [hd]; simp [zN, List.map_pmap, List.pmap_eq_map]
    have gives : ∀ (W : World) (x : Fin N), W.cell? ⟨b, 0, none⟩ = some (.slice (some ⟨g, o, none⟩) N cap') → W.cell? ⟨g, o + x.val, none⟩ = some (.int .i64 (F x.val : Int)) → FnGives Try.prog 58 #[.pointer (some ⟨b, 0, none⟩)] #[encN x] (.bool (decide (F x.val = 0))) W := fun W x h1 h2 => by
     refine (pathA_any N (F x.val : Int) x.val x.isLt b g o cap' W h1 h2).mono ?_
     rintro e' w' ⟨rfl, rfl⟩
     refine ⟨?_, 0, rfl⟩
     by_cases q : F x.val = 0 <;> simp [q]
    have hHd : Sort.Holds encN w blk off d.toArray := fun j hj => by
     have hj' : j < d.length := by simpa using hj
     have := hH j (by rw [hmap]; simpa using hj')
     have e1 : (d.map fun x => ((x.val : Nat) : Int)).toArray[j]! = ((d[j].val : Nat) : Int) := by
      rw [getElem!_pos _ j (by simpa using hj')]; simp
     have e2 : d.toArray[j]! = d[j] := by rw [getElem!_pos d.toArray j hj]; simp
     rw [hmap, e1] at this
     rw [e2]
     exact this
    have hdl : d.length = zs.length := by rw [hd, List.length_pmap]
    have hcon := AnyE.slices_DeleteFunc Try.laysDel (encN (N := N)) (fun _ => rfl) (fun x : Fin N => decide (F x.val = 0)) 58 #[.pointer (some ⟨b, 0, none⟩)] eg ⟨0, hN⟩ Try.zeroValue3 blk off cap d.toArray w
     (fun W x hbl => gives W x ((hbl.cell (p := ⟨b, 0, none⟩) hbs).trans hbc) ((hbl.cell (p := ⟨g, o + x.val, none⟩) hgs).trans (hcell x.val x.isLt)))
     (fun n os dk x hs => gives _ x (by
       unfold sortWorld
       rw [Sort.cell?_grow _ _ _ (by show b < (Sort.putRow _ _ _ _ _).heap.size; rw [Sort.size_putRow]; exact hbs), Sort.cell?_putRow_other _ _ blk off _ _ (Or.inl hbb)]
       exact hbc) (by
       unfold sortWorld
       rw [Sort.cell?_grow _ _ _ (by show g < (Sort.putRow _ _ _ _ _).heap.size; rw [Sort.size_putRow]; exact hgs), Sort.cell?_putRow_other _ _ blk off _ _ (Or.inl hgb)]
       exact hcell x.val x.isLt))
     hHd (by simp; omega) (by rw [zN_len] at hcap; simp; omega)
    have hfilt : (d.filter fun x => !decide (F x.val = 0)).map (fun x => ((x.val : Nat) : Int)) = GG (zN zs) := by
     rw [hmap, hGG]; simp [List.filter_map, Function.comp_def]
    have hzl : (zN zs).length = d.length := by rw [hmap, List.length_map]
    rw [hv, hBb, hzl, ← hfilt, List.length_map]
    refine Calls.mono hcon ?_
    rintro e' w' ⟨rfl, q, rfl⟩
    refine ⟨rfl, q, #[], ?_⟩
    rw [Sort.grow_empty]
    have henc : (encN (N := N)) = fun x => Value.int .i64 ((x.val : Nat) : Int) := rfl
    rw [henc, putRow_enc, List.map_append, List.map_replicate]
    rfl
 ·intro h0 w0 I0 B I w rv hm hrv
  match rv, hrv with
  | [v], _ =>
   refine (del_nil v w).mono ?_
   rintro e' w' ⟨rfl, rfl⟩
   exact ⟨rfl, 0, #[], (Sort.grow_empty _).symm⟩
end V
end Go.Proofs.Ytmhchhmhpoldhaa
end
section
namespace Go.Proofs.Ytmhchhmhpoldhaa
namespace V
open Go.RowKit
theorem sort_ok (zs : List Int) (hlen : zs.length < 4611686018427387904) (M : Mem) (id : Nat) {ty : TypeId} (hM : M id = some (.mrow ty 1 (zs.map cI))) :
  CallE Try.prog 61 [.own id] M [] (.tup []) (upd M id (some (.mrow ty 1 ((zs.mergeSort leI).map cI)))) :=
 sort_mut (enters_of Try.func61 (by kernel_rfl) rfl) (fun blk off cap zs w h1 h2 h3 => Try.slices_Sort_int blk off cap zs w h1 h2 h3) (fun p cap w => Try.slices_Sort_int_none p cap w) zs hlen M id hM
end V
end Go.Proofs.Ytmhchhmhpoldhaa
end
section
namespace Go.Proofs.Ytmhchhmhpoldhaa
namespace V
open Go.RowKit G
def lsI (F : Nat → Nat) (d : Nat) (l : List Nat) : Int := l.foldl (fun a i => if F i = d ∧ (a < 0 ∨ ((i / 2 : Nat) : Int) < a) then ((i / 2 : Nat) : Int) else a) (-1)
theorem lsI_snoc (F : Nat → Nat) (d : Nat) (l : List Nat) (i : Nat) : lsI F d (l ++ [i]) = if F i = d ∧ (lsI F d l < 0 ∨ ((i / 2 : Nat) : Int) < lsI F d l) then ((i / 2 : Nat) : Int) else lsI F d l := by rw [lsI, List.foldl_append]; rfl
theorem snocN {p : List Nat → Prop} (h0 : p []) (h1 : ∀ l x, p l → p (l ++ [x])) (l : List Nat) : p l := by
 rw [← List.reverse_reverse l]
 induction l.reverse with
 | nil => exact h0
 | cons x r ih => rw [List.reverse_cons]; exact h1 _ _ ih
theorem lsI_spec (F : Nat → Nat) (d : Nat) (l : List Nat) : (lsI F d l = -1 ∧ ∀ i ∈ l, F i ≠ d) ∨ ∃ q : Nat, lsI F d l = q ∧ (∃ i ∈ l, F i = d ∧ i / 2 = q) ∧ ∀ i ∈ l, F i = d → q ≤ i / 2 := by
 induction l using snocN with
 | h0 => exact .inl ⟨rfl, fun i hi => by simp at hi⟩
 | h1 l x ih =>
  rw [lsI_snoc]
  by_cases hx : F x = d
  ·rcases ih with ⟨e, h⟩ | ⟨q, e, ⟨i, hi, h1, h2⟩, h3⟩
   ·rw [e, if_pos ⟨hx, .inl (by decide)⟩]
    refine .inr ⟨x / 2, rfl, ⟨x, by simp, hx, rfl⟩, fun i hi hq => ?_⟩
    rcases List.mem_append.1 hi with hi | hi
    ·exact absurd hq (h i hi)
    ·simp at hi; subst hi; exact Nat.le_refl _
   ·rw [e]
    by_cases hlt : x / 2 < q
    ·rw [if_pos ⟨hx, .inr (by omega)⟩]
     refine .inr ⟨x / 2, rfl, ⟨x, by simp, hx, rfl⟩, fun i hi hq => ?_⟩
     rcases List.mem_append.1 hi with hi | hi
     ·have := h3 i hi hq; omega
     ·simp at hi; subst hi; exact Nat.le_refl _
    ·rw [if_neg (by omega)]
     refine .inr ⟨q, rfl, ⟨i, by simp [hi], h1, h2⟩, fun i hi hq => ?_⟩
     rcases List.mem_append.1 hi with hi | hi
     ·exact h3 i hi hq
     ·simp at hi; subst hi; omega
  ·rw [if_neg (fun h => hx h.1)]
   rcases ih with ⟨e, h⟩ | ⟨q, e, ⟨i, hi, h1, h2⟩, h3⟩
   ·refine .inl ⟨e, fun i hi => ?_⟩
    rcases List.mem_append.1 hi with hi | hi
    ·exact h i hi
    ·simp at hi; subst hi; exact hx
   ·refine .inr ⟨q, e, ⟨i, by simp [hi], h1, h2⟩, fun i hi hq => ?_⟩
    rcases List.mem_append.1 hi with hi | hi
    ·exact h3 i hi hq
    ·simp at hi; subst hi; exact absurd hq hx
theorem lsI_eq {S : List (Nat × Nat)} {T : List Nat} {F : Nat → Nat} {N d : Nat} (hF : ∀ i, i < N → ∀ v, F i = v + 1 ↔ Ms.Dst S T i v) {l : List Nat} (hl : ∀ i ∈ l, i < N) (hex : ∃ i, i ∈ l ∧ Ms.Dst S T i d) : lsI F (d + 1) l = (lst (cand S T d (· ∈ l)) : Nat) := by
 obtain ⟨i, hi, hd⟩ := hex
 rcases lsI_spec F (d + 1) l with ⟨-, h⟩ | ⟨q, e, ⟨j, hj, h1, h2⟩, h3⟩
 ·exact absurd ((hF i (hl i hi) d).2 hd) (h i hi)
 ·rw [e, lst_eq (q := q) ⟨j, hj, h2, (hF j (hl j hj) d).1 h1⟩ fun x ⟨y, y1, y2, y3⟩ => by have := h3 y y1 ((hF y (hl y y1) d).2 y3); omega]
def nx (S : List (Nat × Nat)) (F : Nat → Nat) (d : Nat) (q : Int) (l : List Nat) : List Nat := l.flatMap fun i => if ((i / 2 : Nat) : Int) = q ∧ F i = d then outs S i else []
theorem nx_snoc (S : List (Nat × Nat)) (F : Nat → Nat) (d : Nat) (q : Int) (l : List Nat) (i : Nat) : nx S F d q (l ++ [i]) = nx S F d q l ++ (if ((i / 2 : Nat) : Int) = q ∧ F i = d then outs S i else []) := by
 unfold nx; rw [List.flatMap_append]; simp
theorem nx_len (S : List (Nat × Nat)) (F : Nat → Nat) (d : Nat) (q : Int) (hS : ∀ i, (outs S i).length ≤ S.length) : ∀ l, (nx S F d q l).length ≤ l.length * S.length := fun l => by
 induction l with
 | nil => simp [nx]
 | cons i l ih =>
  have : nx S F d q (i :: l) = (if ((i / 2 : Nat) : Int) = q ∧ F i = d then outs S i else []) ++ nx S F d q l := rfl
  rw [this, List.length_append, List.length_cons, Nat.add_mul, Nat.one_mul]
  have h1 : (if ((i / 2 : Nat) : Int) = q ∧ F i = d then outs S i else []).length ≤ S.length := by split; exact hS i; simp
  omega
theorem sorted_up {zs : List Int} (h : zs.Pairwise fun a b => leI a b = true) {i j : Nat} (hij : i ≤ j) (hj : j < zs.length) : zs.toArray[i]! ≤ zs.toArray[j]! := by
 have e : ∀ k, k < zs.length → zs.toArray[k]! = zs[k]! := fun k hk => by simp
 rw [e i (by omega), e j hj, getElem!_pos zs i (by omega), getElem!_pos zs j hj]
 by_cases q : i = j
 ·subst q; exact Int.le_refl _
 ·have := List.pairwise_iff_getElem.1 h i j (by omega) hj (by omega)
  simpa [leI] using this
theorem compact_up {zs : List Int} (h : zs.Pairwise fun a b => leI a b = true) : ∀ m, m ≤ zs.length → (Lib.compactUpTo zs.toArray m).Nodup ∧ ∀ x ∈ Lib.compactUpTo zs.toArray m, ∃ i, i < m ∧ x = zs.toArray[i]! := fun m => by
 induction m with
 | zero => intro _; exact ⟨by simp [Lib.compactUpTo], by simp [Lib.compactUpTo]⟩
 | succ m ih =>
  intro hm
  obtain ⟨h1, h2⟩ := ih (by omega)
  rw [Lib.compactUpTo_succ]
  by_cases hk : Lib.keeps zs.toArray m = true
  ·rw [if_pos hk]
   refine ⟨List.nodup_append.2 ⟨h1, by simp, fun a ha b hb => ?_⟩, fun x hx => ?_⟩
   ·simp at hb; subst hb
    obtain ⟨i, hi, rfl⟩ := h2 a ha
    have hne : zs.toArray[m]! ≠ zs.toArray[m - 1]! := by
     have : m = 0 ∨ zs.toArray[m]! ≠ zs.toArray[m - 1]! := by simpa [Lib.keeps] using hk
     rcases this with rfl | q
     ·omega
     ·exact q
    have a1 := sorted_up h (i := i) (j := m - 1) (by omega) (by omega)
    have a2 := sorted_up h (i := m - 1) (j := m) (by omega) (by omega)
    intro q
    have q : zs.toArray[i]! = zs.toArray[m]! := by simpa using q
    omega
   ·rcases List.mem_append.1 hx with hx | hx
    ·obtain ⟨i, hi, e⟩ := h2 x hx; exact ⟨i, by omega, e⟩
    ·simp only [List.mem_singleton] at hx; exact ⟨m, by omega, hx⟩
  ·rw [if_neg hk, List.append_nil]
   exact ⟨h1, fun x hx => by obtain ⟨i, hi, e⟩ := h2 x hx; exact ⟨i, by omega, e⟩⟩
theorem sort_pair (zs : List Int) : (zs.mergeSort leI).Pairwise fun a b => leI a b = true :=
 List.pairwise_mergeSort (le := leI) (fun a b c h1 h2 => by simp [leI] at h1 h2 ⊢; omega) (fun a b => by simp [leI]; omega) zs
theorem compact_nodup (zs : List Int) : (Lib.compact (zs.mergeSort leI)).Nodup := (compact_up (sort_pair zs) _ (Nat.le_refl _)).1
def cmp (l : List Nat) : List Nat := (Lib.compact ((zN l).mergeSort leI)).map Int.toNat
theorem mem_cmpZ {l : List Nat} {z : Int} (h : z ∈ Lib.compact ((zN l).mergeSort leI)) : ∃ i ∈ l, (i : Int) = z := by
 have := List.mem_mergeSort.1 (mem_compact.1 h)
 simpa [zN] using this
theorem zN_cmp (l : List Nat) : zN (cmp l) = Lib.compact ((zN l).mergeSort leI) := by
 unfold zN cmp
 rw [List.map_map]
 refine (List.map_congr_left fun z hz => ?_).trans (List.map_id _)
 obtain ⟨i, -, rfl⟩ := mem_cmpZ hz
 rfl
theorem mem_cmp {l : List Nat} {j : Nat} : j ∈ cmp l ↔ j ∈ l := by
 unfold cmp
 rw [List.mem_map]
 constructor
 ·rintro ⟨z, hz, rfl⟩
  obtain ⟨i, hi, rfl⟩ := mem_cmpZ hz
  exact hi
 ·intro h
  exact ⟨(j : Int), mem_compact.2 (List.mem_mergeSort.2 (List.mem_map.2 ⟨j, h, rfl⟩)), rfl⟩
theorem nodup_lt_len {N : Nat} : ∀ {l : List Nat}, l.Nodup → (∀ x ∈ l, x < N) → l.length ≤ N := fun {l} h1 h2 => nodup_le h1 h2
theorem cmp_len {l : List Nat} {N : Nat} (h : ∀ j ∈ l, j < N) : (cmp l).length ≤ N := by
 refine nodup_lt_len ?_ (fun x hx => h x (mem_cmp.1 hx))
 have h1 := compact_nodup (zN l)
 rw [← zN_cmp] at h1
 unfold zN at h1
 exact List.Pairwise.of_map (fun i : Nat => (i : Int)) (fun a b (h : (a : Int) ≠ (b : Int)) q => h (by rw [q])) h1
theorem path_next {S : List (Nat × Nat)} {T : List Nat} {F : Nat → Nat} {N d : Nat} (hF : ∀ i, i < N → ∀ v, F i = v + 1 ↔ Ms.Dst S T i v) {l : List Nat} (hl : ∀ i ∈ l, i < N) (hex : ∃ i, i ∈ l ∧ Ms.Dst S T i (d + 1)) {q : Int} (hq : q = (lst (cand S T (d + 1) (· ∈ l)) : Nat)) :
  (∀ j, succP S (sts S T (d + 1) (· ∈ l)) j ↔ j ∈ cmp (nx S F (d + 2) q l)) ∧ ∃ j, j ∈ cmp (nx S F (d + 2) q l) ∧ Ms.Dst S T j d := by
 have key : ∀ j, succP S (sts S T (d + 1) (· ∈ l)) j ↔ j ∈ cmp (nx S F (d + 2) q l) := fun j => by
  rw [mem_cmp]
  unfold succP sts nx
  rw [List.mem_flatMap]
  constructor
  ·rintro ⟨i, ⟨h1, h2, h3⟩, e⟩
   exact ⟨i, h1, by rw [if_pos ⟨by rw [hq, h2], (hF i (hl i h1) _).2 h3⟩]; exact mem_outs.2 e⟩
  ·rintro ⟨i, h1, h⟩
   split at h
   ·rename_i c
    exact ⟨i, ⟨h1, by have := c.1; omega, (hF i (hl i h1) _).1 c.2⟩, mem_outs.1 h⟩
   ·simp at h
 refine ⟨key, ?_⟩
 obtain ⟨j, hj, hd⟩ := sts_next (cand_some hex)
 exact ⟨j, (key j).1 hj, hd⟩
end V
end Go.Proofs.Ytmhchhmhpoldhaa
end
section
namespace Go.Proofs.Ytmhchhmhpoldhaa
namespace V
open Go.RowKit G
def beg (F : Nat → Nat) (l : List Nat) : Option Nat := l.foldl (fun a i => if F (2 * i) = 0 then a else match a with | none => some i | some q => if F (2 * i) < F (2 * q) ∨ F (2 * i) = F (2 * q) ∧ i < q then some i else some q) none
def begI : Option Nat → Int
 | none => -1
 | some q => q
def begS (F : Nat → Nat) (a : Option Nat) (i : Nat) : Option Nat := if F (2 * i) = 0 then a else match a with | none => some i | some q => if F (2 * i) < F (2 * q) ∨ F (2 * i) = F (2 * q) ∧ i < q then some i else some q
theorem beg_snoc (F : Nat → Nat) (l : List Nat) (i : Nat) : beg F (l ++ [i]) = begS F (beg F l) i := by rw [beg, List.foldl_append]; rfl
theorem beg_spec (F : Nat → Nat) (l : List Nat) : (beg F l = none ∧ ∀ i ∈ l, F (2 * i) = 0) ∨ ∃ q, beg F l = some q ∧ q ∈ l ∧ F (2 * q) ≠ 0 ∧ ∀ i ∈ l, F (2 * i) ≠ 0 → F (2 * q) ≤ F (2 * i) ∧ (F (2 * i) = F (2 * q) → q ≤ i) := by
 induction l using snocN with
 | h0 => exact .inl ⟨rfl, fun i hi => by simp at hi⟩
 | h1 l x ih =>
  rw [beg_snoc]
  unfold begS
  by_cases h0 : F (2 * x) = 0
  ·rw [if_pos h0]
   rcases ih with ⟨e, h⟩ | ⟨q, e, h1, h2, h3⟩
   ·refine .inl ⟨e, fun i hi => ?_⟩
    rcases List.mem_append.1 hi with hi | hi
    ·exact h i hi
    ·simp at hi; subst hi; exact h0
   ·refine .inr ⟨q, e, by simp [h1], h2, fun i hi hn => ?_⟩
    rcases List.mem_append.1 hi with hi | hi
    ·exact h3 i hi hn
    ·simp at hi; subst hi; exact absurd h0 hn
  ·rw [if_neg h0]
   rcases ih with ⟨e, h⟩ | ⟨q, e, h1, h2, h3⟩
   ·rw [e]
    refine .inr ⟨x, rfl, by simp, h0, fun i hi hn => ?_⟩
    rcases List.mem_append.1 hi with hi | hi
    ·exact absurd (h i hi) hn
    ·simp at hi; subst hi; exact ⟨Nat.le_refl _, fun _ => Nat.le_refl _⟩
   ·rw [e]
    simp only
    by_cases c : F (2 * x) < F (2 * q) ∨ F (2 * x) = F (2 * q) ∧ x < q
    ·rw [if_pos c]
     refine .inr ⟨x, rfl, by simp, h0, fun i hi hn => ?_⟩
     rcases List.mem_append.1 hi with hi | hi
     ·have := h3 i hi hn
      refine ⟨by omega, fun q => ?_⟩
      have := this.2
      omega
     ·simp at hi; subst hi; exact ⟨Nat.le_refl _, fun _ => Nat.le_refl _⟩
    ·rw [if_neg c]
     refine .inr ⟨q, rfl, by simp [h1], h2, fun i hi hn => ?_⟩
     rcases List.mem_append.1 hi with hi | hi
     ·exact h3 i hi hn
     ·simp at hi; subst hi; omega
def nbS (F : Nat → Nat) (d : Nat) (a : Int × List Nat) (k : Nat) : Int × List Nat :=
 if F k = d then
  let b := if a.1 < 0 ∨ ((k / 2 : Nat) : Int) < a.1 then (((k / 2 : Nat) : Int), []) else a
  if ((k / 2 : Nat) : Int) = b.1 ∧ ¬ k ∈ b.2 then (b.1, b.2 ++ [k]) else b
 else a
def nb (F : Nat → Nat) (d : Nat) (l : List Nat) : Int × List Nat := l.foldl (nbS F d) (-1, [])
theorem nb_snoc (F : Nat → Nat) (d : Nat) (l : List Nat) (k : Nat) : nb F d (l ++ [k]) = nbS F d (nb F d l) k := by rw [nb, List.foldl_append]; rfl
theorem nb_spec (F : Nat → Nat) (d : Nat) (l : List Nat) : (nb F d l = (-1, []) ∧ ∀ k ∈ l, F k ≠ d) ∨ ∃ q : Nat, (nb F d l).1 = q ∧ (∃ k ∈ l, F k = d ∧ k / 2 = q) ∧ (∀ k ∈ l, F k = d → q ≤ k / 2) ∧ (nb F d l).2.Nodup ∧ ∀ k, k ∈ (nb F d l).2 ↔ k ∈ l ∧ F k = d ∧ k / 2 = q := by
 induction l using snocN with
 | h0 => exact .inl ⟨rfl, fun i hi => by simp at hi⟩
 | h1 l x ih =>
  rw [nb_snoc]
  unfold nbS
  by_cases h0 : F x = d
  ·rw [if_pos h0]
   have fresh : ∀ (_ : ∀ k ∈ l, F k = d → x / 2 < k / 2), ((∃ k ∈ l ++ [x], F k = d ∧ k / 2 = x / 2) ∧ (∀ k ∈ l ++ [x], F k = d → x / 2 ≤ k / 2) ∧ [x].Nodup ∧ ∀ k, k ∈ [x] ↔ k ∈ l ++ [x] ∧ F k = d ∧ k / 2 = x / 2) := fun hlt => by
    refine ⟨⟨x, by simp, h0, rfl⟩, fun k hk hd => ?_, by simp, fun k => ?_⟩
    ·rcases List.mem_append.1 hk with hk | hk
     ·have := hlt k hk hd; omega
     ·simp at hk; subst hk; exact Nat.le_refl _
    ·simp only [List.mem_singleton, List.mem_append]
     constructor
     ·rintro rfl; exact ⟨.inr rfl, h0, rfl⟩
     ·rintro ⟨hk | hk, hd, he⟩
      ·have := hlt k hk hd; omega
      ·exact hk
   rcases ih with ⟨e, h⟩ | ⟨q, e, ⟨k0, k1, k2, k3⟩, h2, h3, h4⟩
   ·have f2 := fresh (fun k hk hd => absurd hd (h k hk))
    rw [e]
    simp only [show (-1 : Int) < 0 from by decide, true_or, if_true, List.not_mem_nil, not_false_eq_true, and_self, List.nil_append]
    exact .inr ⟨x / 2, rfl, f2⟩
   ·by_cases hlt : x / 2 < q
    ·have f2 := fresh (fun k hk hd => by have := h2 k hk hd; omega)
     have hc : (nb F d l).1 < 0 ∨ ((x / 2 : Nat) : Int) < (nb F d l).1 := .inr (by rw [e]; omega)
     simp only [if_pos hc, List.not_mem_nil, not_false_eq_true, and_self, if_true, List.nil_append]
     exact .inr ⟨x / 2, rfl, f2⟩
    ·have hc : ¬ ((nb F d l).1 < 0 ∨ ((x / 2 : Nat) : Int) < (nb F d l).1) := by rw [e]; omega
     simp only [if_neg hc]
     have lo : ∀ k ∈ l ++ [x], F k = d → q ≤ k / 2 := fun k hk hd => by
      rcases List.mem_append.1 hk with hk | hk
      ·exact h2 k hk hd
      ·simp at hk; subst hk; omega
     by_cases hq : ((x / 2 : Nat) : Int) = (nb F d l).1 ∧ ¬ x ∈ (nb F d l).2
     ·rw [if_pos hq]
      refine .inr ⟨q, e, ⟨k0, by simp [k1], k2, k3⟩, lo, List.nodup_append.2 ⟨h3, by simp, fun a ha b hb he => ?_⟩, fun k => ?_⟩
      ·simp at hb; subst hb; subst he; exact hq.2 ha
      ·have hxq : x / 2 = q := by have := hq.1; rw [e] at this; omega
       simp only [List.mem_append, List.mem_singleton, h4]
       constructor
       ·rintro (⟨a, b, c⟩ | rfl)
        ·exact ⟨.inl a, b, c⟩
        ·exact ⟨.inr rfl, h0, hxq⟩
       ·rintro ⟨a | a, b, c⟩
        ·exact .inl ⟨a, b, c⟩
        ·exact .inr a
     ·rw [if_neg hq]
      refine .inr ⟨q, e, ⟨k0, by simp [k1], k2, k3⟩, lo, h3, fun k => ?_⟩
      rw [h4]
      constructor
      ·rintro ⟨a, b, c⟩; exact ⟨by simp [a], b, c⟩
      ·rintro ⟨a, b, c⟩
       rcases List.mem_append.1 a with a | a
       ·exact ⟨a, b, c⟩
       ·simp at a; subst a
        have : k ∈ (nb F d l).2 := by
         refine Classical.byContradiction fun hn => hq ⟨by rw [e]; omega, hn⟩
        exact (h4 k).1 this
  ·rw [if_neg h0]
   rcases ih with ⟨e, h⟩ | ⟨q, e, ⟨k0, k1, k2, k3⟩, h2, h3, h4⟩
   ·refine .inl ⟨e, fun i hi => ?_⟩
    rcases List.mem_append.1 hi with hi | hi
    ·exact h i hi
    ·simp at hi; subst hi; exact h0
   ·refine .inr ⟨q, e, ⟨k0, by simp [k1], k2, k3⟩, fun k hk hd => ?_, h3, fun k => ?_⟩
    ·rcases List.mem_append.1 hk with hk | hk
     ·exact h2 k hk hd
     ·simp at hk; subst hk; exact absurd hd h0
    ·rw [h4]
     constructor
     ·rintro ⟨a, b, c⟩; exact ⟨by simp [a], b, c⟩
     ·rintro ⟨a, b, c⟩
      rcases List.mem_append.1 a with a | a
      ·exact ⟨a, b, c⟩
      ·simp at a; subst a; exact absurd b h0
theorem nb_lo (F : Nat → Nat) (d : Nat) (l : List Nat) : -1 ≤ (nb F d l).1 := by
 rcases nb_spec F d l with ⟨e, -⟩ | ⟨q, e, -⟩
 ·rw [e]; decide
 ·rw [e]; omega
theorem nb_lt {F : Nat → Nat} {d N : Nat} {l : List Nat} (h : ∀ k ∈ l, k < N) : (nb F d l).2.length ≤ N ∧ ∀ k ∈ (nb F d l).2, k < N := by
 rcases nb_spec F d l with ⟨e, -⟩ | ⟨q, e, -, -, h3, h4⟩
 ·rw [e]; exact ⟨Nat.zero_le _, fun k hk => by simp at hk⟩
 ·have : ∀ k ∈ (nb F d l).2, k < N := fun k hk => h k ((h4 k).1 hk).1
  exact ⟨nodup_lt_len h3 this, this⟩
def onw (S : List (Nat × Nat)) (l : List Nat) : List Nat := l.flatMap (outs S)
theorem mem_onw {S : List (Nat × Nat)} {l : List Nat} {j : Nat} : j ∈ onw S l ↔ ∃ i ∈ l, (i, j) ∈ S := by
 unfold onw; rw [List.mem_flatMap]
 exact ⟨fun ⟨i, h1, h2⟩ => ⟨i, h1, mem_outs.1 h2⟩, fun ⟨i, h1, h2⟩ => ⟨i, h1, mem_outs.2 h2⟩⟩
theorem nb_path {S : List (Nat × Nat)} {T : List Nat} {F : Nat → Nat} {N d : Nat} (hS : ∀ e ∈ S, e.1 < N ∧ e.2 < N) (hF : ∀ i, i < N → ∀ v, F i = v + 1 ↔ Ms.Dst S T i v) {l : List Nat} (hex : ∃ i, i ∈ l ∧ Ms.Dst S T i (d + 1)) :
  (nb F (d + 1) (onw S l)).1 = (lst (cand S T d (succP S (· ∈ l))) : Nat) ∧ (∀ j, j ∈ (nb F (d + 1) (onw S l)).2 ↔ sts S T d (succP S (· ∈ l)) j) ∧ ∃ j, j ∈ (nb F (d + 1) (onw S l)).2 ∧ Ms.Dst S T j d := by
 obtain ⟨i, hi, hd⟩ := hex
 obtain ⟨j, e, hj⟩ := hd.next
 have hlt : ∀ {k}, k ∈ onw S l → k < N := fun hk => by obtain ⟨i, -, e⟩ := mem_onw.1 hk; exact (hS _ e).2
 have hjm : j ∈ onw S l := mem_onw.2 ⟨i, hi, e⟩
 rcases nb_spec F (d + 1) (onw S l) with ⟨-, h⟩ | ⟨q, e1, ⟨k0, k1, k2, k3⟩, h2, h3, h4⟩
 ·exact absurd ((hF j (hlt hjm) d).2 hj) (h j hjm)
 ·have hl : lst (cand S T d (succP S (· ∈ l))) = q := lst_eq ⟨k0, mem_onw.1 k1, k3, (hF k0 (hlt k1) d).1 k2⟩ fun x ⟨y, y1, y2, y3⟩ => by
   have y1 := mem_onw.2 y1
   have := h2 y y1 ((hF y (hlt y1) d).2 y3); omega
  refine ⟨by rw [e1, hl], fun j => ?_, k0, (h4 k0).2 ⟨k1, k2, k3⟩, (hF k0 (hlt k1) d).1 k2⟩
  rw [h4]
  unfold sts
  rw [hl]
  constructor
  ·rintro ⟨a, b, c⟩; exact ⟨mem_onw.1 a, c, (hF j (hlt a) d).1 b⟩
  ·rintro ⟨a, b, c⟩
   have a := mem_onw.2 a
   exact ⟨a, (hF j (hlt a) d).2 c, b⟩
noncomputable def pathR (S : List (Nat × Nat)) (T : List Nat) (F : Nat → Nat) (zs : List Nat) : List Nat :=
 match zs.filter fun z => !decide (F z = 0) with
 | [] => []
 | x :: l => pathP S T (F (minG F x l) - 1) (· ∈ x :: l)
noncomputable def walkR (S : List (Nat × Nat)) (T : List Nat) (F : Nat → Nat) (src : List Nat) : List Nat :=
 match beg F src with
 | none => []
 | some q => q :: tailP S T (· = 2 * q) (F (2 * q) - 1)
theorem pathR_eq {S : List (Nat × Nat)} {t N : Nat} {F : Nat → Nat} (hF : ∀ i, i < N → ∀ v, F i = v + 1 ↔ Ms.Dst S (ends2 t) i v) {src : List Nat} (hs : ∀ i ∈ src, 2 * i < N) :
  (Reached S src t → pathR S (ends2 t) F (ph1 src) = pathF S src t) ∧ (¬ Reached S src t → pathR S (ends2 t) F (ph1 src) = []) := by
 have hlt : ∀ {z}, z ∈ ph1 src → z < N := fun hz => by obtain ⟨i, hi, rfl⟩ := List.mem_map.1 hz; exact hs i hi
 unfold pathR
 cases hf : (ph1 src).filter fun z => !decide (F z = 0) with
 | nil =>
  have h0 : ∀ z ∈ ph1 src, F z = 0 := fun z hz => by
   have := List.filter_eq_nil_iff.1 hf z hz
   simpa using this
  have : ¬ Reached S src t := fun h => by
   obtain ⟨i, hi, v, hv⟩ := reached_iff.1 h
   have := (hF i (hlt hi) v).2 hv
   rw [h0 i hi] at this; omega
  exact ⟨fun h => absurd h this, fun _ => rfl⟩
 | cons x l =>
  have hm : ∀ z, z ∈ x :: l ↔ z ∈ ph1 src ∧ F z ≠ 0 := fun z => by rw [← hf, List.mem_filter]; simp
  have hr : ∀ z, z ∈ x :: l → ∃ v, F z = v + 1 ∧ Ms.Dst S (ends2 t) z v := fun z hz => by
   have := (hm z).1 hz
   exact ⟨F z - 1, by omega, (hF z (hlt this.1) _).1 (by omega)⟩
  obtain ⟨m1, m2, m3⟩ := minG_spec F l x
  have hmin : minG F x l ∈ x :: l := m1.elim (fun h => by rw [h]; simp) fun h => by simp [h]
  obtain ⟨v, hv, hd⟩ := hr _ hmin
  have hre : Reached S src t := reached_iff.2 ⟨_, ((hm _).1 hmin).1, v, hd⟩
  refine ⟨fun _ => ?_, fun h => absurd hre h⟩
  have hlo : ∀ z ∈ x :: l, F (minG F x l) ≤ F z := fun z hz => by
   rcases List.mem_cons.1 hz with rfl | hz
   ·exact m2
   ·exact m3 z hz
  have hmany : many S src t = v := lst_eq ⟨_, ((hm _).1 hmin).1, hd⟩ fun u ⟨i, hi, hu⟩ => by
   have h1 := (hF i (hlt hi) u).2 hu
   have h2 := hlo i ((hm i).2 ⟨hi, by omega⟩)
   omega
  unfold pathF
  simp only
  rw [hmany, show F (minG F x l) - 1 = v by omega]
  have hc : ∀ P : Nat → Prop, (∀ z, P z → z ∈ ph1 src) → (∀ z, z ∈ ph1 src → F z ≠ 0 → P z) → ∀ q, cand S (ends2 t) v P q ↔ cand S (ends2 t) v (· ∈ ph1 src) q := fun P hP1 hP2 q =>
   ⟨fun ⟨i, h1, h2, h3⟩ => ⟨i, hP1 i h1, h2, h3⟩, fun ⟨i, h1, h2, h3⟩ => ⟨i, hP2 i h1 (by have := (hF i (hlt h1) v).2 h3; omega), h2, h3⟩⟩
  have hc1 : cand S (ends2 t) v (· ∈ x :: l) = cand S (ends2 t) v (· ∈ ph1 src) := funext fun q => propext (hc _ (fun z hz => ((hm z).1 hz).1) (fun z h1 h2 => (hm z).2 ⟨h1, h2⟩) q)
  rw [pathP_tail, pathP_tail, hc1]
  congr 1
  refine tailP_congr (fun i => ?_) v
  unfold sts
  rw [hc1]
  constructor
  ·rintro ⟨h1, h2, h3⟩; exact ⟨((hm i).1 h1).1, h2, h3⟩
  ·rintro ⟨h1, h2, h3⟩; exact ⟨(hm i).2 ⟨h1, by have := (hF i (hlt h1) v).2 h3; omega⟩, h2, h3⟩
theorem walkR_eq {S : List (Nat × Nat)} {t N : Nat} {F : Nat → Nat} (hF : ∀ i, i < N → ∀ v, F i = v + 1 ↔ Ms.Dst S (ends2 t) i v) {src : List Nat} (hs : ∀ i ∈ src, 2 * i < N) :
  (Reached S src t → walkR S (ends2 t) F src = pathF S src t) ∧ (¬ Reached S src t → walkR S (ends2 t) F src = []) := by
 unfold walkR
 rcases beg_spec F src with ⟨e, h⟩ | ⟨q, e, h1, h2, h3⟩
 ·rw [e]
  have : ¬ Reached S src t := fun hr => by
   obtain ⟨z, hz, v, hv⟩ := reached_iff.1 hr
   obtain ⟨i, hi, rfl⟩ := List.mem_map.1 hz
   have := (hF _ (hs i hi) v).2 hv
   rw [h i hi] at this; omega
  exact ⟨fun h => absurd h this, fun _ => rfl⟩
 ·rw [e]
  simp only
  obtain ⟨v, hv⟩ : ∃ v, F (2 * q) = v + 1 := ⟨F (2 * q) - 1, by omega⟩
  have hd := (hF _ (hs q h1) v).1 hv
  have hq : 2 * q ∈ ph1 src := List.mem_map.2 ⟨q, h1, rfl⟩
  have hre : Reached S src t := reached_iff.2 ⟨_, hq, v, hd⟩
  refine ⟨fun _ => ?_, fun h => absurd hre h⟩
  have hmany : many S src t = v := lst_eq ⟨_, hq, hd⟩ fun u ⟨z, hz, hu⟩ => by
   obtain ⟨i, hi, rfl⟩ := List.mem_map.1 hz
   have a1 := (hF _ (hs i hi) u).2 hu
   have a2 := (h3 i hi (by omega)).1
   omega
  have hl : lst (cand S (ends2 t) v (· ∈ ph1 src)) = q := lst_eq ⟨2 * q, hq, by omega, hd⟩ fun x ⟨y, y1, y2, y3⟩ => by
   obtain ⟨i, hi, rfl⟩ := List.mem_map.1 y1
   have a1 := (hF _ (hs i hi) v).2 y3
   have a2 := (h3 i hi (by omega)).2 (by omega)
   omega
  unfold pathF
  rw [hmany, pathP_tail, hl, show F (2 * q) - 1 = v by omega]
  congr 1
  refine tailP_congr (fun i => ?_) v
  unfold sts
  rw [hl]
  constructor
  ·rintro rfl; exact ⟨hq, by omega, hd⟩
  ·rintro ⟨a1, a2, a3⟩
   obtain ⟨j, hj, rfl⟩ := List.mem_map.1 a1
   omega
end V
end Go.Proofs.Ytmhchhmhpoldhaa
end
section
namespace Go.Proofs.Ytmhchhmhpoldhaa
namespace V
open Go.RowKit G
theorem stands_ok (l : List Nat) (v : Nat) (hlen : l.length ≤ 1000000000000) (m : Mem) : COk Try.prog 71 [.c (.sl (l.map cN)), .c (.int .i64 v)] m (.c (.bool (decide (v ∈ l)))) := by
 refine (ok_pure tab_ok Try.func71 (by kernel_rfl) rfl rfl (by rfl) (by rfl) (by rfl) (fun R hkeep => ?_) m)
 repeat (first | refine W.seq ?_ | refine W.block ?_ | refine W.skip ?_ | refine W.exit ?_ | refine W.g ?_)
 refine W.loop (ι := Nat) (fun k => ⟨upd (upd (upd (upd (fun _ => .top) 1 (.c (.int .i64 v))) 7 (.c (.sl (l.map cN)))) 8 (.c (.int .i64 l.length))) 9 (.c (.int .i64 k)), Mem.nil⟩) (fun k => k ≤ l.length ∧ v ∉ l.take k) (fun k => l.length - k) 0 ?start ⟨Nat.zero_le _, by simp⟩ ?round
 case start =>
  refine le_L ?sle ?mle (kept_not hkeep)
  case mle => repeat (first | exact mle_nil _ | exact mle_refl _ | refine mle_upd ?_ zb8q44)
  case sle => repeat (first | exact sle_top _ | exact sle_refl _ | refine sle_upd ?_ zb8q41)
 case round =>
  rintro k ⟨hkl, hno⟩
  repeat (first | refine W.seq ?_ | refine W.block ?_ | refine W.skip ?_ | refine W.exit ?_ | refine W.g ?_)
  refine W.cond rfl ?_ ?_
  ·intro hlt
   simp only [decide_eq_true_eq, Int.ofNat_lt] at hlt
   obtain ⟨x, hx⟩ : ∃ x, l[k]? = some x := ⟨_, List.getElem?_eq_getElem hlt⟩
   have htk : l.take (k + 1) = l.take k ++ [x] := by rw [List.take_add_one, hx]; rfl
   repeat (first | refine W.seq ?_ | refine W.block ?_ | refine W.skip ?_ | refine W.exit ?_ | refine W.g ?_ zb8q22)
   refine W.cond rfl ?_ ?_
   ·intro hp
    repeat (first | refine W.seq ?_ | refine W.block ?_ | refine W.skip ?_ | refine W.exit ?_ | refine W.g ?_)
    refine W.ret ⟨.inr rfl, by rfl, ?_⟩
    simp only [Try.f71, resA, resOne, toT, fin, exb, Nat.reduceAdd, Nat.reduceLeDiff, Nat.reduceEqDiff, Nat.reduceMul, Int.reduceToNat, reduceIte, Int.reduceLE, Int.reduceNeg]
    have hxv : x = v := by simp only [decide_eq_true_eq] at hp; omega
    have : v ∈ l := hxv ▸ List.mem_of_getElem? hx
    simp [this]
   ·intro hp
    repeat (first | refine W.seq ?_ | refine W.block ?_ | refine W.skip ?_ | refine W.exit ?_ | refine W.g ?_)
    refine ⟨k + 1, ⟨hlt, ?_⟩, by omega, ?_⟩
    ·rw [htk, List.mem_append, List.mem_singleton]
     rintro (h | h)
     ·exact hno h
     ·simp only [decide_eq_false_iff_not] at hp; omega
    refine le_L ?sle ?mle (kept_not hkeep)
    case mle => repeat (first | exact mle_nil _ | exact mle_refl _ | refine mle_upd ?_ zb8q36)
    case sle => repeat (first | exact sle_top _ | exact sle_refl _ | refine sle_upd ?_ zb8q29)
  ·intro hge
   simp only [decide_eq_false_iff_not, Int.ofNat_lt] at hge
   obtain rfl : k = l.length := by omega
   rw [List.take_length] at hno
   repeat (first | refine W.seq ?_ | refine W.block ?_ | refine W.skip ?_ | refine W.exit ?_ | refine W.g ?_)
   refine W.ret ⟨.inr rfl, by rfl, ?_⟩
   simp only [Try.f71, resA, resOne, toT, fin, exb, Nat.reduceAdd, Nat.reduceLeDiff, Nat.reduceEqDiff, Nat.reduceMul, Int.reduceToNat, reduceIte, Int.reduceLE, Int.reduceNeg]
   simp [hno]
end V
end Go.Proofs.Ytmhchhmhpoldhaa
end
section
namespace Go.Proofs.Ytmhchhmhpoldhaa
namespace V
open Go.RowKit G
theorem onw_snoc (S : List (Nat × Nat)) (l : List Nat) (x : Nat) : onw S (l ++ [x]) = onw S l ++ outs S x := by unfold onw; rw [List.flatMap_append]; simp
theorem tdiv_two (k : Nat) : (k : Int).tdiv 2 = ((k / 2 : Nat) : Int) := by rw [Int.tdiv_eq_ediv_of_nonneg (by omega)]; omega
theorem wrap_lo {z : Int} (h1 : -9223372036854775808 ≤ z) (h2 : z < 9223372036854775808) : IntKind.i64.wrap z = z := by
 by_cases h : 0 ≤ z
 ·obtain ⟨k, rfl⟩ := Int.eq_ofNat_of_zero_le h
  exact wrap_nat (by omega)
 ·have h3 : z % 18446744073709551616 = z + 18446744073709551616 := by omega
  have h4 : (z + 18446744073709551616) ≥ 9223372036854775808 := by omega
  simp [IntKind.wrap, IntKind.bits, IntKind.signed, h3]
  omega
theorem W.join {P : Go.Program} {R : Ref} {n : Nat} {ds : List Deferred} {st : St} {x y : Code} {K : Exit → St → Prop} {ι : Type} (mk : ι → St) (Q : ι → Prop)
  (h : W P R n ds st x (fun e st' => e = .normal ∧ ∀ c K', (∀ i, Q i → W P R n ds (mk i) c K') → W P R n ds st' c K')) (k : ∀ i, Q i → W P R n ds (mk i) y K) : W P R n ds st x (thenK (fun st' => W P R n ds st' y K) K) := by
 refine W.mono h ?_
 rintro e st' ⟨rfl, h2⟩
 exact h2 y K k
set_option maxHeartbeats 4000000 in
theorem next_ok (N : Nat) (hN : N ≤ 200000) (S : List (Nat × Nat)) (hlen : S.length ≤ 1000000) (hS : ∀ e ∈ S, e.1 < N ∧ e.2 < N) (F : Nat → Nat) (hF : ∀ i, F i ≤ N) (l : List Nat) (hl : ∀ i ∈ l, i < N) (hll : l.length ≤ 1000000) (d : Nat) (hd : d ≤ N) (m : Mem) :
  COk Try.prog 63 [.c (.sl (tabU S N)), .c (.sl (rowD N F)), .c (.sl (l.map cN)), .c (.int .i64 d)] m (.tup [(false, [.int .i64 (nb F (d + 1) (onw S l)).1]), (false, [.sl ((nb F (d + 1) (onw S l)).2.map cN)])]) := by
 have lt : ∀ {L : List Nat}, (∀ i ∈ L, i < N) → ∀ k ∈ onw S L, k < N := fun {L} hL k hk => by
  obtain ⟨i, -, e⟩ := mem_onw.1 hk; exact (hS _ e).2
 have hlp : ∀ k, ∀ i ∈ l.take k, i < N := fun k i hi => hl i (List.mem_of_mem_take hi)
 refine (ok_pure tab_ok Try.func63 (by kernel_rfl) rfl rfl (by rfl) (by rfl) (by rfl) (fun R hkeep => ?_) m)
 repeat (first | refine W.seq ?_ | refine W.block ?_ | refine W.skip ?_ | refine W.exit ?_ | refine W.g ?_)
 refine W.newArr 11 100 3 1 rfl rfl ?_
 refine W.loop (ι := Nat) (fun i => ⟨upd (upd (upd (upd (upd (upd (upd (upd (fun _ => .top) 0 (.c (.sl (tabU S N)))) 1 (.c (.sl (rowD N F)))) 3 (.c (.int .i64 d))) 10 (.c (.int .i64 (nb F (d + 1) (onw S (l.take i))).1))) 11 (.own 100)) 16 (.c (.sl (l.map cN)))) 17 (.c (.int .i64 l.length))) 18 (.c (.int .i64 i)), upd Mem.nil 100 (some (.arr 3 1 ((nb F (d + 1) (onw S (l.take i))).2.map cN)))⟩) (fun i => i ≤ l.length) (fun i => l.length - i) 0 ?start (Nat.zero_le _) ?round
 case start =>
  refine le_L ?sle ?mle (kept_not hkeep)
  case mle => repeat (first | exact mle_nil _ | exact mle_refl _ | refine mle_upd ?_ zb8q44)
  case sle => repeat (first | exact sle_top _ | exact sle_refl _ | refine sle_upd ?_ zb8q41)
 case round =>
  intro i hil
  repeat (first | refine W.seq ?_ | refine W.block ?_ | refine W.skip ?_ | refine W.exit ?_ | refine W.g ?_)
  refine W.cond rfl ?_ ?_
  ·intro hlt
   simp only [decide_eq_true_eq, Int.ofNat_lt] at hlt
   obtain ⟨x, hx⟩ : ∃ x, l[i]? = some x := ⟨_, List.getElem?_eq_getElem hlt⟩
   have hxN : x < N := hl x (List.mem_of_getElem? hx)
   have hx0 : (0 : Int) ≤ (x : Int) := by omega
   have htk : l.take (i + 1) = l.take i ++ [x] := by rw [List.take_add_one, hx]; rfl
   obtain ⟨L0, hL0⟩ : ∃ L0, L0 = onw S (l.take i) := ⟨_, rfl⟩
   have hL0N : ∀ k ∈ L0, k < N := by rw [hL0]; exact lt (hlp i)
   rw [← hL0]
   repeat (first | refine W.seq ?_ | refine W.block ?_ | refine W.skip ?_ | refine W.exit ?_ | refine W.g ?_ (by simp only [exb, Nat.reduceAdd, Nat.reduceLeDiff, Nat.reduceEqDiff, Nat.reduceMul, Int.reduceToNat, reduceIte, Int.reduceLE, Int.reduceNeg, at_map hx, cN, tabU_at hxN, tabU_len, hxN, hx0, Int.toNat_natCast, and_self]; rfl))
   obtain ⟨os, hos⟩ : ∃ os, os = outs S x := ⟨_, rfl⟩
   have hosN : ∀ k ∈ os, k < N := fun k hk => by rw [hos] at hk; exact (hS _ (mem_outs.1 hk)).2
   have hosl : os.length ≤ 1000000 := by rw [hos]; exact Nat.le_trans (outs_len S x) hlen
   rw [← hos]
   refine W.loop (ι := Nat) (fun j => ⟨upd (upd (upd (upd (upd (upd (upd (upd (upd (upd (upd (fun _ => .top) 0 (.c (.sl (tabU S N)))) 1 (.c (.sl (rowD N F)))) 3 (.c (.int .i64 d))) 10 (.c (.int .i64 (nb F (d + 1) (L0 ++ os.take j)).1))) 11 (.own 100)) 16 (.c (.sl (l.map cN)))) 17 (.c (.int .i64 l.length))) 18 (.c (.int .i64 i))) 25 (.c (.sl (os.map cN)))) 26 (.c (.int .i64 os.length))) 27 (.c (.int .i64 j)), upd Mem.nil 100 (some (.arr 3 1 ((nb F (d + 1) (L0 ++ os.take j)).2.map cN)))⟩) (fun j => j ≤ os.length) (fun j => os.length - j) 0 ?start2 (Nat.zero_le _) ?round2
   case start2 =>
    refine le_L ?sle ?mle (kept_not hkeep)
    case mle => repeat (first | exact mle_nil _ | exact mle_refl _ | refine mle_upd ?_ (by first | rfl | (simp only [upd_app, killM_app, Nat.reduceEqDiff, reduceIte, List.take_zero, List.append_nil]; done)))
    case sle => repeat (first | exact sle_top _ | exact sle_refl _ | refine sle_upd ?_ (by first | rfl | (simp only [upd_app, entry_zero, entry_succ, Nat.reduceEqDiff, reduceIte, List.take_zero, List.append_nil]; done)))
   case round2 =>
    intro j hjl
    repeat (first | refine W.seq ?_ | refine W.block ?_ | refine W.skip ?_ | refine W.exit ?_ | refine W.g ?_)
    refine W.cond rfl ?_ ?_
    ·intro hlt2
     simp only [decide_eq_true_eq, Int.ofNat_lt] at hlt2
     obtain ⟨k, hk⟩ : ∃ k, os[j]? = some k := ⟨_, List.getElem?_eq_getElem hlt2⟩
     have hkN : k < N := hosN k (List.mem_of_getElem? hk)
     have hk0 : (0 : Int) ≤ (k : Int) := by omega
     have htk2 : L0 ++ os.take (j + 1) = (L0 ++ os.take j) ++ [k] := by rw [List.take_add_one, hk, List.append_assoc]; rfl
     obtain ⟨L, hL⟩ : ∃ L, L = L0 ++ os.take j := ⟨_, rfl⟩
     have hLN : ∀ k ∈ L, k < N := fun k hk => by
      rw [hL] at hk
      exact (List.mem_append.1 hk).elim (hL0N k) fun h => hosN k (List.mem_of_mem_take h)
     rw [← hL] at htk2 ⊢
     obtain ⟨b, B, hbB⟩ : ∃ b B, nb F (d + 1) L = (b, B) := ⟨_, _, rfl⟩
     have hlo := nb_lo F (d + 1) L
     have hnl := nb_lt (F := F) (d := d + 1) hLN
     rw [hbB] at hlo hnl ⊢
     simp only at hlo hnl
     have hq := tdiv_two k
     have hqw : IntKind.i64.wrap ((k / 2 : Nat) : Int) = ((k / 2 : Nat) : Int) := wrap_nat (by omega)
     have hnb : nb F (d + 1) (L ++ [k]) = nbS F (d + 1) (b, B) k := by rw [nb_snoc, hbB]
     repeat (first | refine W.seq ?_ | refine W.block ?_ | refine W.skip ?_ | refine W.exit ?_ | refine W.g ?_ (by simp only [exb, Nat.reduceAdd, Nat.reduceLeDiff, Nat.reduceEqDiff, Nat.reduceMul, Int.reduceToNat, reduceIte, Int.reduceLE, Int.reduceNeg, at_map hk, cN, rowD_at hkN, rowD_len, hkN, hk0, Int.toNat_natCast, and_self]; rfl))
     by_cases c0 : F k = d + 1
     ·refine W.cond rfl (fun h => absurd h (by simp; omega)) (fun _ => ?_)
      have hq10 : ((k / 2 : Nat) : Int) < 9223372036854775808 := by omega
      (repeat (first | refine W.seq ?_ | refine W.block ?_ | refine W.skip ?_ | refine W.exit ?_))
      refine W.join (ι := Bool) (fun bb => ⟨upd (upd (upd (upd (upd (upd (upd (upd (upd (upd (upd (upd (upd (fun _ => .top) 0 (.c (.sl (tabU S N)))) 1 (.c (.sl (rowD N F)))) 3 (.c (.int .i64 d))) 10 (.c (.int .i64 (b)))) 11 (.own 100)) 15 (.c (.int .i64 k))) 16 (.c (.sl (l.map cN)))) 17 (.c (.int .i64 l.length))) 18 (.c (.int .i64 i))) 25 (.c (.sl (os.map cN)))) 26 (.c (.int .i64 os.length))) 27 (.c (.int .i64 j))) 44 (.c (.bool bb)), upd Mem.nil 100 (some (.arr 3 1 ((B).map cN)))⟩) (fun bb => bb = decide (b < 0 ∨ ((k / 2 : Nat) : Int) < b)) ?_ ?_
      ·by_cases q1 : b < 0
       ·have p1 := eq_true q1
        have r1 : (b < 0 ∨ ((k / 2 : Nat) : Int) < b) = True := eq_true (.inl q1)
        clear q1
        repeat (first | refine W.seq ?_ | refine W.block ?_ | refine W.skip ?_ | refine W.exit ?_ | refine W.g ?_ zb8q13)
        refine ⟨rfl, fun c K' hk => W.weaken ?_ (hk true (by simp only [r1, decide_true]))⟩
        refine le_L ?sle ?mle (kept_not hkeep)
        case mle => repeat (first | exact mle_nil _ | exact mle_refl _ | refine mle_upd ?_ zb8q44)
        case sle => repeat (first | exact sle_top _ | exact sle_refl _ | refine sle_upd ?_ zb8q41)
       ·have p1 := eq_false q1
        have r1 : (b < 0 ∨ ((k / 2 : Nat) : Int) < b) = (((k / 2 : Nat) : Int) < b) := by simp [p1]
        clear q1
        repeat (first | refine W.seq ?_ | refine W.block ?_ | refine W.skip ?_ | refine W.exit ?_ | refine W.g ?_ zb8q13)
        refine ⟨rfl, fun c K' hk => W.weaken ?_ (hk (decide (((k / 2 : Nat) : Int) < b)) (by simp [p1]))⟩
        refine le_L ?sle ?mle (kept_not hkeep)
        case mle => repeat (first | exact mle_nil _ | exact mle_refl _ | refine mle_upd ?_ zb8q44)
        case sle => repeat (first | exact sle_top _ | exact sle_refl _ | refine sle_upd ?_ zb8q41)
      rintro bb hbb
      (repeat (first | refine W.seq ?_ | refine W.block ?_ | refine W.skip ?_ | refine W.exit ?_))
      refine W.join (ι := Int × List Nat) (fun y => ⟨upd (upd (upd (upd (upd (upd (upd (upd (upd (upd (upd (upd (fun _ => .top) 0 (.c (.sl (tabU S N)))) 1 (.c (.sl (rowD N F)))) 3 (.c (.int .i64 d))) 10 (.c (.int .i64 (y.1)))) 11 (.own 100)) 15 (.c (.int .i64 k))) 16 (.c (.sl (l.map cN)))) 17 (.c (.int .i64 l.length))) 18 (.c (.int .i64 i))) 25 (.c (.sl (os.map cN)))) 26 (.c (.int .i64 os.length))) 27 (.c (.int .i64 j)), upd Mem.nil 100 (some (.arr 3 1 ((y.2).map cN)))⟩) (fun y => y = (if b < 0 ∨ ((k / 2 : Nat) : Int) < b then (((k / 2 : Nat) : Int), []) else (b, B))) ?_ ?_
      ·refine W.cond rfl ?_ ?_
       ·intro h
        have h : bb = true := h
        rw [h] at hbb
        have hc := of_decide_eq_true hbb.symm
        repeat (first | refine W.seq ?_ | refine W.block ?_ | refine W.skip ?_ | refine W.exit ?_ | refine W.g ?_ zb8q17)
        refine ⟨rfl, fun c K' hk => ?_⟩
        refine W.weaken (st' := ⟨upd (upd (upd (upd (upd (upd (upd (upd (upd (upd (upd (upd (fun _ => .top) 0 (.c (.sl (tabU S N)))) 1 (.c (.sl (rowD N F)))) 3 (.c (.int .i64 d))) 10 (.c (.int .i64 (((k / 2 : Nat) : Int))))) 11 (.nil)) 15 (.c (.int .i64 k))) 16 (.c (.sl (l.map cN)))) 17 (.c (.int .i64 l.length))) 18 (.c (.int .i64 i))) 25 (.c (.sl (os.map cN)))) 26 (.c (.int .i64 os.length))) 27 (.c (.int .i64 j)), Mem.nil⟩) ?_ ?_
        ·skip
         refine le_L ?sle ?mle (kept_not hkeep)
         case mle => repeat (first | exact mle_nil _ | exact mle_refl _ | refine mle_upd ?_ zb8q44)
         case sle => repeat (first | exact sle_top _ | exact sle_refl _ | refine sle_upd ?_ zb8q41)
        refine W.newArr 11 100 3 1 rfl rfl ?_
        refine W.weaken ?_ (hk (((k / 2 : Nat) : Int), []) (by rw [if_pos hc]))
        refine le_L ?sle ?mle (kept_not hkeep)
        case mle => repeat (first | exact mle_nil _ | exact mle_refl _ | refine mle_upd ?_ (by first | rfl | (simp only [upd_app, killM_app, Nat.reduceEqDiff, reduceIte, List.map_nil]; done)))
        case sle => repeat (first | exact sle_top _ | exact sle_refl _ | refine sle_upd ?_ (by first | rfl | (simp only [upd_app, entry_zero, entry_succ, Nat.reduceEqDiff, reduceIte, List.map_nil]; done)))
       ·intro h
        have h : bb = false := h
        rw [h] at hbb
        have hc := of_decide_eq_false hbb.symm
        repeat (first | refine W.seq ?_ | refine W.block ?_ | refine W.skip ?_ | refine W.exit ?_ | refine W.g ?_)
        refine ⟨rfl, fun c K' hk => W.weaken ?_ (hk (b, B) (by rw [if_neg hc]))⟩
        refine le_L ?sle ?mle (kept_not hkeep)
        case mle => repeat (first | exact mle_nil _ | exact mle_refl _ | refine mle_upd ?_ zb8q44)
        case sle => repeat (first | exact sle_top _ | exact sle_refl _ | refine sle_upd ?_ zb8q41)
      rintro ⟨b', B'⟩ hy
      have hyl : B'.length ≤ N ∧ ∀ k ∈ B', k < N := by
       split at hy
       ·cases hy; exact ⟨Nat.zero_le _, fun k hk => by simp at hk⟩
       ·cases hy; exact hnl
      have hns : nbS F (d + 1) (b, B) k = if ((k / 2 : Nat) : Int) = b' ∧ ¬ k ∈ B' then (b', B' ++ [k]) else (b', B') := by
       unfold nbS
       rw [if_pos c0]
       simp only
       rw [← hy]
      have stn := fun m => stands_ok B' k (by omega) m
      simp only
      by_cases q2 : ((k / 2 : Nat) : Int) = b'
      ·have p2 := eq_true q2
       (repeat (first | refine W.seq ?_ | refine W.block ?_ | refine W.skip ?_ | refine W.exit ?_))
       refine W.regionK tab_ok 0 (by decide) ?_
       refine runk_split 7 zb8q14 ?_
       refine runk_call rfl rfl rfl rfl rfl (by simp) (cvs_cons (cv_own rfl) (cvs_cons cv_refl cvs_nil)) (stn _) ?_
       refine xe0 ?_
       by_cases q3 : k ∈ B'
       ·refine W.cond rfl (fun h => absurd h (by simp [q3])) (fun _ => ?_)
        repeat (first | refine W.seq ?_ | refine W.block ?_ | refine W.skip ?_ | refine W.exit ?_ | refine W.g ?_)
        refine ⟨j + 1, hlt2, by omega, ?_⟩
        rw [htk2, hnb, hns, if_neg (by simp [q3])]
        refine le_L ?sle ?mle (kept_not hkeep)
        case mle => repeat (first | exact mle_nil _ | exact mle_refl _ | refine mle_upd ?_ zb8q37)
        case sle => repeat (first | exact sle_top _ | exact sle_refl _ | refine sle_upd ?_ zb8q30)
       ·refine W.cond rfl (fun _ => ?_) (fun h => absurd h (by simp [q3]))
        (repeat (first | refine W.seq ?_ | refine W.block ?_ | refine W.skip ?_ | refine W.exit ?_))
        refine W.regionK tab_ok 0 (by decide) ?_
        refine xs0 3 ?_
        refine runk_append tab_ok 100 rfl rfl rfl rfl rfl rfl rfl rfl zb8q20 rfl rfl rfl rfl (nokeep hkeep) (fun z hz => by simp at hz; subst hz; rfl) zb8q47 (by decide) ?_
        refine xe0 ?_
        repeat (first | refine W.seq ?_ | refine W.block ?_ | refine W.skip ?_ | refine W.exit ?_ | refine W.g ?_)
        refine ⟨j + 1, hlt2, by omega, ?_⟩
        rw [htk2, hnb, hns, if_pos ⟨q2, q3⟩]
        refine le_L ?sle ?mle (kept_not hkeep)
        case mle => repeat (first | exact mle_nil _ | exact mle_refl _ | refine mle_upd ?_ (by first | rfl | (simp only [upd_app, killM_app, Nat.reduceEqDiff, reduceIte, wrap_succ (show j + 1 < 9223372036854775808 by omega), List.map_append, List.map_cons, List.map_nil, cN]; done)))
        case sle => repeat (first | exact sle_top _ | exact sle_refl _ | refine sle_upd ?_ (by first | rfl | (simp only [upd_app, entry_zero, entry_succ, Nat.reduceEqDiff, reduceIte, wrap_succ (show j + 1 < 9223372036854775808 by omega), List.map_append, List.map_cons, List.map_nil, cN]; done)))
      ·have p2 := eq_false q2
       repeat (first | refine W.seq ?_ | refine W.block ?_ | refine W.skip ?_ | refine W.exit ?_ | refine W.g ?_ zb8q14)
       refine W.cond rfl (fun h => absurd h (by simp)) (fun _ => ?_)
       repeat (first | refine W.seq ?_ | refine W.block ?_ | refine W.skip ?_ | refine W.exit ?_ | refine W.g ?_)
       refine ⟨j + 1, hlt2, by omega, ?_⟩
       rw [htk2, hnb, hns, if_neg (fun h => q2 h.1)]
       refine le_L ?sle ?mle (kept_not hkeep)
       case mle => repeat (first | exact mle_nil _ | exact mle_refl _ | refine mle_upd ?_ zb8q37)
       case sle => repeat (first | exact sle_top _ | exact sle_refl _ | refine sle_upd ?_ zb8q30)
     ·refine W.cond rfl (fun _ => ?_) (fun h => absurd h (by simp; omega))
      repeat (first | refine W.seq ?_ | refine W.block ?_ | refine W.skip ?_ | refine W.exit ?_ | refine W.g ?_)
      refine ⟨j + 1, hlt2, by omega, ?_⟩
      rw [htk2, hnb, nbS, if_neg c0]
      refine le_L ?sle ?mle (kept_not hkeep)
      case mle => repeat (first | exact mle_nil _ | exact mle_refl _ | refine mle_upd ?_ zb8q37)
      case sle => repeat (first | exact sle_top _ | exact sle_refl _ | refine sle_upd ?_ zb8q30)
    ·intro hge2
     simp only [decide_eq_false_iff_not, Int.ofNat_lt] at hge2
     obtain rfl : j = os.length := by omega
     rw [List.take_length]
     repeat (first | refine W.seq ?_ | refine W.block ?_ | refine W.skip ?_ | refine W.exit ?_ | refine W.g ?_)
     refine ⟨i + 1, hlt, by omega, ?_⟩
     rw [htk, onw_snoc, ← hL0, ← hos]
     refine le_L ?sle ?mle (kept_not hkeep)
     case mle => repeat (first | exact mle_nil _ | exact mle_refl _ | refine mle_upd ?_ (by first | rfl | (simp only [upd_app, killM_app, Nat.reduceEqDiff, reduceIte, wrap_succ (show i + 1 < 9223372036854775808 by omega)]; done)))
     case sle => repeat (first | exact sle_top _ | exact sle_refl _ | refine sle_upd ?_ (by first | rfl | (simp only [upd_app, entry_zero, entry_succ, Nat.reduceEqDiff, reduceIte, wrap_succ (show i + 1 < 9223372036854775808 by omega)]; done)))
  ·intro hge
   simp only [decide_eq_false_iff_not, Int.ofNat_lt] at hge
   obtain rfl : i = l.length := by omega
   rw [List.take_length]
   repeat (first | refine W.seq ?_ | refine W.block ?_ | refine W.skip ?_ | refine W.exit ?_ | refine W.g ?_)
   refine W.ret ⟨.inr rfl, by rfl, ?_⟩
   simp only [Try.f63, resA, resOne, toT, fin, exb, Nat.reduceAdd, Nat.reduceLeDiff, Nat.reduceEqDiff, Nat.reduceMul, Int.reduceToNat, reduceIte, Int.reduceLE, Int.reduceNeg]
end V
end Go.Proofs.Ytmhchhmhpoldhaa
end
section
namespace Go.Proofs.Ytmhchhmhpoldhaa
namespace V
open Go.RowKit G
theorem killM_upd (id : Nat) (m : Mem) (j : Nat) (o : Option O) : killM id (upd m j o) = upd (killM id m) j (o.map (O.kill id)) := by
 funext i
 unfold upd
 rw [killM_app]
 split
 ·rfl
 ·rfl
set_option maxHeartbeats 8000000 in
theorem path_ok (N : Nat) (hN : 0 < N) (hN2 : N ≤ 200000) (S : List (Nat × Nat)) (hlen : S.length ≤ 1000000) (hS : ∀ e ∈ S, e.1 < N ∧ e.2 < N) (T : List Nat) (F : Nat → Nat) (hF : ∀ i, F i ≤ N) (hFD : ∀ i, i < N → ∀ v, F i = v + 1 ↔ Ms.Dst S T i v) (zs : List Nat) (hz : ∀ z ∈ zs, z < N) (hzl : zs.length ≤ 1000000) (M : Mem) (id : Nat) (hid : 50 ≤ id) (hM : M id = some (.mrow 3 1 ((zN zs).map cI))) (hkM : killM id M = M) (hM4 : ∀ j, j < 50 → M j = none) :
  CallE Try.prog 44 [.c (.sl (tabU S N)), .c (.sl (rowF N F)), .own id] M [id] (.c (.sl ((pathR S T F zs).map cN))) (upd M id (some (.arr 3 1 []))) := by
 refine (ok_eff tab_ok [id] Try.func44 (by kernel_rfl) rfl rfl (by rfl) (by rfl) ?ids ?res ?sub ?wfm (fun hWF Rr hkeep => ?_))
 case ids => intro a ha j hj; simp at ha; rcases ha with rfl | rfl | rfl <;> simp [A.ids] at hj; subst hj; rw [hM]; rfl
 case res => intro j hj; simp [A.ids] at hj
 case sub => exact fun j hj => live_upd j hj
 case wfm => exact fun hw => mwf_some hw (fun i hi => by simp [O.ids] at hi)
 have nk : ¬ Rr.keep id := by rw [hkeep]; exact fun h => h.2 (by simp)
 have hM4' : M 4 = none := hM4 4 (by decide)
 have hM30 : M 30 = none := hM4 30 (by decide)
 have hM40 : M 40 = none := hM4 40 (by decide)
 have hid4 : ¬ (id = 4) := by omega
 have hid4' : ¬ (4 = id) := by omega
 have hid30 : ¬ (id = 30) := by omega
 have hid30' : ¬ (30 = id) := by omega
 have hid40 : ¬ (id = 40) := by omega
 have hid40' : ¬ (40 = id) := by omega
 (repeat (first | refine W.seq ?_ | refine W.block ?_ | refine W.skip ?_ | refine W.exit ?_))
 refine W.g ?_ (by simp only [exb, Nat.reduceAdd, Nat.reduceLeDiff, Nat.reduceEqDiff, Nat.reduceMul, Int.reduceToNat, reduceIte, Int.reduceLE, Int.reduceNeg, hM4']; rfl)
 refine W.scope ?_
 (repeat (first | refine W.seq ?_ | refine W.block ?_ | refine W.skip ?_ | refine W.exit ?_))
 refine W.regionK tab_ok 0 (by decide) ?_
 refine xs0 2 ?_
 refine runk_callE (D := [id]) rfl rfl rfl rfl rfl (fun j hj => by simp at hj; subst hj; exact nk) (by simp) (cvs_cons cv_refl (cvs_cons cv_refl cvs_nil)) (del_ok N hN F zs hz (by omega) _ id 4 (by simp only [upd_app, hid4, if_false]; exact hM) (by simp only [upd_app, if_true]; rfl) hid4) ?_
 simp only [killL, putS, upd_upd]
 refine xe0 ?_
 obtain ⟨zf, hzf⟩ : ∃ l, l = zs.filter (fun z => !decide (F z = 0)) := ⟨_, rfl⟩
 have hzfN : ∀ z ∈ zf, z < N := fun z h => by rw [hzf] at h; exact hz z (List.mem_filter.1 h).1
 have hzfl : zf.length ≤ 1000000 := by rw [hzf]; exact Nat.le_trans (List.length_filter_le _ _) hzl
 rw [← hzf]
 refine W.freeze 2 id rfl zb8q33 nk ?_
 obtain ⟨M1, hM1⟩ : ∃ M1, M1 = upd M id (some (.arr 3 1 [])) := ⟨_, rfl⟩
 have hWF1 : WFm M1 := by rw [hM1]; exact mwf_some hWF (fun i hi => by simp [O.ids] at hi)
 have kp1 : ∀ j, Rr.keep j → (M1 j).isSome = true := fun j hj => by rw [hkeep] at hj; rw [hM1]; exact live_upd j hj.1
 have n4 : M1 4 = none := by rw [hM1, upd_ne _ _ hid4']; exact hM4'
 have n30 : M1 30 = none := by rw [hM1, upd_ne _ _ hid30']; exact hM30
 have n40 : M1 40 = none := by rw [hM1, upd_ne _ _ hid40']; exact hM40
 have hk30 : killM 30 M1 = M1 := kill_free hWF1 n30
 have hk40 : killM 40 M1 = M1 := kill_free hWF1 n40
 have nk30 : ¬ Rr.keep 30 := fun h => by rw [hkeep, hM30] at h; simp at h
 have nk40 : ¬ Rr.keep 40 := fun h => by rw [hkeep, hM40] at h; simp at h
 have hmem : upd (killM id (upd (killM id (upd M 4 (some (.box 23 [.c (.sl (rowF N F))])))) id (some (.mrow 3 1 ((zN zf).map cI))))) id (some (.arr 3 1 [])) = upd M1 4 (some (.box 23 [.c (.sl (rowF N F))])) := by
  rw [hM1, upd_comm _ _ _ hid4]
  simp only [killM_upd, hkM, upd_upd, Option.map_some, O.kill, A.kill, List.map_cons, List.map_nil]
 refine W.weaken (st' := ⟨upd (upd (upd (upd (fun _ => .top) 0 (.c (.sl (tabU S N)))) 2 (.c (.sl (zf.map cN)))) 4 (.ptr 4 0)) 6 .nil, upd M1 4 (some (.box 23 [.c (.sl (rowF N F))]))⟩) ?_ ?_
 ·refine le_mk ?sle ?mle ?swf ?mwf (fun j hj => live_upd j (kp1 j hj)) (by rfl)
  case swf => repeat (first | exact swf_top _ | refine swf_upd ?_ (by simp [A.ids, upd_app]))
  case mwf => exact mwf_some hWF1 (fun i hi => by simp [O.ids, A.ids] at hi)
  case sle => repeat (first | exact sle_top _ | exact sle_refl _ | refine sle_upd ?_ (by first | rfl | (simp only [upd_app, killS_app, A.kill, entry_zero, entry_succ, Nat.reduceEqDiff, reduceIte, cI_zN, hid4, hid4']; done)))
  case mle => exact mle_refl' hmem
 repeat (first | refine W.seq ?_ | refine W.block ?_ | refine W.skip ?_ | refine W.exit ?_ | refine W.g ?_ zb8q19)
 unfold pathR
 rw [← hzf]
 rcases zf with _ | ⟨z0, zr⟩
 ·refine W.cond rfl (fun _ => ?_) (fun h => absurd h (by simp))
  repeat (first | refine W.seq ?_ | refine W.block ?_ | refine W.skip ?_ | refine W.exit ?_ | refine W.g ?_)
  refine W.asData 6 (x := .sl []) rfl ?_ (by decide)
  refine W.ret ⟨.inr rfl, by rfl, ?_, ?mle⟩
  simp only [Try.f44, resE, resOne, fin, toT, exb, Nat.reduceAdd, Nat.reduceLeDiff, Nat.reduceEqDiff, Nat.reduceMul, Int.reduceToNat, reduceIte, Int.reduceLE, Int.reduceNeg]
  case mle => exact mle_skip (mle_refl' hM1) (by rw [← hM1]; exact n4)
 refine W.cond rfl (fun h => absurd h (by simp; omega)) (fun _ => ?_)
 have hx0N : z0 < N := hzfN z0 (by simp)
 have hzrN : ∀ y ∈ zr, y < N := fun y hy => hzfN y (by simp [hy])
 have hzrl : zr.length ≤ 1000000 := by simp only [List.length_cons] at hzfl; omega
 obtain ⟨mg1, mg2, mg3⟩ := minG_spec F zr z0
 have hmgN := minG_lt (F := F) hx0N hzrN
 have hmgm : minG F z0 zr ∈ z0 :: zr := mg1.elim (fun h => by rw [h]; simp) fun h => by simp [h]
 have hmgF : F (minG F z0 zr) ≠ 0 := by
  have h : minG F z0 zr ∈ zs.filter (fun z => !decide (F z = 0)) := by rw [← hzf]; exact hmgm
  have := (List.mem_filter.1 h).2
  simpa using this
 have hmin := fun m => minF_ok N F (fun i => by have := hF i; omega) z0 zr hx0N hzrN (by omega) m
 obtain ⟨g, hg⟩ : ∃ g, g = minG F z0 zr := ⟨_, rfl⟩
 rw [← hg] at hmgN hmgm hmgF hmin
 simp only
 rw [← hg]
 obtain ⟨v0, hv0⟩ : ∃ v, F g = v + 1 := ⟨F g - 1, by omega⟩
 have hd0 := (hFD g hmgN v0).1 hv0
 have hv0N : v0 < N := by have := hF g; omega
 have hg0 : (0 : Int) ≤ (g : Int) := by omega
 rw [show F g - 1 = v0 by omega]
 obtain ⟨zf, hzf2⟩ : ∃ zf, zf = z0 :: zr := ⟨_, rfl⟩
 rw [← hzf2] at hmgm hmin hzfN hzfl ⊢
 (repeat (first | refine W.seq ?_ | refine W.block ?_ | refine W.skip ?_ | refine W.exit ?_))
 refine W.regionDK tab_ok 0 follows_mixed (by kernel_rfl) (by decide) ?_
 refine xs0 3 ?_
 refine runk_callR rfl rfl rfl rfl rfl (by simp) (cvrs_cons cvr_refl (cvrs_cons (cvr_fn (caps_one rfl rfl)) cvrs_nil)) (by rfl) (by rfl) hmin ?_
 refine runk_exec (by simp only [exb, Nat.reduceAdd, Nat.reduceLeDiff, Nat.reduceEqDiff, Nat.reduceMul, Int.reduceToNat, reduceIte, Int.reduceLE, Int.reduceNeg, rowF_at hmgN, rowF_len, hmgN, hg0, Int.toNat_natCast, and_self]; rfl) ?_
 (repeat (first | refine W.seq ?_ | refine W.block ?_ | refine W.skip ?_ | refine W.exit ?_))
 refine W.label ?_
 repeat (first | refine W.seq ?_ | refine W.block ?_ | refine W.skip ?_ | refine W.exit ?_ | refine W.g ?_)
 refine W.newArr 6 30 3 1 rfl (by simp only [upd_app, Nat.reduceEqDiff, reduceIte]; exact n30) ?_
 refine W.loop (ι := Nat × List Nat × List Nat) (fun x => ⟨upd (upd (upd (upd (upd (fun _ => .top) 0 (.c (.sl (tabU S N)))) 2 (.c (.sl ((x.2.1).map cN)))) 4 (.ptr 4 0)) 6 (.own 30)) 8 (.c (.int .i64 ((x.1 + 1 : Nat) : Int))), upd (upd M1 4 (some (.box 23 [.c (.sl (rowF N F))]))) 30 (some (.arr 3 1 ((x.2.2).map cN)))⟩)
  (fun x => x.1 < N ∧ (∀ i ∈ x.2.1, i < N) ∧ x.2.1.length ≤ 1000000 ∧ (∃ i, i ∈ x.2.1 ∧ Ms.Dst S T i x.1) ∧ x.2.2 ++ pathP S T x.1 (· ∈ x.2.1) = pathP S T v0 (· ∈ zf) ∧ x.2.2.length + x.1 = v0) (fun x => x.1) (v0, zf, []) ?start ⟨hv0N, hzfN, hzfl, ⟨g, hmgm, hd0⟩, rfl, by simp⟩ ?round
 case start =>
  simp only [← hv0]
  refine le_mk ?sle ?mle ?swf ?mwf (fun j hj => live_upd j (live_upd j (kp1 j hj))) (by rfl)
  case swf => repeat (first | exact swf_top _ | refine swf_upd ?_ (by simp [A.ids, upd_app]))
  case mwf => repeat (first | exact mwf_base hWF1 (fun i hi => by repeat (first | exact hi | refine live_upd i ?_)) | refine mwf_upd ?_ zb8q50)
  case sle => repeat (first | exact sle_top _ | exact sle_refl _ | refine sle_upd ?_ zb8q39)
  case mle => exact mle_refl _
 case round =>
  rintro ⟨v, nw, out⟩ ⟨i1, i2, i3, i4, i5, i6⟩
  simp only at i1 i2 i3 i4 i5 i6
  repeat (first | refine W.seq ?_ | refine W.block ?_ | refine W.skip ?_ | refine W.exit ?_ | refine W.g ?_ zb8q19)
  refine W.loop (ι := Nat) (fun k => ⟨upd (upd (upd (upd (upd (upd (upd (upd (upd (fun _ => .top) 0 (.c (.sl (tabU S N)))) 2 (.c (.sl ((nw).map cN)))) 4 (.ptr 4 0)) 6 (.own 30)) 8 (.c (.int .i64 ((v + 1 : Nat) : Int)))) 9 (.c (.int .i64 (lsI F (v + 1) (nw.take k))))) 30 (.c (.sl (nw.map cN)))) 31 (.c (.int .i64 nw.length))) 32 (.c (.int .i64 k)), upd (upd M1 4 (some (.box 23 [.c (.sl (rowF N F))]))) 30 (some (.arr 3 1 ((out).map cN)))⟩) (fun k => k ≤ nw.length) (fun k => nw.length - k) 0 ?start2 (Nat.zero_le _) ?round2
  case start2 =>
   refine le_mk ?sle ?mle ?swf ?mwf (fun j hj => live_upd j (live_upd j (kp1 j hj))) (by rfl)
   case swf => repeat (first | exact swf_top _ | refine swf_upd ?_ (by simp [A.ids, upd_app]))
   case mwf => repeat (first | exact mwf_base hWF1 (fun i hi => by repeat (first | exact hi | refine live_upd i ?_)) | refine mwf_upd ?_ zb8q50)
   case sle => repeat (first | exact sle_top _ | exact sle_refl _ | refine sle_upd ?_ zb8q39)
   case mle => exact mle_refl _
  case round2 =>
   intro k hk
   repeat (first | refine W.seq ?_ | refine W.block ?_ | refine W.skip ?_ | refine W.exit ?_ | refine W.g ?_)
   refine W.cond rfl ?_ ?_
   ·intro hlt
    simp only [decide_eq_true_eq, Int.ofNat_lt] at hlt
    obtain ⟨i, hi⟩ : ∃ x, nw[k]? = some x := ⟨_, List.getElem?_eq_getElem hlt⟩
    have hiN := i2 i (List.mem_of_getElem? hi)
    have hi0 : (0 : Int) ≤ (i : Int) := by omega
    have hq := tdiv_two i
    have hqw : IntKind.i64.wrap ((i / 2 : Nat) : Int) = ((i / 2 : Nat) : Int) := wrap_nat (by omega)
    have htk : lsI F (v + 1) (nw.take (k + 1)) = if F i = v + 1 ∧ (lsI F (v + 1) (nw.take k) < 0 ∨ ((i / 2 : Nat) : Int) < lsI F (v + 1) (nw.take k)) then ((i / 2 : Nat) : Int) else lsI F (v + 1) (nw.take k) := by
     rw [List.take_add_one, hi, Option.toList_some, lsI_snoc]
    obtain ⟨a, ha⟩ : ∃ a, a = lsI F (v + 1) (nw.take k) := ⟨_, rfl⟩
    rw [← ha] at htk ⊢
    (repeat (first | refine W.seq ?_ | refine W.block ?_ | refine W.skip ?_ | refine W.exit ?_))
    refine W.g ?_ zb8q23
    (repeat (first | refine W.seq ?_ | refine W.block ?_ | refine W.skip ?_ | refine W.exit ?_))
    refine W.join (ι := Bool) (fun bb => ⟨upd (upd (upd (upd (upd (upd (upd (upd (upd (upd (upd (fun _ => .top) 0 (.c (.sl (tabU S N)))) 2 (.c (.sl ((nw).map cN)))) 4 (.ptr 4 0)) 6 (.own 30)) 8 (.c (.int .i64 ((v + 1 : Nat) : Int)))) 9 (.c (.int .i64 a))) 11 (.c (.int .i64 i))) 30 (.c (.sl (nw.map cN)))) 31 (.c (.int .i64 nw.length))) 32 (.c (.int .i64 k))) 51 (.c (.bool bb)), upd (upd M1 4 (some (.box 23 [.c (.sl (rowF N F))]))) 30 (some (.arr 3 1 ((out).map cN)))⟩) (fun bb => bb = decide (F i = v + 1 ∧ (a < 0 ∨ ((i / 2 : Nat) : Int) < a))) ?_ ?_
    ·have rF := rowF_at (n := N) (F := F) hiN
     have rl := rowF_len N F
     by_cases c0 : F i = v + 1
     ·have p0 : ((F i : Int) = ((v + 1 : Nat) : Int)) = True := eq_true (by omega)
      by_cases c1 : a < 0
      ·have p1 := eq_true c1
       repeat (first | refine W.seq ?_ | refine W.block ?_ | refine W.skip ?_ | refine W.exit ?_ | refine W.g ?_ zb8q6)
       refine ⟨rfl, fun c K' hk => W.weaken ?_ (hk true (by simp [c0, c1]))⟩
       refine le_mk ?sle ?mle ?swf ?mwf (fun j hj => live_upd j (live_upd j (kp1 j hj))) (by rfl)
       case swf => repeat (first | exact swf_top _ | refine swf_upd ?_ (by simp [A.ids, upd_app]))
       case mwf => repeat (first | exact mwf_base hWF1 (fun i hi => by repeat (first | exact hi | refine live_upd i ?_)) | refine mwf_upd ?_ zb8q50)
       case sle => repeat (first | exact sle_top _ | exact sle_refl _ | refine sle_upd ?_ zb8q39)
       case mle => exact mle_refl _
      ·have p1 := eq_false c1
       repeat (first | refine W.seq ?_ | refine W.block ?_ | refine W.skip ?_ | refine W.exit ?_ | refine W.g ?_ zb8q6)
       refine ⟨rfl, fun c K' hk => W.weaken ?_ (hk (decide (((i / 2 : Nat) : Int) < a)) (by simp [c0, c1]))⟩
       refine le_mk ?sle ?mle ?swf ?mwf (fun j hj => live_upd j (live_upd j (kp1 j hj))) (by rfl)
       case swf => repeat (first | exact swf_top _ | refine swf_upd ?_ (by simp [A.ids, upd_app]))
       case mwf => repeat (first | exact mwf_base hWF1 (fun i hi => by repeat (first | exact hi | refine live_upd i ?_)) | refine mwf_upd ?_ zb8q50)
       case sle => repeat (first | exact sle_top _ | exact sle_refl _ | refine sle_upd ?_ zb8q39)
       case mle => exact mle_refl _
     ·have p0 : ((F i : Int) = ((v + 1 : Nat) : Int)) = False := eq_false (by omega)
      repeat (first | refine W.seq ?_ | refine W.block ?_ | refine W.skip ?_ | refine W.exit ?_ | refine W.g ?_ zb8q7)
      refine ⟨rfl, fun c K' hk => W.weaken ?_ (hk false (by simp [c0]))⟩
      refine le_mk ?sle ?mle ?swf ?mwf (fun j hj => live_upd j (live_upd j (kp1 j hj))) (by rfl)
      case swf => repeat (first | exact swf_top _ | refine swf_upd ?_ (by simp [A.ids, upd_app]))
      case mwf => repeat (first | exact mwf_base hWF1 (fun i hi => by repeat (first | exact hi | refine live_upd i ?_)) | refine mwf_upd ?_ zb8q50)
      case sle => repeat (first | exact sle_top _ | exact sle_refl _ | refine sle_upd ?_ zb8q39)
      case mle => exact mle_refl _
    rintro bb hbb
    refine W.cond rfl ?_ ?_
    ·intro h
     have h : bb = true := h
     rw [h] at hbb
     repeat (first | refine W.seq ?_ | refine W.block ?_ | refine W.skip ?_ | refine W.exit ?_ | refine W.g ?_ zb8q17)
     refine ⟨k + 1, hlt, by omega, ?_⟩
     rw [htk, if_pos (of_decide_eq_true hbb.symm)]
     refine le_mk ?sle ?mle ?swf ?mwf (fun j hj => live_upd j (live_upd j (kp1 j hj))) (by rfl)
     case swf => repeat (first | exact swf_top _ | refine swf_upd ?_ zb8q46)
     case mwf => repeat (first | exact mwf_base hWF1 (fun i hi => by repeat (first | exact hi | refine live_upd i ?_)) | refine mwf_upd ?_ zb8q43)
     case sle => repeat (first | exact sle_top _ | exact sle_refl _ | refine sle_upd ?_ zb8q16)
     case mle => exact mle_refl _
    ·intro h
     have h : bb = false := h
     rw [h] at hbb
     repeat (first | refine W.seq ?_ | refine W.block ?_ | refine W.skip ?_ | refine W.exit ?_ | refine W.g ?_)
     refine ⟨k + 1, hlt, by omega, ?_⟩
     rw [htk, if_neg (of_decide_eq_false hbb.symm)]
     refine le_mk ?sle ?mle ?swf ?mwf (fun j hj => live_upd j (live_upd j (kp1 j hj))) (by rfl)
     case swf => repeat (first | exact swf_top _ | refine swf_upd ?_ zb8q46)
     case mwf => repeat (first | exact mwf_base hWF1 (fun i hi => by repeat (first | exact hi | refine live_upd i ?_)) | refine mwf_upd ?_ zb8q43)
     case sle => repeat (first | exact sle_top _ | exact sle_refl _ | refine sle_upd ?_ zb8q16)
     case mle => exact mle_refl _
   ·intro hge
    simp only [decide_eq_false_iff_not, Int.ofNat_lt] at hge
    obtain rfl : k = nw.length := by omega
    rw [List.take_length, lsI_eq hFD i2 i4]
    obtain ⟨q, hqe⟩ : ∃ q, q = lst (cand S T v (· ∈ nw)) := ⟨_, rfl⟩
    rw [← hqe]
    (repeat (first | refine W.seq ?_ | refine W.block ?_ | refine W.skip ?_ | refine W.exit ?_))
    refine W.regionK tab_ok 0 (by decide) ?_
    refine xs0 3 ?_
    refine runk_append tab_ok 30 rfl rfl rfl rfl rfl rfl zb8q35 zb8q33 zb8q20 rfl rfl rfl rfl nk30 (fun z hz => by simp at hz; subst hz; rfl) zb8q47 (by decide) ?_
    refine xe0 ?_
    have hpm : (out ++ [q]).map cN = out.map cN ++ [[.int .i64 (q : Int)]] := by simp [cN]
    refine W.weaken (st' := ⟨upd (upd (upd (upd (upd (upd (fun _ => .top) 0 (.c (.sl (tabU S N)))) 2 (.c (.sl ((nw).map cN)))) 4 (.ptr 4 0)) 6 (.own 30)) 8 (.c (.int .i64 ((v + 1 : Nat) : Int)))) 9 (.c (.int .i64 (q : Int))), upd (upd M1 4 (some (.box 23 [.c (.sl (rowF N F))]))) 30 (some (.arr 3 1 (((out ++ [q])).map cN)))⟩) ?_ ?_
    ·skip
     refine le_mk ?sle ?mle ?swf ?mwf (fun j hj => live_upd j (live_upd j (kp1 j hj))) (by rfl)
     case swf => repeat (first | exact swf_top _ | refine swf_upd ?_ (by simp [A.ids, upd_app]))
     case mwf => repeat (first | exact mwf_base hWF1 (fun i hi => by repeat (first | exact hi | refine live_upd i ?_)) | refine mwf_upd ?_ zb8q50)
     case sle => repeat (first | exact sle_top _ | exact sle_refl _ | refine sle_upd ?_ zb8q39)
     case mle => exact mle_refl' (by rw [hpm]; (simp only [killM_upd, hk30, hk40, upd_upd, Option.map_some, O.kill, A.kill, List.map_cons, List.map_nil, List.map_append]))
    repeat (first | refine W.seq ?_ | refine W.block ?_ | refine W.skip ?_ | refine W.exit ?_ | refine W.g ?_)
    cases v with
    | zero =>
     refine W.cond rfl (fun _ => ?_) (fun h => absurd h (by simp))
     repeat (first | refine W.seq ?_ | refine W.block ?_ | refine W.skip ?_ | refine W.exit ?_ | refine W.g ?_)
     have i5' : out ++ [q] = pathP S T v0 (· ∈ zf) := by rw [← i5, hqe]; rfl
     refine W.asData 6 (x := .sl ((out ++ [q]).map cN)) rfl ?_ (by decide)
     refine W.ret ⟨.inr rfl, by rfl, ?_, ?mle⟩
     simp only [Try.f44, resE, resOne, fin, toT, exb, Nat.reduceAdd, Nat.reduceLeDiff, Nat.reduceEqDiff, Nat.reduceMul, Int.reduceToNat, reduceIte, Int.reduceLE, Int.reduceNeg]
     ·rw [i5']
     case mle => exact mle_skip (mle_skip (mle_refl' hM1) (by rw [← hM1]; exact n4)) (by rw [← hM1]; exact n30)
    | succ v =>
     refine W.cond rfl (fun h => absurd h (by simp; omega)) (fun _ => ?_)
     have h1 : nw.length * S.length ≤ 1000000 * 1000000 := Nat.mul_le_mul i3 hlen
     have hxl : ∀ k, (nx S F (v + 2) q (nw.take k)).length ≤ 1000000 * 1000000 := fun k => by
      refine Nat.le_trans (nx_len S F (v + 2) q (fun i => outs_len S i) _) (Nat.le_trans (Nat.mul_le_mul_right _ (List.length_take_le' k nw)) h1)
     repeat (first | refine W.seq ?_ | refine W.block ?_ | refine W.skip ?_ | refine W.exit ?_ | refine W.g ?_ zb8q19)
     refine W.newM 12 40 3 1 rfl (by simp only [upd_app, Nat.reduceEqDiff, reduceIte]; exact n40) ?_
     refine W.loop (ι := Nat) (fun k => ⟨upd (upd (upd (upd (upd (upd (upd (upd (upd (upd (fun _ => .top) 0 (.c (.sl (tabU S N)))) 2 (.c (.sl ((nw).map cN)))) 4 (.ptr 4 0)) 6 (.own 30)) 8 (.c (.int .i64 ((v + 1 + 1 : Nat) : Int)))) 9 (.c (.int .i64 (q : Int)))) 12 (.own 40)) 61 (.c (.sl (nw.map cN)))) 62 (.c (.int .i64 nw.length))) 63 (.c (.int .i64 k)), upd (upd (upd M1 4 (some (.box 23 [.c (.sl (rowF N F))]))) 30 (some (.arr 3 1 (((out ++ [q])).map cN)))) 40 (some (.mrow 3 1 ((nx S F (v + 2) q (nw.take k)).map cN)))⟩) (fun k => k ≤ nw.length) (fun k => nw.length - k) 0 ?start3 (Nat.zero_le _) ?round3
     case start3 =>
      refine le_mk ?sle ?mle ?swf ?mwf (fun j hj => live_upd j (live_upd j (live_upd j (kp1 j hj)))) (by rfl)
      case swf => repeat (first | exact swf_top _ | refine swf_upd ?_ (by simp [A.ids, upd_app]))
      case mwf => repeat (first | exact mwf_base hWF1 (fun i hi => by repeat (first | exact hi | refine live_upd i ?_)) | refine mwf_upd ?_ zb8q50)
      case sle => repeat (first | exact sle_top _ | exact sle_refl _ | refine sle_upd ?_ zb8q39)
      case mle => exact mle_refl _
     case round3 =>
      intro k hk
      repeat (first | refine W.seq ?_ | refine W.block ?_ | refine W.skip ?_ | refine W.exit ?_ | refine W.g ?_)
      refine W.cond rfl ?_ ?_
      ·intro hlt
       simp only [decide_eq_true_eq, Int.ofNat_lt] at hlt
       obtain ⟨i, hi⟩ : ∃ x, nw[k]? = some x := ⟨_, List.getElem?_eq_getElem hlt⟩
       have hiN := i2 i (List.mem_of_getElem? hi)
       have hi0 : (0 : Int) ≤ (i : Int) := by omega
       have hq := tdiv_two i
       have hqw : IntKind.i64.wrap ((i / 2 : Nat) : Int) = ((i / 2 : Nat) : Int) := wrap_nat (by omega)
       have rF := rowF_at (n := N) (F := F) hiN
       have rl := rowF_len N F
       have htk : (nx S F (v + 2) q (nw.take (k + 1))).map cN = (nx S F (v + 2) q (nw.take k)).map cN ++ (if ((i / 2 : Nat) : Int) = q ∧ F i = v + 2 then (outs S i).map cN else []) := by
        rw [List.take_add_one, hi, Option.toList_some, nx_snoc, List.map_append]
        congr 1
        split <;> rfl
       have hxk := hxl k
       have hol := outs_len S i
       obtain ⟨X, hX⟩ : ∃ X, X = nx S F (v + 2) q (nw.take k) := ⟨_, rfl⟩
       rw [← hX] at htk hxk ⊢
       (repeat (first | refine W.seq ?_ | refine W.block ?_ | refine W.skip ?_ | refine W.exit ?_))
       refine W.g ?_ zb8q23
       by_cases c0 : ((i / 2 : Nat) : Int) = q ∧ F i = v + 2
       ·have p0 : (((i / 2 : Nat) : Int) = (q : Int)) = True := eq_true c0.1
        have p1 : ((F i : Int) = ((v + 1 + 1 : Nat) : Int)) = True := eq_true (by omega)
        repeat (first | refine W.seq ?_ | refine W.block ?_ | refine W.skip ?_ | refine W.exit ?_ | refine W.g ?_ zb8q6)
        refine W.cond rfl (fun _ => ?_) (fun h => absurd h (by simp))
        (repeat (first | refine W.seq ?_ | refine W.block ?_ | refine W.skip ?_ | refine W.exit ?_))
        refine W.regionK tab_ok 0 (by decide) ?_
        refine runk_split 5 zb8q9 ?_
        refine runk_appendM tab_ok 40 rfl rfl rfl rfl rfl rfl (by simp only [exb, Nat.reduceAdd, Nat.reduceLeDiff, Nat.reduceEqDiff, Nat.reduceMul, Int.reduceToNat, reduceIte, Int.reduceLE, Int.reduceNeg, tabU_at hiN, tabU_len, hiN, hi0, Int.toNat_natCast, and_self]) zb8q9 (by first | rfl | (simp only [exb, Nat.reduceAdd, Nat.reduceLeDiff, Nat.reduceEqDiff, Nat.reduceMul, Int.reduceToNat, reduceIte, Int.reduceLE, Int.reduceNeg, tabU_at hiN, tabU_len, hiN, hi0, Int.toNat_natCast, and_self]; rfl)) rfl rfl rfl rfl nk40 (fun z hz => by obtain ⟨y, -, rfl⟩ := List.mem_map.1 hz; rfl) (by simp only [List.length_map]; omega) (by decide) ?_
        refine xe0 ?_
        repeat (first | refine W.seq ?_ | refine W.block ?_ | refine W.skip ?_ | refine W.exit ?_ | refine W.g ?_)
        refine ⟨k + 1, hlt, by omega, ?_⟩
        rw [htk, if_pos c0]
        refine le_mk ?sle ?mle ?swf ?mwf (fun j hj => live_upd j (live_upd j (live_upd j (kp1 j hj)))) (by rfl)
        case swf => repeat (first | exact swf_top _ | refine swf_upd ?_ zb8q46)
        case mwf => repeat (first | exact mwf_base hWF1 (fun i hi => by repeat (first | exact hi | refine live_upd i ?_)) | refine mwf_upd ?_ zb8q43)
        case sle => repeat (first | exact sle_top _ | exact sle_refl _ | refine sle_upd ?_ zb8q16)
        case mle => exact mle_refl' (by (simp only [killM_upd, hk30, hk40, upd_upd, Option.map_some, O.kill, A.kill, List.map_cons, List.map_nil, List.map_append]))
       ·have fin : ∀ bb : Bool, bb = false → True := fun _ _ => trivial
        by_cases c1 : ((i / 2 : Nat) : Int) = q
        ·have p0 : (((i / 2 : Nat) : Int) = (q : Int)) = True := eq_true c1
         have p1 : ((F i : Int) = ((v + 1 + 1 : Nat) : Int)) = False := eq_false (fun h => c0 ⟨c1, by omega⟩)
         repeat (first | refine W.seq ?_ | refine W.block ?_ | refine W.skip ?_ | refine W.exit ?_ | refine W.g ?_ zb8q6)
         refine W.cond rfl (fun h => absurd h (by simp)) (fun _ => ?_)
         repeat (first | refine W.seq ?_ | refine W.block ?_ | refine W.skip ?_ | refine W.exit ?_ | refine W.g ?_)
         refine ⟨k + 1, hlt, by omega, ?_⟩
         rw [htk, if_neg c0, List.append_nil]
         refine le_mk ?sle ?mle ?swf ?mwf (fun j hj => live_upd j (live_upd j (live_upd j (kp1 j hj)))) (by rfl)
         case swf => repeat (first | exact swf_top _ | refine swf_upd ?_ zb8q46)
         case mwf => repeat (first | exact mwf_base hWF1 (fun i hi => by repeat (first | exact hi | refine live_upd i ?_)) | refine mwf_upd ?_ zb8q43)
         case sle => repeat (first | exact sle_top _ | exact sle_refl _ | refine sle_upd ?_ zb8q16)
         case mle => exact mle_refl _
        ·have p0 : (((i / 2 : Nat) : Int) = (q : Int)) = False := eq_false c1
         repeat (first | refine W.seq ?_ | refine W.block ?_ | refine W.skip ?_ | refine W.exit ?_ | refine W.g ?_ zb8q7)
         refine W.cond rfl (fun h => absurd h (by simp)) (fun _ => ?_)
         repeat (first | refine W.seq ?_ | refine W.block ?_ | refine W.skip ?_ | refine W.exit ?_ | refine W.g ?_)
         refine ⟨k + 1, hlt, by omega, ?_⟩
         rw [htk, if_neg c0, List.append_nil]
         refine le_mk ?sle ?mle ?swf ?mwf (fun j hj => live_upd j (live_upd j (live_upd j (kp1 j hj)))) (by rfl)
         case swf => repeat (first | exact swf_top _ | refine swf_upd ?_ zb8q46)
         case mwf => repeat (first | exact mwf_base hWF1 (fun i hi => by repeat (first | exact hi | refine live_upd i ?_)) | refine mwf_upd ?_ zb8q43)
         case sle => repeat (first | exact sle_top _ | exact sle_refl _ | refine sle_upd ?_ zb8q16)
         case mle => exact mle_refl _
      ·intro hge
       simp only [decide_eq_false_iff_not, Int.ofNat_lt] at hge
       obtain rfl : k = nw.length := by omega
       have hxk := hxl nw.length
       rw [List.take_length] at hxk ⊢
       have wv : IntKind.i64.wrap (((v + 1 + 1 : Nat) : Int) - 1) = ((v + 1 : Nat) : Int) := by rw [show (((v + 1 + 1 : Nat) : Int) - 1) = ((v + 1 : Nat) : Int) by omega]; exact wrap_nat (by omega)
       obtain ⟨n1, n2⟩ := path_next hFD i2 i4 (show (q : Int) = _ from by rw [hqe])
       obtain ⟨X, hX⟩ : ∃ X, X = nx S F (v + 2) q nw := ⟨_, rfl⟩
       rw [← hX] at hxk n1 n2 ⊢
       have hXN : ∀ j ∈ cmp X, j < N := fun j hj => by
        obtain ⟨i, -, e⟩ := (n1 j).2 hj
        exact (hS _ e).2
       have hcl : (cmp X).length ≤ N := cmp_len fun j hj => hXN j (mem_cmp.2 hj)
       have hcm : (Lib.compact ((zN X).mergeSort leI)).map cI = (cmp X).map cN := by rw [← zN_cmp, cI_zN]
       (repeat (first | refine W.seq ?_ | refine W.block ?_ | refine W.skip ?_ | refine W.exit ?_))
       refine W.regionK tab_ok 0 (by decide) ?_
       refine xs0 1 ?_
       refine runk_callE (D := []) rfl rfl rfl rfl rfl (fun j hj => by simp at hj) (by simp) (cvs_cons cv_refl cvs_nil) (sort_ok (zN X) (by rw [zN_len]; omega) _ 40 (by rw [cI_zN]; rfl)) ?_
       simp only [killL, putS, upd_upd]
       refine xe0 ?_
       (repeat (first | refine W.seq ?_ | refine W.block ?_ | refine W.skip ?_ | refine W.exit ?_))
       refine W.regionK tab_ok 0 (by decide) ?_
       refine xs0 1 ?_
       refine runk_callE (D := [40]) rfl rfl rfl rfl rfl (fun j hj => by simp at hj; subst hj; exact nk40) (by simp) (cvs_cons cv_refl cvs_nil) (compact_ok ((zN X).mergeSort leI) (by rw [List.length_mergeSort, zN_len]; omega) _ 40 rfl) ?_
       simp only [killL, putS, upd_upd]
       refine xe0 ?_
       rw [hcm]
       refine W.freeze 2 40 rfl zb8q33 nk40 ?_
       repeat (first | refine W.seq ?_ | refine W.block ?_ | refine W.skip ?_ | refine W.exit ?_ | refine W.g ?_)
       refine ⟨(v, cmp X, out ++ [q]), ⟨by omega, hXN, Nat.le_trans hcl (by omega), n2, ?_, by simp; omega⟩, by simp, ?_⟩
       ·rw [← i5, List.append_assoc, List.singleton_append]
        congr 1
        rw [hqe]
        exact (congrArg _ (pathP_congr (fun i => (n1 i).symm) v))
       ·skip
        refine le_mk ?sle ?mle ?swf ?mwf (fun j hj => live_upd j (live_upd j (kp1 j hj))) (by rfl)
        case swf => repeat (first | exact swf_top _ | refine swf_upd ?_ (by simp [A.ids, upd_app, wv]))
        case mwf => repeat (first | exact mwf_base hWF1 (fun i hi => by repeat (first | exact hi | refine live_upd i ?_)) | refine mwf_upd ?_ (by simp [A.ids, O.ids, upd_app, wv]))
        case sle => repeat (first | exact sle_top _ | exact sle_refl _ | refine sle_upd ?_ (by first | rfl | (simp only [upd_app, killS_app, A.kill, entry_zero, entry_succ, Nat.reduceEqDiff, reduceIte, wv]; done)))
        case mle =>
         (simp only [killM_upd, hk30, hk40, upd_upd, Option.map_some, O.kill, A.kill, List.map_cons, List.map_nil, List.map_append])
         exact mle_skip (mle_refl _) (by simp only [upd_app, Nat.reduceEqDiff, reduceIte]; exact n40)
end V
end Go.Proofs.Ytmhchhmhpoldhaa
end
section
namespace Go.Proofs.Ytmhchhmhpoldhaa
namespace V
open Go.RowKit G
set_option maxHeartbeats 8000000 in
theorem walk_ok (N : Nat) (hN : N ≤ 200000) (S : List (Nat × Nat)) (hlen : S.length ≤ 1000000) (hS : ∀ e ∈ S, e.1 < N ∧ e.2 < N) (src : List Nat) (hs : ∀ i ∈ src, 2 * i < N) (hsl : src.length ≤ 1000000) (t : Nat) (ht : 2 * t + 1 < N) (m : Mem) :
  COk Try.prog 45 [.c (.sl (tabU S N)), .c (.sl (tabU (turnL S) N)), .c (.sl (src.map cN)), .c (.int .i64 t)] m (.c (.sl ((walkR S (ends2 t) (Ms.farF S (ends2 t)) src).map cN))) := by
 have hT : ∀ j ∈ ends2 t, j < N := fun j hj => by have := mem_ends2.1 hj; omega
 have hF : ∀ i, Ms.farF S (ends2 t) i ≤ N := Ms.farF_le hS hT
 have hFD : ∀ i, i < N → ∀ v, Ms.farF S (ends2 t) i = v + 1 ↔ Ms.Dst S (ends2 t) i v := fun i _ v => Ms.farF_at
 have hfar := far_ok N hN (turnL S) (by rw [show (turnL S).length = S.length from by simp [turnL]]; exact hlen) (turn_lt hS) (ends2 t) hT (by simp [ends2])
 rw [turn_turn] at hfar
 obtain ⟨F, hFe⟩ : ∃ F, F = Ms.farF S (ends2 t) := ⟨_, rfl⟩
 rw [← hFe] at hF hFD hfar ⊢
 have he2 : (ends2 t).map cN = [[.int .i64 ((2 * t : Nat) : Int)], [.int .i64 ((2 * t + 1 : Nat) : Int)]] := rfl
 rw [he2] at hfar
 have w0 := wrap_two (x := t) (by omega)
 have w01 : IntKind.i64.wrap (((2 * t : Nat) : Int) + 1) = ((2 * t + 1 : Nat) : Int) := wrap_succ (by omega)
 refine (ok_pure tab_ok Try.func45 (by kernel_rfl) rfl rfl (by rfl) (by rfl) (by rfl) (fun R hkeep => ?_) m)
 (repeat (first | refine W.seq ?_ | refine W.block ?_ | refine W.skip ?_ | refine W.exit ?_))
 refine W.g ?_
 (repeat (first | refine W.seq ?_ | refine W.block ?_ | refine W.skip ?_ | refine W.exit ?_))
 refine W.regionK tab_ok 0 (by decide) ?_
 refine runk_split 7 (by simp only [exb, Nat.reduceAdd, Nat.reduceLeDiff, Nat.reduceEqDiff, Nat.reduceMul, Int.reduceToNat, reduceIte, Int.reduceLE, Int.reduceNeg, w0, w01]; rfl) ?_
 refine runk_call rfl rfl rfl rfl rfl (by simp) (cvs_cons cv_refl (cvs_cons cv_refl cvs_nil)) (hfar _) ?_
 refine xe0 ?_
 repeat (first | refine W.seq ?_ | refine W.block ?_ | refine W.skip ?_ | refine W.exit ?_ | refine W.g ?_)
 refine W.loop (ι := Nat) (fun k => ⟨upd (upd (upd (upd (upd (upd (fun _ => .top) 0 (.c (.sl (tabU S N)))) 9 (.c (.sl (rowD N F)))) 10 (.c (.int .i64 (begI (beg F (src.take k)))))) 26 (.c (.sl (src.map cN)))) 27 (.c (.int .i64 src.length))) 28 (.c (.int .i64 k)), Mem.nil⟩) (fun k => k ≤ src.length) (fun k => src.length - k) 0 ?start (Nat.zero_le _) ?round
 case start =>
  refine le_L ?sle ?mle (kept_not hkeep)
  case mle => repeat (first | exact mle_nil _ | exact mle_refl _ | refine mle_upd ?_ zb8q44)
  case sle => repeat (first | exact sle_top _ | exact sle_refl _ | refine sle_upd ?_ zb8q41)
 case round =>
  intro k hkl
  repeat (first | refine W.seq ?_ | refine W.block ?_ | refine W.skip ?_ | refine W.exit ?_ | refine W.g ?_)
  refine W.cond rfl ?_ ?_
  ·intro hlt
   simp only [decide_eq_true_eq, Int.ofNat_lt] at hlt
   obtain ⟨x, hx⟩ : ∃ x, src[k]? = some x := ⟨_, List.getElem?_eq_getElem hlt⟩
   have hxN : 2 * x < N := hs x (List.mem_of_getElem? hx)
   have hx0 : (0 : Int) ≤ ((2 * x : Nat) : Int) := by omega
   have w1 := wrap_two (x := x) (by omega)
   have htk : src.take (k + 1) = src.take k ++ [x] := by rw [List.take_add_one, hx]; rfl
   obtain ⟨a, ha⟩ : ∃ a, a = beg F (src.take k) := ⟨_, rfl⟩
   have hbs := beg_spec F (src.take k)
   have hsn : beg F (src.take (k + 1)) = begS F a x := by rw [htk, beg_snoc, ha]
   rw [← ha] at hbs ⊢
   (repeat (first | refine W.seq ?_ | refine W.block ?_ | refine W.skip ?_ | refine W.exit ?_))
   refine W.g ?_ zb8q22
   refine W.seq ?_
   refine W.mono (K := fun e st' => e = Exit.normal ∧ ∃ bb : Bool, begS F a x = (if bb = true then some x else a) ∧ Le R.keep st' ⟨upd (upd (upd (upd (upd (upd (upd (upd (fun _ => .top) 0 (.c (.sl (tabU S N)))) 9 (.c (.sl (rowD N F)))) 10 (.c (.int .i64 (begI a)))) 12 (.c (.int .i64 x))) 26 (.c (.sl (src.map cN)))) 27 (.c (.int .i64 src.length))) 28 (.c (.int .i64 k))) 72 (.c (.bool bb)), Mem.nil⟩) ?_ ?_
   ·by_cases q0 : F (2 * x) = 0
    ·have p0 : (0 ≤ (F (2 * x) : Int) - 1) = False := eq_false (by omega)
     rcases a with _ | q
     ·skip
      refine W.regionDK tab_ok 0 follows_mixed (by kernel_rfl) (by decide) ?_
      refine runk_exec zb8q5 ?_
      refine ⟨rfl, false, by simp [begS, q0], ?_⟩
      refine le_L ?sle ?mle (kept_not hkeep)
      case mle => repeat (first | exact mle_nil _ | exact mle_refl _ | refine mle_upd ?_ zb8q42)
      case sle => repeat (first | exact sle_top _ | exact sle_refl _ | refine sle_upd ?_ zb8q40)
     ·skip
      refine W.regionDK tab_ok 0 follows_mixed (by kernel_rfl) (by decide) ?_
      refine runk_exec zb8q5 ?_
      refine ⟨rfl, false, by simp [begS, q0], ?_⟩
      refine le_L ?sle ?mle (kept_not hkeep)
      case mle => repeat (first | exact mle_nil _ | exact mle_refl _ | refine mle_upd ?_ zb8q42)
      case sle => repeat (first | exact sle_top _ | exact sle_refl _ | refine sle_upd ?_ zb8q40)
    ·have p0 : (0 ≤ (F (2 * x) : Int) - 1) = True := eq_true (by omega)
     rcases a with _ | q
     ·skip
      refine W.regionDK tab_ok 0 follows_mixed (by kernel_rfl) (by decide) ?_
      refine runk_exec zb8q5 ?_
      refine ⟨rfl, true, by simp [begS, q0], ?_⟩
      refine le_L ?sle ?mle (kept_not hkeep)
      case mle => repeat (first | exact mle_nil _ | exact mle_refl _ | refine mle_upd ?_ zb8q42)
      case sle => repeat (first | exact sle_top _ | exact sle_refl _ | refine sle_upd ?_ zb8q40)
     ·have hqs : q ∈ src.take k := by
       rcases hbs with ⟨e, -⟩ | ⟨q', e, h, -⟩
       ·cases e
       ·cases e; exact h
      have hqN : 2 * q < N := hs q (List.mem_of_mem_take hqs)
      have hq0 : (0 : Int) ≤ ((2 * q : Nat) : Int) := by omega
      have hqn : ((q : Int) < 0) = False := eq_false (by omega)
      have w2 := wrap_two (x := q) (by omega)
      by_cases q1 : F (2 * x) < F (2 * q)
      ·have p1 : ((F (2 * x) : Int) - 1 < (F (2 * q) : Int) - 1) = True := eq_true (by omega)
       refine W.regionDK tab_ok 0 follows_mixed (by kernel_rfl) (by decide) ?_
       refine runk_exec (by simp only [exb, Nat.reduceAdd, Nat.reduceLeDiff, Nat.reduceEqDiff, Nat.reduceMul, Int.reduceToNat, reduceIte, Int.reduceLE, Int.reduceNeg, w1, hx0, hxN, rowD_at hxN, rowD_len, Int.toNat_natCast, and_self, begI, Int.reduceLT, p0, hqn, w2, hq0, hqN, rowD_at hqN, p1]; rfl) ?_
       refine ⟨rfl, true, by simp [begS, q0, q1], ?_⟩
       refine le_L ?sle ?mle (kept_not hkeep)
       case mle => repeat (first | exact mle_nil _ | exact mle_refl _ | refine mle_upd ?_ zb8q42)
       case sle => repeat (first | exact sle_top _ | exact sle_refl _ | refine sle_upd ?_ zb8q40)
      ·have p1 : ((F (2 * x) : Int) - 1 < (F (2 * q) : Int) - 1) = False := eq_false (by omega)
       by_cases q2 : F (2 * x) = F (2 * q)
       ·have p2 : ((F (2 * x) : Int) - 1 = (F (2 * q) : Int) - 1) = True := eq_true (by omega)
        by_cases q3 : x < q
        ·have p3 : ((x : Int) < (q : Int)) = True := eq_true (by omega)
         have q4 : ¬ F (2 * q) = 0 := by omega
         refine W.regionDK tab_ok 0 follows_mixed (by kernel_rfl) (by decide) ?_
         refine runk_exec zb8q2 ?_
         refine ⟨rfl, true, by simp [begS, q0, q1, q2, q3, q4], ?_⟩
         refine le_L ?sle ?mle (kept_not hkeep)
         case mle => repeat (first | exact mle_nil _ | exact mle_refl _ | refine mle_upd ?_ zb8q42)
         case sle => repeat (first | exact sle_top _ | exact sle_refl _ | refine sle_upd ?_ zb8q40)
        ·have p3 : ((x : Int) < (q : Int)) = False := eq_false (by omega)
         refine W.regionDK tab_ok 0 follows_mixed (by kernel_rfl) (by decide) ?_
         refine runk_exec zb8q2 ?_
         refine ⟨rfl, false, by simp [begS, q0, q1, q2, q3], ?_⟩
         refine le_L ?sle ?mle (kept_not hkeep)
         case mle => repeat (first | exact mle_nil _ | exact mle_refl _ | refine mle_upd ?_ zb8q42)
         case sle => repeat (first | exact sle_top _ | exact sle_refl _ | refine sle_upd ?_ zb8q40)
       ·have p2 : ((F (2 * x) : Int) - 1 = (F (2 * q) : Int) - 1) = False := eq_false (by omega)
        refine W.regionDK tab_ok 0 follows_mixed (by kernel_rfl) (by decide) ?_
        refine runk_exec (by simp only [exb, Nat.reduceAdd, Nat.reduceLeDiff, Nat.reduceEqDiff, Nat.reduceMul, Int.reduceToNat, reduceIte, Int.reduceLE, Int.reduceNeg, w1, hx0, hxN, rowD_at hxN, rowD_len, Int.toNat_natCast, and_self, begI, Int.reduceLT, p0, hqn, w2, hq0, hqN, rowD_at hqN, p1, p2]; rfl) ?_
        refine ⟨rfl, false, by simp [begS, q0, q1, q2], ?_⟩
        refine le_L ?sle ?mle (kept_not hkeep)
        case mle => repeat (first | exact mle_nil _ | exact mle_refl _ | refine mle_upd ?_ zb8q42)
        case sle => repeat (first | exact sle_top _ | exact sle_refl _ | refine sle_upd ?_ zb8q40)
   ·rintro e st' ⟨rfl, bb, hbb, h3⟩
    refine W.weaken h3 ?_
    clear h3 st'
    refine W.cond rfl ?_ ?_
    ·intro hb
     have hb : bb = true := hb
     subst hb
     repeat (first | refine W.seq ?_ | refine W.block ?_ | refine W.skip ?_ | refine W.exit ?_ | refine W.g ?_)
     refine ⟨k + 1, hlt, by omega, ?_⟩
     rw [hsn, hbb]
     refine le_L ?sle ?mle (kept_not hkeep)
     case mle => repeat (first | exact mle_nil _ | exact mle_refl _ | refine mle_upd ?_ zb8q36)
     case sle => repeat (first | exact sle_top _ | exact sle_refl _ | refine sle_upd ?_ zb8q29)
    ·intro hb
     have hb : bb = false := hb
     subst hb
     repeat (first | refine W.seq ?_ | refine W.block ?_ | refine W.skip ?_ | refine W.exit ?_ | refine W.g ?_)
     refine ⟨k + 1, hlt, by omega, ?_⟩
     rw [hsn, hbb]
     refine le_L ?sle ?mle (kept_not hkeep)
     case mle => repeat (first | exact mle_nil _ | exact mle_refl _ | refine mle_upd ?_ zb8q36)
     case sle => repeat (first | exact sle_top _ | exact sle_refl _ | refine sle_upd ?_ zb8q29)
  ·intro hge
   simp only [decide_eq_false_iff_not, Int.ofNat_lt] at hge
   obtain rfl : k = src.length := by omega
   rw [List.take_length]
   have hbs := beg_spec F src
   unfold walkR
   obtain ⟨a, ha⟩ : ∃ a, a = beg F src := ⟨_, rfl⟩
   rw [← ha] at hbs ⊢
   rcases a with _ | q
   ·skip
    repeat (first | refine W.seq ?_ | refine W.block ?_ | refine W.skip ?_ | refine W.exit ?_ | refine W.g ?_ (by simp only [exb, Nat.reduceAdd, Nat.reduceLeDiff, Nat.reduceEqDiff, Nat.reduceMul, Int.reduceToNat, reduceIte, Int.reduceLE, Int.reduceNeg, begI, Int.reduceLT]; rfl))
    refine W.cond rfl (fun _ => ?_) (fun h => absurd h (by simp))
    repeat (first | refine W.seq ?_ | refine W.block ?_ | refine W.skip ?_ | refine W.exit ?_ | refine W.g ?_)
    refine W.ret ⟨.inr rfl, by rfl, ?_⟩
    simp only [Try.f45, resA, resOne, toT, fin, exb, Nat.reduceAdd, Nat.reduceLeDiff, Nat.reduceEqDiff, Nat.reduceMul, Int.reduceToNat, reduceIte, Int.reduceLE, Int.reduceNeg]
   ·obtain ⟨hqm, hqF⟩ : q ∈ src ∧ F (2 * q) ≠ 0 := by
     rcases hbs with ⟨e, -⟩ | ⟨q', e, h1, h2, -⟩
     ·cases e
     ·cases e; exact ⟨h1, h2⟩
    have hqN : 2 * q < N := hs q hqm
    have hq0 : (0 : Int) ≤ ((2 * q : Nat) : Int) := by omega
    have hqn : ((q : Int) < 0) = False := eq_false (by omega)
    have w2 := wrap_two (x := q) (by omega)
    obtain ⟨v0, hv0⟩ : ∃ v, F (2 * q) = v + 1 := ⟨F (2 * q) - 1, by omega⟩
    have hd0 := (hFD _ hqN v0).1 hv0
    have hv0N : v0 < N := by have := hF (2 * q); omega
    have wq : IntKind.i64.wrap ((F (2 * q) : Int) - 1 - 1) = (v0 : Int) - 1 := by
     rw [hv0, show (((v0 + 1 : Nat) : Int) - 1 - 1) = (v0 : Int) - 1 by omega]; exact wrap_lo (by omega) (by omega)
    repeat (first | refine W.seq ?_ | refine W.block ?_ | refine W.skip ?_ | refine W.exit ?_ | refine W.g ?_ (by simp only [exb, Nat.reduceAdd, Nat.reduceLeDiff, Nat.reduceEqDiff, Nat.reduceMul, Int.reduceToNat, reduceIte, Int.reduceLE, Int.reduceNeg, begI, hqn]; rfl))
    refine W.cond rfl (fun h => absurd h (by simp)) (fun _ => ?_)
    (repeat (first | refine W.seq ?_ | refine W.block ?_ | refine W.skip ?_ | refine W.exit ?_))
    refine W.region L.tab_ok 0 (by decide) (exec_run (by simp only [exb, Nat.reduceAdd, Nat.reduceLeDiff, Nat.reduceEqDiff, Nat.reduceMul, Int.reduceToNat, reduceIte, Int.reduceLE, Int.reduceNeg, L.tabs, begI]; rfl)) ?_
    repeat (first | refine W.seq ?_ | refine W.block ?_ | refine W.skip ?_ | refine W.exit ?_ | refine W.g ?_ (by simp only [exb, Nat.reduceAdd, Nat.reduceLeDiff, Nat.reduceEqDiff, Nat.reduceMul, Int.reduceToNat, reduceIte, Int.reduceLE, Int.reduceNeg, begI, w2, hq0, hqN, rowD_at hqN, rowD_len, Int.toNat_natCast, and_self, wq]; rfl))
    refine W.loop (ι := Nat × List Nat × List Nat) (fun x => ⟨upd (upd (upd (upd (upd (fun _ => .top) 0 (.c (.sl (tabU S N)))) 9 (.c (.sl (rowD N F)))) 13 (.own 78)) 14 (.c (.sl (x.2.1.map cN)))) 15 (.c (.int .i64 ((x.1 : Int) - 1))), upd Mem.nil 78 (some (.mrow 3 1 (x.2.2.map cN)))⟩)
     (fun x => x.1 < N ∧ (∀ i ∈ x.2.1, i < N) ∧ x.2.1.length ≤ N ∧ (∃ i, i ∈ x.2.1 ∧ Ms.Dst S (ends2 t) i x.1) ∧ x.2.2 ++ tailP S (ends2 t) (· ∈ x.2.1) x.1 = q :: tailP S (ends2 t) (· = 2 * q) v0 ∧ x.2.2.length + x.1 = v0 + 1) (fun x => x.1) (v0, [2 * q], [q]) ?start2 ⟨hv0N, by simp; exact hqN, by simp; omega, ⟨2 * q, by simp, hd0⟩, by rw [List.singleton_append]; congr 1; exact tailP_congr (fun i => by simp) v0, by simp; omega⟩ ?round2
    case start2 =>
     refine le_mk ?sle ?mle ?swf ?mwf (kept_not hkeep) (by rfl)
     case swf => repeat (first | exact swf_top _ | refine swf_upd ?_ (by simp [A.ids, upd_app, cN, List.map_cons, List.map_nil, begI]))
     case mwf => repeat (first | exact mwf_nil _ | refine mwf_upd ?_ (by simp [A.ids, O.ids, upd_app, cN, List.map_cons, List.map_nil, begI]))
     case mle => repeat (first | exact mle_nil _ | exact mle_refl _ | refine mle_upd ?_ (by first | rfl | (simp only [upd_app, killM_app, O.kill, A.kill, Nat.reduceEqDiff, reduceIte, Option.map_some, Option.map_none, List.map_cons, List.map_nil, cN, List.map_cons, List.map_nil, begI]; done)))
     case sle => repeat (first | exact sle_top _ | exact sle_refl _ | refine sle_upd ?_ (by first | rfl | (simp only [upd_app, killS_app, A.kill, entry_zero, entry_succ, Nat.reduceEqDiff, reduceIte, cN, List.map_cons, List.map_nil, begI]; done)))
    case round2 =>
     rintro ⟨v, st, out⟩ ⟨i1, i2, i3, i4, i5, i6⟩
     simp only at i1 i2 i3 i4 i5 i6
     repeat (first | refine W.seq ?_ | refine W.block ?_ | refine W.skip ?_ | refine W.exit ?_ | refine W.g ?_)
     cases v with
     | zero =>
      refine W.cond rfl (fun h => absurd h (by simp)) (fun _ => ?_)
      repeat (first | refine W.seq ?_ | refine W.block ?_ | refine W.skip ?_ | refine W.exit ?_ | refine W.g ?_)
      refine W.freeze 8 78 rfl zb8q33 (nokeep hkeep) ?_
      refine W.ret ⟨.inr rfl, by rfl, ?_⟩
      simp only [Try.f45, resA, resOne, toT, fin, exb, Nat.reduceAdd, Nat.reduceLeDiff, Nat.reduceEqDiff, Nat.reduceMul, Int.reduceToNat, reduceIte, Int.reduceLE, Int.reduceNeg]
      have i5 : out = q :: tailP S (ends2 t) (· = 2 * q) v0 := by simpa [tailP] using i5
      rw [i5, show F (2 * q) - 1 = v0 by omega]
      rfl
     | succ v =>
      refine W.cond rfl (fun _ => ?_) (fun h => absurd h (by simp <;> omega))
      obtain ⟨n1, n2, n3⟩ := nb_path hS hFD i4
      have hnl := nb_lt (F := F) (d := v + 1) (l := onw S st) (N := N) fun k hk => by obtain ⟨i, -, e⟩ := mem_onw.1 hk; exact (hS _ e).2
      have hnx := fun m => next_ok N hN S hlen hS F hF st i2 (by omega) v (by omega) m
      obtain ⟨b, hb⟩ : ∃ b, b = lst (cand S (ends2 t) v (succP S (· ∈ st))) := ⟨_, rfl⟩
      obtain ⟨os, hos⟩ : ∃ os, os = (nb F (v + 1) (onw S st)).2 := ⟨_, rfl⟩
      rw [← hb] at n1
      rw [n1, ← hos] at hnx
      rw [← hos] at n2 n3 hnl
      have hv1 : ((v + 1 : Nat) : Int) - 1 = (v : Int) := by omega
      simp only [hv1]
      (repeat (first | refine W.seq ?_ | refine W.block ?_ | refine W.skip ?_ | refine W.exit ?_))
      refine W.regionK tab_ok 0 (by decide) ?_
      refine xs0 4 ?_
      refine runk_call rfl rfl rfl rfl rfl (by simp) (cvs_cons cv_refl (cvs_cons cv_refl (cvs_cons cv_refl (cvs_cons cv_refl cvs_nil)))) (hnx _) ?_
      refine xe0 ?_
      (repeat (first | refine W.seq ?_ | refine W.block ?_ | refine W.skip ?_ | refine W.exit ?_))
      refine W.regionK tab_ok 0 (by decide) ?_
      refine xs0 3 ?_
      refine runk_appendM tab_ok 78 rfl rfl rfl rfl rfl rfl zb8q35 zb8q33 zb8q20 rfl rfl rfl rfl (nokeep hkeep) (fun z hz => by simp at hz; subst hz; rfl) zb8q47 (by decide) ?_
      refine xe0 ?_
      have wv : IntKind.i64.wrap ((v : Int) - 1) = (v : Int) - 1 := wrap_lo (by omega) (by omega)
      repeat (first | refine W.seq ?_ | refine W.block ?_ | refine W.skip ?_ | refine W.exit ?_ | refine W.g ?_ (by simp only [exb, Nat.reduceAdd, Nat.reduceLeDiff, Nat.reduceEqDiff, Nat.reduceMul, Int.reduceToNat, reduceIte, Int.reduceLE, Int.reduceNeg, wv]; rfl))
      refine ⟨(v, os, out ++ [b]), ⟨by omega, hnl.2, hnl.1, n3, ?_, by simp; omega⟩, by simp, ?_⟩
      ·rw [← i5, List.append_assoc, List.singleton_append]
       congr 1
       show b :: tailP S (ends2 t) (· ∈ os) v = pathP S (ends2 t) v (succP S (· ∈ st))
       rw [pathP_tail, hb]
       congr 1
       exact tailP_congr n2 v
      ·skip
       refine le_mk ?sle ?mle ?swf ?mwf (kept_not hkeep) (by rfl)
       case swf => repeat (first | exact swf_top _ | refine swf_upd ?_ (by simp [A.ids, upd_app, List.map_append, List.map_cons, List.map_nil, cN]))
       case mwf => repeat (first | exact mwf_nil _ | refine mwf_upd ?_ (by simp [A.ids, O.ids, upd_app, List.map_append, List.map_cons, List.map_nil, cN]))
       case mle => repeat (first | exact mle_nil _ | exact mle_refl _ | refine mle_upd ?_ (by first | rfl | (simp only [upd_app, killM_app, O.kill, A.kill, Nat.reduceEqDiff, reduceIte, Option.map_some, Option.map_none, List.map_cons, List.map_nil, List.map_append, List.map_cons, List.map_nil, cN]; done)))
       case sle => repeat (first | exact sle_top _ | exact sle_refl _ | refine sle_upd ?_ (by first | rfl | (simp only [upd_app, killS_app, A.kill, entry_zero, entry_succ, Nat.reduceEqDiff, reduceIte, List.map_append, List.map_cons, List.map_nil, cN]; done)))
end V
end Go.Proofs.Ytmhchhmhpoldhaa
end
section
namespace Go.Proofs.Ytmhchhmhpoldhaa
namespace V
open Go.RowKit G
def natI (ids : List Int) : List Nat := ids.map Int.toNat
theorem zN_natI {ids : List Int} (h : ∀ z ∈ ids, 0 ≤ z) : zN (natI ids) = ids := by
 unfold zN natI
 rw [List.map_map]
 refine (List.map_congr_left fun z hz => ?_).trans (List.map_id _)
 have := h z hz
 show ((z.toNat : Nat) : Int) = z
 omega
theorem errN_good {n : Int} {l : List Q} {ids : List Int} (h : errN n l ids = 0) : chkS n l = true ∧ ∀ z ∈ ids, 0 ≤ z ∧ z < n := by
 unfold errN at h
 split at h
 ·cases h
 ·rename_i h1
  split at h
  ·cases h
  ·rename_i h2
   refine ⟨by simpa using h1, fun z hz => ?_⟩
   have := List.any_eq_false.1 (by simpa using h2) z hz
   simp [outN] at this
   omega
theorem natI_lt {n : Int} {ids : List Int} (h : ∀ z ∈ ids, 0 ≤ z ∧ z < n) : ∀ i ∈ natI ids, i < n.toNat := fun i hi => by
 obtain ⟨z, hz, rfl⟩ := List.mem_map.1 hi
 have := h z hz
 omega
theorem cZ_natI {ids : List Int} (h : ∀ z ∈ ids, 0 ≤ z) : ids.map cZ = (natI ids).map cN := by rw [← cZ_zN, zN_natI h]
noncomputable def reachO (n : Int) (l : List Q) (ids : List Int) : List Nat × Int :=
 if errN n l ids = 0 then (reachB (Ms.farF (turnL (allS n.toNat l)) (twi (natI ids))) n.toNat, 0) else ([], errN n l ids)
def Small (n : Int) (l : List Q) : Prop := l.length ≤ 1000 ∧ (chkS n l = true → (allS n.toNat l).length ≤ 1000000 ∧ (wholeE n.toNat l).length ≤ 1000000)
theorem good_n {n : Int} {l : List Q} (h : chkS n l = true) : ∃ k : Nat, n = (k : Int) := ⟨n.toNat, by have := (natS_back h).2.1; omega⟩
theorem reachZ_ok (n : Int) (l : List Q) (ids : List Int) (hs : Small n l) (hi : ids.length ≤ 1000000) (m : Mem) :
  COk Try.prog 11 [.c (.int .i64 n), .c (.sl (l.map cS)), .c (.sl (ids.map cZ))] m (.tup [(false, [.sl ((reachO n l ids).1.map cN)]), (false, [.int .i64 (reachO n l ids).2])]) := by
 unfold reachO
 by_cases he : errN n l ids = 0
 ·rw [if_pos he]
  obtain ⟨hc, hz⟩ := errN_good he
  obtain ⟨k, rfl⟩ := good_n hc
  rw [cZ_natI fun z h => (hz z h).1]
  have h1 := hs.2 hc
  have h2 := natI_lt hz
  rw [Int.toNat_natCast] at h1 h2 ⊢
  exact reachG_ok k l hc (by have := hs.1; omega) h1.1 (natI ids) h2 (by simp [natI]; omega) m
 ·rw [if_neg he]
  have hf := fun m => fcheck_ok n l ids (by have := hs.1; omega) (by omega) m
  obtain ⟨e, hE⟩ : ∃ e, e = errN n l ids := ⟨_, rfl⟩
  rw [← hE] at he hf ⊢
  refine (ok_pure tab_ok Try.func11 (by kernel_rfl) rfl rfl (by rfl) (by rfl) (by rfl) (fun R hkeep => ?_) m)
  repeat (first | refine W.seq ?_ | refine W.block ?_ | refine W.skip ?_ | refine W.exit ?_ | refine W.g ?_)
  refine W.regionK tab_ok 0 (by decide) ?_
  refine xs0 3 ?_
  refine runk_call rfl rfl rfl rfl rfl (by simp) (cvs_cons cv_refl (cvs_cons cv_refl (cvs_cons cv_refl cvs_nil))) (hf _) ?_
  refine xe0 ?_
  repeat (first | refine W.seq ?_ | refine W.block ?_ | refine W.skip ?_ | refine W.exit ?_ | refine W.g ?_)
  refine W.cond rfl (fun _ => ?_) (fun h => absurd h (by simp [he]))
  repeat (first | refine W.seq ?_ | refine W.block ?_ | refine W.skip ?_ | refine W.exit ?_ | refine W.g ?_)
  refine W.ret ⟨.inr rfl, by rfl, ?_⟩
  simp only [Try.f11, resA, resOne, toT, fin, exb, Nat.reduceAdd, Nat.reduceLeDiff, Nat.reduceEqDiff, Nat.reduceMul, Int.reduceToNat, reduceIte, Int.reduceLE, Int.reduceNeg]
theorem refReachZ_ok (n : Int) (l : List Q) (ids : List Int) (hs : Small n l) (hi : ids.length ≤ 1000000) (m : Mem) :
  COk Try.prog 12 [.c (.int .i64 n), .c (.sl (l.map cS)), .c (.sl (ids.map cZ))] m (.tup [(false, [.sl ((reachO n l ids).1.map cN)]), (false, [.int .i64 (reachO n l ids).2])]) := by
 unfold reachO
 by_cases he : errN n l ids = 0
 ·rw [if_pos he]
  obtain ⟨hc, hz⟩ := errN_good he
  obtain ⟨k, rfl⟩ := good_n hc
  rw [cZ_natI fun z h => (hz z h).1]
  have h1 := hs.2 hc
  have h2 := natI_lt hz
  rw [Int.toNat_natCast] at h1 h2 ⊢
  exact refReachG_ok k l hc (by have := hs.1; omega) h1.1 h1.2 (natI ids) h2 (by simp [natI]; omega) m
 ·rw [if_neg he]
  have hf := fun m => refCheckN_ok n l ids (by have := hs.1; omega) (by omega) m
  obtain ⟨e, hE⟩ : ∃ e, e = errN n l ids := ⟨_, rfl⟩
  rw [← hE] at he hf ⊢
  refine (ok_pure tab_ok Try.func12 (by kernel_rfl) rfl rfl (by rfl) (by rfl) (by rfl) (fun R hkeep => ?_) m)
  repeat (first | refine W.seq ?_ | refine W.block ?_ | refine W.skip ?_ | refine W.exit ?_ | refine W.g ?_)
  refine W.regionK tab_ok 0 (by decide) ?_
  refine xs0 3 ?_
  refine runk_call rfl rfl rfl rfl rfl (by simp) (cvs_cons cv_refl (cvs_cons cv_refl (cvs_cons cv_refl cvs_nil))) (hf _) ?_
  refine xe0 ?_
  repeat (first | refine W.seq ?_ | refine W.block ?_ | refine W.skip ?_ | refine W.exit ?_ | refine W.g ?_)
  refine W.cond rfl (fun _ => ?_) (fun h => absurd h (by simp [he]))
  repeat (first | refine W.seq ?_ | refine W.block ?_ | refine W.skip ?_ | refine W.exit ?_ | refine W.g ?_)
  refine W.ret ⟨.inr rfl, by rfl, ?_⟩
  simp only [Try.f12, resA, resOne, toT, fin, exb, Nat.reduceAdd, Nat.reduceLeDiff, Nat.reduceEqDiff, Nat.reduceMul, Int.reduceToNat, reduceIte, Int.reduceLE, Int.reduceNeg]
end V
end Go.Proofs.Ytmhchhmhpoldhaa
end
