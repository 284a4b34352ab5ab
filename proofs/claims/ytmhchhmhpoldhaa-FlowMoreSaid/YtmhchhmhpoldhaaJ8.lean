/- Joined by my own program, in build order: Min, Ow24, Two, DelG, Del, SortR, FQ, FQ2, Nxt, Pth, Er, PtR, PtF, Vld, FV, VlF, Varr, Liv, L24p, L24b, LawEnds24, L24c, LawFits24. -/
import Derived.Test.YtmhchhmhpoldhaaJ7
import Derived.Test.YtmhchhmhpoldhaaJ1
import Derived.Sort.Row
import Derived.Sort.Grow
import Derived.Test.YtmhchhmhpoldhaaJ4
set_option linter.unusedVariables false
set_option linter.unusedSimpArgs false
section
set_option linter.unusedVariables false
set_option linter.unusedSimpArgs false
namespace Go.Proofs.Ytmhchhmhpoldhaa
namespace V
open Go.RowKit G
theorem wrap_sub {a b : Nat} (ha : a < 4611686018427387904) (hb : b < 4611686018427387904) : IntKind.i64.wrap ((a : Int) - (b : Int)) = (a : Int) - (b : Int) := by
 by_cases h : b ≤ a
 ·rw [show (a : Int) - (b : Int) = ((a - b : Nat) : Int) by omega]; exact wrap_nat (by omega)
 ·have h2 : ((a : Int) - (b : Int)) % 18446744073709551616 = (a : Int) - (b : Int) + 18446744073709551616 := by omega
  have h3 : ((a : Int) - (b : Int) + 18446744073709551616) ≥ 9223372036854775808 := by omega
  simp [IntKind.wrap, IntKind.bits, IntKind.signed, h2]
  omega
theorem pathB_ok (N : Nat) (F : Nat → Nat) (hF : ∀ i, F i ≤ 1000000) (a b : Nat) (ha : a < N) (hb : b < N) (m : Mem) : COk Try.prog 60 [.c (.int .i64 a), .c (.int .i64 b), .rptr [.sl (rowF N F)]] m (.c (.int .i64 ((F a : Int) - (F b : Int)))) := by
 have h0 : (0 : Int) ≤ (a : Int) := by omega
 have h1 : (0 : Int) ≤ (b : Int) := by omega
 have hw := wrap_sub (a := F a) (b := F b) (by have := hF a; omega) (by have := hF b; omega)
 refine (ok_pure tab_ok Try.func60 (by kernel_rfl) rfl rfl (by rfl) (by rfl) (by rfl) (fun R hkeep => ?_) m)
 repeat (first | refine W.seq ?_ | refine W.block ?_ | refine W.skip ?_ | refine W.exit ?_ | refine W.region tab_ok 0 (by decide) (exec_run (by simp only [exa, beq_self_eq_true, ByteArray.size, Nat.reduceAdd, Nat.reduceLeDiff, Nat.reduceEqDiff, Nat.reduceMul, Int.reduceToNat, reduceIte, Int.reduceLE, Int.reduceNeg]; rfl)) ?_)
 refine W.regionDK tab_ok 0 follows_mixed (by kernel_rfl) (by decide) ?_
 refine runk_exec (by simp only [exa, beq_self_eq_true, ByteArray.size, Nat.reduceAdd, Nat.reduceLeDiff, Nat.reduceEqDiff, Nat.reduceMul, Int.reduceToNat, reduceIte, Int.reduceLE, Int.reduceNeg, rowF_at ha, rowF_at hb, rowF_len, ha, hb, h0, h1, Int.toNat_natCast, and_self, hw]; rfl) ?_
 repeat (first | refine W.seq ?_ | refine W.block ?_ | refine W.skip ?_ | refine W.exit ?_ | refine W.region tab_ok 0 (by decide) (exec_run (by simp only [exa, beq_self_eq_true, ByteArray.size, Nat.reduceAdd, Nat.reduceLeDiff, Nat.reduceEqDiff, Nat.reduceMul, Int.reduceToNat, reduceIte, Int.reduceLE, Int.reduceNeg]; rfl)) ?_)
 refine W.ret ⟨.inr rfl, by rfl, ?_⟩
 simp only [Try.f60, resA, resOne, toT, fin, exa, beq_self_eq_true, ByteArray.size, Nat.reduceAdd, Nat.reduceLeDiff, Nat.reduceEqDiff, Nat.reduceMul, Int.reduceToNat, reduceIte, Int.reduceLE, Int.reduceNeg]
def minG (F : Nat → Nat) (x : Nat) (l : List Nat) : Nat := l.foldl (fun a y => if F y < F a then y else a) x
theorem minG_spec (F : Nat → Nat) : ∀ (l : List Nat) (x : Nat), (minG F x l = x ∨ minG F x l ∈ l) ∧ F (minG F x l) ≤ F x ∧ ∀ y ∈ l, F (minG F x l) ≤ F y
 | [], x => ⟨.inl rfl, Nat.le_refl _, by simp⟩
 | y :: l, x => by
  obtain ⟨h1, h2, h3⟩ := minG_spec F l (if F y < F x then y else x)
  have e : minG F x (y :: l) = minG F (if F y < F x then y else x) l := rfl
  rw [e]
  refine ⟨?_, ?_, fun z hz => ?_⟩
  ·rcases h1 with h | h
   ·rw [h]; split
    ·exact .inr (by simp)
    ·exact .inl rfl
   ·exact .inr (by simp [h])
  ·refine Nat.le_trans h2 ?_; split <;> omega
  ·rcases List.mem_cons.1 hz with rfl | hz
   ·refine Nat.le_trans h2 ?_; split <;> omega
   ·exact h3 z hz
theorem minG_snoc (F : Nat → Nat) (x : Nat) (l : List Nat) (y : Nat) : minG F x (l ++ [y]) = if F y < F (minG F x l) then y else minG F x l := by rw [minG, List.foldl_append]; rfl
theorem minG_lt {F : Nat → Nat} {x N : Nat} {l : List Nat} (hx : x < N) (hl : ∀ y ∈ l, y < N) : minG F x l < N := by
 rcases (minG_spec F l x).1 with h | h
 ·rw [h]; exact hx
 ·exact hl _ h
set_option maxHeartbeats 1000000 in
theorem minF_ok (N : Nat) (F : Nat → Nat) (hF : ∀ i, F i ≤ 1000000) (x : Nat) (l : List Nat) (hx : x < N) (hl : ∀ y ∈ l, y < N) (hlen : l.length ≤ 1000000000000) (m : Mem) :
  COk Try.prog 59 [.c (.sl ((x :: l).map cN)), .fnR 60 [[.sl (rowF N F)]]] m (.c (.int .i64 (minG F x l : Nat))) := by
 obtain ⟨Lc, hLc⟩ : ∃ Lc, Lc = (x :: l).map cN := ⟨_, rfl⟩
 have hat : Lc[0]? = some [.int .i64 (x : Int)] := by rw [hLc]; rfl
 have hll : Lc.length = l.length + 1 := by rw [hLc]; simp
 rw [← hLc]
 refine (ok_pure tab_ok Try.func59 (by kernel_rfl) rfl rfl (by rfl) (by rfl) (by rfl) (fun R hkeep => ?_) m)
 repeat (first | refine W.seq ?_ | refine W.block ?_ | refine W.skip ?_ | refine W.exit ?_ | refine W.region tab_ok 0 (by decide) (exec_run (by simp only [exa, beq_self_eq_true, ByteArray.size, Nat.reduceAdd, Nat.reduceLeDiff, Nat.reduceEqDiff, Nat.reduceMul, Int.reduceToNat, reduceIte, Int.reduceLE, Int.reduceNeg]; rfl)) ?_)
 refine W.cond rfl (fun h => absurd h (by simp [hll]; omega)) (fun _ => ?_)
 repeat (first | refine W.seq ?_ | refine W.block ?_ | refine W.skip ?_ | refine W.exit ?_ | refine W.region tab_ok 0 (by decide) (exec_run (by simp only [exa, beq_self_eq_true, ByteArray.size, Nat.reduceAdd, Nat.reduceLeDiff, Nat.reduceEqDiff, Nat.reduceMul, Int.reduceToNat, reduceIte, Int.reduceLE, Int.reduceNeg, hat, hll, Int.toNat_zero, Nat.zero_lt_succ, and_self]; rfl)) ?_)
 refine W.loop (ι := Nat) (fun k => ⟨upd (upd (upd (upd (fun _ => .top) 0 (.c (.sl Lc))) 1 (.fnR 60 [[.sl (rowF N F)]])) 5 (.c (.int .i64 (minG F x (l.take k) : Nat)))) 6 (.c (.int .i64 ((k + 1 : Nat) : Int))), Mem.nil⟩) (fun k => k ≤ l.length) (fun k => l.length - k) 0 ?start (Nat.zero_le _) ?round
 case start =>
  refine le_mk ?sle ?mle ?swf ?mwf ?kept (by rfl)
  case kept => exact kept_not hkeep
  case swf => repeat (first | exact swf_top _ | refine swf_upd ?_ (by simp [A.ids, upd_app]))
  case mwf => repeat (first | exact mwf_nil _ | refine mwf_upd ?_ (by simp [A.ids, O.ids, upd_app]))
  case mle => repeat (first | exact mle_nil _ | exact mle_refl _ | refine mle_upd ?_ (by first | rfl | (simp only [upd_app, killM_app, Nat.reduceEqDiff, reduceIte, List.take_zero]; done)))
  case sle => repeat (first | exact sle_top _ | exact sle_refl _ | refine sle_upd ?_ (by first | rfl | (simp only [upd_app, entry_zero, entry_succ, Nat.reduceEqDiff, reduceIte, List.take_zero]; done)))
 case round =>
  intro k hk
  repeat (first | refine W.seq ?_ | refine W.block ?_ | refine W.skip ?_ | refine W.exit ?_ | refine W.region tab_ok 0 (by decide) (exec_run (by simp only [exa, beq_self_eq_true, ByteArray.size, Nat.reduceAdd, Nat.reduceLeDiff, Nat.reduceEqDiff, Nat.reduceMul, Int.reduceToNat, reduceIte, Int.reduceLE, Int.reduceNeg, hll]; rfl)) ?_)
  refine W.cond rfl ?_ ?_
  ·intro hlt
   have hlt : k < l.length := by simp only [decide_eq_true_eq] at hlt; omega
   obtain ⟨y, hy⟩ : ∃ y, l[k]? = some y := ⟨_, List.getElem?_eq_getElem hlt⟩
   have hyN := hl y (List.mem_of_getElem? hy)
   have hy2 : Lc[k + 1]? = some [.int .i64 (y : Int)] := by rw [hLc]; simp [hy, cN]
   have hk0 : (0 : Int) ≤ ((k + 1 : Nat) : Int) := by omega
   have hk1 : k + 1 < l.length + 1 := by omega
   have htk : l.take (k + 1) = l.take k ++ [y] := by rw [List.take_add_one, hy]; rfl
   have hmN : minG F x (l.take k) < N := minG_lt hx fun z hz => hl z (List.mem_of_mem_take hz)
   repeat (first | refine W.seq ?_ | refine W.block ?_ | refine W.skip ?_ | refine W.exit ?_ | refine W.region tab_ok 0 (by decide) (exec_run (by simp only [exa, beq_self_eq_true, ByteArray.size, Nat.reduceAdd, Nat.reduceLeDiff, Nat.reduceEqDiff, Nat.reduceMul, Int.reduceToNat, reduceIte, Int.reduceLE, Int.reduceNeg]; rfl)) ?_)
   refine W.regionK tab_ok 0 (by decide) ?_
   refine runk_split 6 (by simp only [exa, beq_self_eq_true, ByteArray.size, Nat.reduceAdd, Nat.reduceLeDiff, Nat.reduceEqDiff, Nat.reduceMul, Int.reduceToNat, reduceIte, Int.reduceLE, Int.reduceNeg, hy2, hll, hk0, hk1, Int.toNat_natCast, and_self]; rfl) ?_
   refine runk_callF rfl rfl rfl rfl rfl (cvs_cons cv_refl (cvs_cons cv_refl (cvs_caps _))) (pathB_ok N F hF y (minG F x (l.take k)) hyN hmN _) ?_
   refine runk_exec (by simp only [exa, beq_self_eq_true, ByteArray.size, Nat.reduceAdd, Nat.reduceLeDiff, Nat.reduceEqDiff, Nat.reduceMul, Int.reduceToNat, reduceIte, Int.reduceLE, Int.reduceNeg]; rfl) ?_
   refine W.cond rfl ?_ ?_
   ·intro hq
    have hq : F y < F (minG F x (l.take k)) := by simp only [decide_eq_true_eq] at hq; omega
    repeat (first | refine W.seq ?_ | refine W.block ?_ | refine W.skip ?_ | refine W.exit ?_ | refine W.region tab_ok 0 (by decide) (exec_run (by simp only [exa, beq_self_eq_true, ByteArray.size, Nat.reduceAdd, Nat.reduceLeDiff, Nat.reduceEqDiff, Nat.reduceMul, Int.reduceToNat, reduceIte, Int.reduceLE, Int.reduceNeg, hy2, hll, hk0, hk1, Int.toNat_natCast, and_self]; rfl)) ?_)
    refine ⟨k + 1, hlt, by omega, ?_⟩
    rw [htk, minG_snoc, if_pos hq]
    refine le_mk ?sle ?mle ?swf ?mwf ?kept (by rfl)
    case kept => exact kept_not hkeep
    case swf => repeat (first | exact swf_top _ | refine swf_upd ?_ (by simp [A.ids, upd_app]))
    case mwf => repeat (first | exact mwf_nil _ | refine mwf_upd ?_ (by simp [A.ids, O.ids, upd_app]))
    case mle => repeat (first | exact mle_nil _ | exact mle_refl _ | refine mle_upd ?_ (by first | rfl | (simp only [upd_app, killM_app, Nat.reduceEqDiff, reduceIte, wrap_succ (show k + 1 + 1 < 9223372036854775808 by omega)]; done)))
    case sle => repeat (first | exact sle_top _ | exact sle_refl _ | refine sle_upd ?_ (by first | rfl | (simp only [upd_app, entry_zero, entry_succ, Nat.reduceEqDiff, reduceIte, wrap_succ (show k + 1 + 1 < 9223372036854775808 by omega)]; done)))
   ·intro hq
    have hq : ¬ F y < F (minG F x (l.take k)) := by simp only [decide_eq_false_iff_not] at hq; omega
    repeat (first | refine W.seq ?_ | refine W.block ?_ | refine W.skip ?_ | refine W.exit ?_ | refine W.region tab_ok 0 (by decide) (exec_run (by simp only [exa, beq_self_eq_true, ByteArray.size, Nat.reduceAdd, Nat.reduceLeDiff, Nat.reduceEqDiff, Nat.reduceMul, Int.reduceToNat, reduceIte, Int.reduceLE, Int.reduceNeg]; rfl)) ?_)
    refine ⟨k + 1, hlt, by omega, ?_⟩
    rw [htk, minG_snoc, if_neg hq]
    refine le_mk ?sle ?mle ?swf ?mwf ?kept (by rfl)
    case kept => exact kept_not hkeep
    case swf => repeat (first | exact swf_top _ | refine swf_upd ?_ (by simp [A.ids, upd_app]))
    case mwf => repeat (first | exact mwf_nil _ | refine mwf_upd ?_ (by simp [A.ids, O.ids, upd_app]))
    case mle => repeat (first | exact mle_nil _ | exact mle_refl _ | refine mle_upd ?_ (by first | rfl | (simp only [upd_app, killM_app, Nat.reduceEqDiff, reduceIte, wrap_succ (show k + 1 + 1 < 9223372036854775808 by omega)]; done)))
    case sle => repeat (first | exact sle_top _ | exact sle_refl _ | refine sle_upd ?_ (by first | rfl | (simp only [upd_app, entry_zero, entry_succ, Nat.reduceEqDiff, reduceIte, wrap_succ (show k + 1 + 1 < 9223372036854775808 by omega)]; done)))
  ·intro hge
   have hge : k = l.length := by simp only [decide_eq_false_iff_not] at hge; omega
   subst hge
   rw [List.take_length]
   repeat (first | refine W.seq ?_ | refine W.block ?_ | refine W.skip ?_ | refine W.exit ?_ | refine W.region tab_ok 0 (by decide) (exec_run (by simp only [exa, beq_self_eq_true, ByteArray.size, Nat.reduceAdd, Nat.reduceLeDiff, Nat.reduceEqDiff, Nat.reduceMul, Int.reduceToNat, reduceIte, Int.reduceLE, Int.reduceNeg]; rfl)) ?_)
   refine W.ret ⟨.inr rfl, by rfl, ?_⟩
   simp only [Try.f59, resA, resOne, toT, fin, exa, beq_self_eq_true, ByteArray.size, Nat.reduceAdd, Nat.reduceLeDiff, Nat.reduceEqDiff, Nat.reduceMul, Int.reduceToNat, reduceIte, Int.reduceLE, Int.reduceNeg]
end V
end Go.Proofs.Ytmhchhmhpoldhaa
end
section
set_option linter.unusedVariables false
set_option linter.unusedSimpArgs false
namespace Go.Proofs.Ytmhchhmhpoldhaa
namespace V
open Go.RowKit G
def bigS (n : Int) (l : List Q) : Bool := (decide (80 < n) && decide (n ≤ 100000)) || decide (300 < l.length)
theorem big_ok (n : Int) (l : List Q) (m : Mem) : COk Try.prog 10 [.c (.int .i64 n), .c (.sl (l.map cS))] m (.c (.bool (bigS n l))) := by
 refine (ok_pure tab_ok Try.func10 (by kernel_rfl) rfl rfl (by rfl) (by rfl) (by rfl) (fun R hkeep => ?_) m)
 have e3 : decide ((300 : Int) < (l.length : Int)) = decide (300 < l.length) := by
  by_cases q : 300 < l.length
  ·simp [q]; omega
  ·simp [q]; omega
 by_cases h1 : 80 < n
 ·by_cases h2 : n ≤ 100000
  ·skip
   repeat (first | refine W.seq ?_ | refine W.block ?_ | refine W.skip ?_ | refine W.exit ?_ | refine W.region tab_ok 0 (by decide) (exec_run (by simp only [exa, beq_self_eq_true, ByteArray.size, Nat.reduceAdd, Nat.reduceLeDiff, Nat.reduceEqDiff, Nat.reduceMul, Int.reduceToNat, reduceIte, Int.reduceLE, Int.reduceNeg, h1, h2]; rfl)) ?_)
   refine W.ret ⟨.inr rfl, by rfl, ?_⟩
   simp only [Try.f10, resA, resOne, toT, fin, exa, beq_self_eq_true, ByteArray.size, Nat.reduceAdd, Nat.reduceLeDiff, Nat.reduceEqDiff, Nat.reduceMul, Int.reduceToNat, reduceIte, Int.reduceLE, Int.reduceNeg]
   simp [bigS, h1, h2]
  ·skip
   repeat (first | refine W.seq ?_ | refine W.block ?_ | refine W.skip ?_ | refine W.exit ?_ | refine W.region tab_ok 0 (by decide) (exec_run (by simp only [exa, beq_self_eq_true, ByteArray.size, Nat.reduceAdd, Nat.reduceLeDiff, Nat.reduceEqDiff, Nat.reduceMul, Int.reduceToNat, reduceIte, Int.reduceLE, Int.reduceNeg, h1, h2]; rfl)) ?_)
   refine W.ret ⟨.inr rfl, by rfl, ?_⟩
   simp only [Try.f10, resA, resOne, toT, fin, exa, beq_self_eq_true, ByteArray.size, Nat.reduceAdd, Nat.reduceLeDiff, Nat.reduceEqDiff, Nat.reduceMul, Int.reduceToNat, reduceIte, Int.reduceLE, Int.reduceNeg]
   simp [bigS, h1, h2, ← e3]
 ·skip
  repeat (first | refine W.seq ?_ | refine W.block ?_ | refine W.skip ?_ | refine W.exit ?_ | refine W.region tab_ok 0 (by decide) (exec_run (by simp only [exa, beq_self_eq_true, ByteArray.size, Nat.reduceAdd, Nat.reduceLeDiff, Nat.reduceEqDiff, Nat.reduceMul, Int.reduceToNat, reduceIte, Int.reduceLE, Int.reduceNeg, h1]; rfl)) ?_)
  refine W.ret ⟨.inr rfl, by rfl, ?_⟩
  simp only [Try.f10, resA, resOne, toT, fin, exa, beq_self_eq_true, ByteArray.size, Nat.reduceAdd, Nat.reduceLeDiff, Nat.reduceEqDiff, Nat.reduceMul, Int.reduceToNat, reduceIte, Int.reduceLE, Int.reduceNeg]
  simp [bigS, h1, ← e3]
def twoL : List Q := [(0, 1, 4, 4), (1, 4, 5, 4), (1, 5, 5, 5)]
theorem two_ok (m : Mem) : COk Try.prog 19 [] m (.c (.sl (twoL.map cS))) := by
 refine (ok_pure tab_ok Try.func19 (by kernel_rfl) rfl rfl (by rfl) (by rfl) (by rfl) (fun R hkeep => ?_) m)
 repeat (first | refine W.seq ?_ | refine W.block ?_ | refine W.skip ?_ | refine W.exit ?_ | refine W.region tab_ok 0 (by decide) (exec_run (by simp only [exa, beq_self_eq_true, ByteArray.size, Nat.reduceAdd, Nat.reduceLeDiff, Nat.reduceEqDiff, Nat.reduceMul, Int.reduceToNat, reduceIte, Int.reduceLE, Int.reduceNeg, Int.cast_ofNat_Int]; rfl)) ?_)
 refine W.ret ⟨.inr rfl, by rfl, ?_⟩
 simp only [Try.f19, resA, resOne, toT, fin, exa, beq_self_eq_true, ByteArray.size, Nat.reduceAdd, Nat.reduceLeDiff, Nat.reduceEqDiff, Nat.reduceMul, Int.reduceToNat, reduceIte, Int.reduceLE, Int.reduceNeg]
 rfl
theorem sameInts_ok (a b : List Int) (ha : a.length ≤ 1000000000000) (m : Mem) : COk Try.prog 14 [.c (.sl (a.map cZ)), .c (.sl (b.map cZ))] m (.c (.bool (decide (a = b)))) := by
 refine (ok_pure tab_ok Try.func14 (by kernel_rfl) rfl rfl (by rfl) (by rfl) (by rfl) (fun R hkeep => ?_) m)
 by_cases hne : a.length = b.length
 ·repeat (first | refine W.seq ?_ | refine W.block ?_ | refine W.skip ?_ | refine W.exit ?_ | refine W.region tab_ok 0 (by decide) (exec_run (by simp only [exa, beq_self_eq_true, ByteArray.size, Nat.reduceAdd, Nat.reduceLeDiff, Nat.reduceEqDiff, Nat.reduceMul, Int.reduceToNat, reduceIte, Int.reduceLE, Int.reduceNeg, hne]; rfl)) ?_)
  refine W.cond rfl ?_ ?_
  ·intro h; simp at h
  ·intro _
   repeat (first | refine W.seq ?_ | refine W.block ?_ | refine W.skip ?_ | refine W.exit ?_ | refine W.region tab_ok 0 (by decide) (exec_run (by simp only [exa, beq_self_eq_true, ByteArray.size, Nat.reduceAdd, Nat.reduceLeDiff, Nat.reduceEqDiff, Nat.reduceMul, Int.reduceToNat, reduceIte, Int.reduceLE, Int.reduceNeg, hne]; rfl)) ?_)
   refine W.loop (ι := Nat) (fun k => ⟨upd (upd (upd (upd (upd (fun _ => .top) 0 (.c (.sl (a.map cZ)))) 1 (.c (.sl (b.map cZ)))) 4 (.c (.bool false))) 12 (.c (.int .i64 b.length))) 13 (.c (.int .i64 k)), Mem.nil⟩) (fun k => k ≤ b.length ∧ a.take k = b.take k) (fun k => b.length - k) 0 ?start ⟨Nat.zero_le _, rfl⟩ ?round
   case start =>
    refine le_mk ?sle ?mle ?swf ?mwf ?kept (by rfl)
    case kept => exact kept_not hkeep
    case swf => repeat (first | exact swf_top _ | refine swf_upd ?_ (by simp [A.ids, upd_app]))
    case mwf => repeat (first | exact mwf_nil _ | refine mwf_upd ?_ (by simp [A.ids, O.ids, upd_app]))
    case mle => repeat (first | exact mle_nil _ | exact mle_refl _ | refine mle_upd ?_ (by first | rfl | (simp only [upd_app, killM_app, Nat.reduceEqDiff, reduceIte]; done)))
    case sle => repeat (first | exact sle_top _ | exact sle_refl _ | refine sle_upd ?_ (by first | rfl | (simp only [upd_app, entry_zero, entry_succ, Nat.reduceEqDiff, reduceIte]; done)))
   case round =>
    rintro k ⟨hkl, hin⟩
    repeat (first | refine W.seq ?_ | refine W.block ?_ | refine W.skip ?_ | refine W.exit ?_ | refine W.region tab_ok 0 (by decide) (exec_run (by simp only [exa, beq_self_eq_true, ByteArray.size, Nat.reduceAdd, Nat.reduceLeDiff, Nat.reduceEqDiff, Nat.reduceMul, Int.reduceToNat, reduceIte, Int.reduceLE, Int.reduceNeg]; rfl)) ?_)
    refine W.cond rfl ?_ ?_
    ·intro hlt
     simp only [decide_eq_true_eq, Int.ofNat_lt] at hlt
     obtain ⟨x, hx⟩ : ∃ x, a[k]? = some x := ⟨_, List.getElem?_eq_getElem (by omega)⟩
     obtain ⟨y, hy⟩ : ∃ y, b[k]? = some y := ⟨_, List.getElem?_eq_getElem (by omega)⟩
     repeat (first | refine W.seq ?_ | refine W.block ?_ | refine W.skip ?_ | refine W.exit ?_ | refine W.region tab_ok 0 (by decide) (exec_run (by simp only [exa, beq_self_eq_true, ByteArray.size, Nat.reduceAdd, Nat.reduceLeDiff, Nat.reduceEqDiff, Nat.reduceMul, Int.reduceToNat, reduceIte, Int.reduceLE, Int.reduceNeg]; rfl)) ?_)
     refine W.regionDK tab_ok 0 follows_mixed (by kernel_rfl) (by decide) ?_
     refine runk_exec (by simp only [exa, beq_self_eq_true, ByteArray.size, Nat.reduceAdd, Nat.reduceLeDiff, Nat.reduceEqDiff, Nat.reduceMul, Int.reduceToNat, reduceIte, Int.reduceLE, Int.reduceNeg, at_map hx, at_map hy, cZ]; rfl) ?_
     refine W.cond rfl ?_ ?_
     ·intro hp
      repeat (first | refine W.seq ?_ | refine W.block ?_ | refine W.skip ?_ | refine W.exit ?_ | refine W.region tab_ok 0 (by decide) (exec_run (by simp only [exa, beq_self_eq_true, ByteArray.size, Nat.reduceAdd, Nat.reduceLeDiff, Nat.reduceEqDiff, Nat.reduceMul, Int.reduceToNat, reduceIte, Int.reduceLE, Int.reduceNeg]; rfl)) ?_)
      refine W.ret ⟨.inr rfl, by rfl, ?_⟩
      simp only [Try.f14, resA, resOne, toT, fin, exa, beq_self_eq_true, ByteArray.size, Nat.reduceAdd, Nat.reduceLeDiff, Nat.reduceEqDiff, Nat.reduceMul, Int.reduceToNat, reduceIte, Int.reduceLE, Int.reduceNeg]
      have hxy : x ≠ y := (by simpa [cZ] using hp)
      have : a ≠ b := fun e => by subst e; rw [hx] at hy; exact hxy (Option.some.inj hy)
      simp [this]
     ·intro hp
      repeat (first | refine W.seq ?_ | refine W.block ?_ | refine W.skip ?_ | refine W.exit ?_ | refine W.region tab_ok 0 (by decide) (exec_run (by simp only [exa, beq_self_eq_true, ByteArray.size, Nat.reduceAdd, Nat.reduceLeDiff, Nat.reduceEqDiff, Nat.reduceMul, Int.reduceToNat, reduceIte, Int.reduceLE, Int.reduceNeg]; rfl)) ?_)
      refine ⟨k + 1, ⟨hlt, ?_⟩, by omega, ?_⟩
      ·have hxy : x = y := Decidable.byContradiction fun q => by
        have : x ≠ y := q
        simp [cZ, this] at hp
        try (obtain ⟨x1, x2⟩ := x; obtain ⟨y1, y2⟩ := y; simp at hp; simp [hp] at this)
       rw [List.take_add_one, List.take_add_one, hx, hy, hin, hxy]
      refine le_mk ?sle ?mle ?swf ?mwf ?kept (by rfl)
      case kept => exact kept_not hkeep
      case swf => repeat (first | exact swf_top _ | refine swf_upd ?_ (by simp [A.ids, upd_app]))
      case mwf => repeat (first | exact mwf_nil _ | refine mwf_upd ?_ (by simp [A.ids, O.ids, upd_app]))
      case mle => repeat (first | exact mle_nil _ | exact mle_refl _ | refine mle_upd ?_ (by first | rfl | (simp only [upd_app, killM_app, Nat.reduceEqDiff, reduceIte, wrap_succ (show k + 1 < 9223372036854775808 by omega)]; done)))
      case sle => repeat (first | exact sle_top _ | exact sle_refl _ | refine sle_upd ?_ (by first | rfl | (simp only [upd_app, entry_zero, entry_succ, Nat.reduceEqDiff, reduceIte, wrap_succ (show k + 1 < 9223372036854775808 by omega)]; done)))
    ·intro hge
     simp only [decide_eq_false_iff_not, Int.ofNat_lt] at hge
     obtain rfl : k = b.length := by omega
     rw [List.take_of_length_le (by omega), List.take_length] at hin
     repeat (first | refine W.seq ?_ | refine W.block ?_ | refine W.skip ?_ | refine W.exit ?_ | refine W.region tab_ok 0 (by decide) (exec_run (by simp only [exa, beq_self_eq_true, ByteArray.size, Nat.reduceAdd, Nat.reduceLeDiff, Nat.reduceEqDiff, Nat.reduceMul, Int.reduceToNat, reduceIte, Int.reduceLE, Int.reduceNeg]; rfl)) ?_)
     refine W.ret ⟨.inr rfl, by rfl, ?_⟩
     simp only [Try.f14, resA, resOne, toT, fin, exa, beq_self_eq_true, ByteArray.size, Nat.reduceAdd, Nat.reduceLeDiff, Nat.reduceEqDiff, Nat.reduceMul, Int.reduceToNat, reduceIte, Int.reduceLE, Int.reduceNeg]
     simp [hin]
 ·repeat (first | refine W.seq ?_ | refine W.block ?_ | refine W.skip ?_ | refine W.exit ?_ | refine W.region tab_ok 0 (by decide) (exec_run (by simp only [exa, beq_self_eq_true, ByteArray.size, Nat.reduceAdd, Nat.reduceLeDiff, Nat.reduceEqDiff, Nat.reduceMul, Int.reduceToNat, reduceIte, Int.reduceLE, Int.reduceNeg]; rfl)) ?_)
  refine W.cond rfl ?_ ?_
  ·intro _
   repeat (first | refine W.seq ?_ | refine W.block ?_ | refine W.skip ?_ | refine W.exit ?_ | refine W.region tab_ok 0 (by decide) (exec_run (by simp only [exa, beq_self_eq_true, ByteArray.size, Nat.reduceAdd, Nat.reduceLeDiff, Nat.reduceEqDiff, Nat.reduceMul, Int.reduceToNat, reduceIte, Int.reduceLE, Int.reduceNeg]; rfl)) ?_)
   refine W.ret ⟨.inr rfl, by rfl, ?_⟩
   simp only [Try.f14, resA, resOne, toT, fin, exa, beq_self_eq_true, ByteArray.size, Nat.reduceAdd, Nat.reduceLeDiff, Nat.reduceEqDiff, Nat.reduceMul, Int.reduceToNat, reduceIte, Int.reduceLE, Int.reduceNeg]
   have : a ≠ b := fun e => by subst e; exact hne rfl
   simp [this]
  ·intro h
   exfalso
   simp at h
   omega
end V
end Go.Proofs.Ytmhchhmhpoldhaa
end
section
set_option linter.unusedVariables false
set_option linter.unusedSimpArgs false
namespace Go.Proofs.Ytmhchhmhpoldhaa
namespace G
theorem Ms.farF_eq {E : List (Nat × Nat)} {T : List Nat} {F : Nat → Nat} (h1 : ∀ t ∈ T, F t = 1) (h2 : ∀ i, F i = 1 → i ∈ T) (h3 : ∀ i v, F i = v + 2 → ∃ k, (i, k) ∈ E ∧ F k = v + 1) (h4 : ∀ e ∈ E, F e.2 ≠ 0 → F e.1 ≠ 0 ∧ F e.1 ≤ F e.2 + 1) : Ms.farF E T = F := by
 funext i
 cases hF : F i with
 | zero => exact Ms.farF_zero.2 fun ⟨v, hv⟩ => far_none h1 h4 hF v hv
 | succ v => exact Ms.farF_at.2 ((far_table h1 h2 h3 h4 i v).1 hF)
end G
namespace V
open Go.RowKit G
theorem two_sum : sumL (natS twoL) 6 = [(0, 4)] := by
 have hE : natS twoL = [⟨0, 1, 4, 4⟩, ⟨1, 4, 5, 4⟩, ⟨1, 5, 5, 5⟩] := rfl
 have hp : plE (natS twoL) = [] := rfl
 refine (sumL_ext (by rw [hE]; decide) (List.pairwise_singleton _ _) fun a d => ?_).symm
 constructor
 ·intro h
  obtain ⟨rfl, rfl⟩ : a = 0 ∧ d = 4 := by simpa using h
  exact .sum (c := ⟨0, 1, 4, 4⟩) (r := ⟨1, 4, 5, 4⟩) (by rw [hE]; simp) rfl (by rw [hE]; simp) rfl rfl (.refl 1)
 ·intro h
  have := (SL.sub (S := fun p => p = (1, 1)) (F := fun p => p = (0, 4)) (fun c hc k => by rw [hE] at hc; simp at hc; rcases hc with rfl | rfl | rfl <;> simp at k ⊢) (fun v a b hs he => by
   rw [hp] at he
   simp at he) (fun v a b hs hf => by simp at hs hf; omega) (fun c hc kc r hr kr hs hS => by
   rw [hE] at hc hr
   simp at hc hr
   rcases hc with rfl | rfl | rfl <;> simp at kc
   rcases hr with rfl | rfl | rfl <;> simp at kr hs ⊢) h).1 rfl
  simp [this]
theorem two_steps : allS 6 twoL = [(0, 3), (1, 3), (2, 8), (2, 10), (0, 8), (1, 9)] := by
 unfold allS wholeE
 rw [show ((6 : Nat) : Int).toNat = 6 from rfl, two_sum]
 rfl
theorem two_reach0 : reachB (Ms.farF (turnL (allS 6 twoL)) (twi [0])) 6 = [0, 1, 4] := by
 rw [two_steps]
 have : Ms.farF (turnL [(0, 3), (1, 3), (2, 8), (2, 10), (0, 8), (1, 9)]) (twi [0]) = fun i => if i = 0 then 1 else if i = 3 ∨ i = 8 then 2 else 0 := by
  refine Ms.farF_eq (by simp [twi]) (fun i h => ?_) (fun i v h => ?_) (by simp [turnL])
  ·(try simp only at h); split at h
   ·rename_i e; simp [twi, e]
   ·split at h <;> omega
  ·(try simp only at h); split at h
   ·omega
   ·split at h
    ·rename_i e
     obtain rfl : v = 0 := by omega
     rcases e with rfl | rfl
     ·exact ⟨0, by simp [turnL], rfl⟩
     ·exact ⟨0, by simp [turnL], rfl⟩
    ·omega
 rw [this]
 decide
theorem two_reach1 : reachB (Ms.farF (turnL (allS 6 twoL)) (twi [1])) 6 = [1, 4, 5] := by
 rw [two_steps]
 have : Ms.farF (turnL [(0, 3), (1, 3), (2, 8), (2, 10), (0, 8), (1, 9)]) (twi [1]) = fun i => if i = 2 then 1 else if i = 8 ∨ i = 10 then 2 else 0 := by
  refine Ms.farF_eq (by simp [twi]) (fun i h => ?_) (fun i v h => ?_) (by simp [turnL])
  ·(try simp only at h); split at h
   ·rename_i e; simp [twi, e]
   ·split at h <;> omega
  ·(try simp only at h); split at h
   ·omega
   ·split at h
    ·rename_i e
     obtain rfl : v = 0 := by omega
     rcases e with rfl | rfl
     ·exact ⟨2, by simp [turnL], rfl⟩
     ·exact ⟨2, by simp [turnL], rfl⟩
    ·omega
 rw [this]
 decide
end V
end Go.Proofs.Ytmhchhmhpoldhaa
end
section
set_option linter.unusedVariables false
set_option linter.unusedSimpArgs false
namespace Go.Proofs.Ytmhchhmhpoldhaa
namespace V
open Go.RowKit
theorem pathA_any (N : Nat) (x : Int) (k : Nat) (hk : k < N) (b g o cap : Nat) (W : World) (h1 : W.cell? ⟨b, 0, none⟩ = some (.slice (some ⟨g, o, none⟩) N cap)) (h2 : W.cell? ⟨g, o + k, none⟩ = some (.int .i64 x)) :
  Calls Try.prog 58 #[.int .i64 k, .pointer (some ⟨b, 0, none⟩)] W fun e w' => e = .returned (.bool (x == 0)) ∧ w' = W := by
 go_enter Try.func58, Try.ntmps58
 go_wp2
 go_ret
 exact ⟨rfl, rfl⟩
end V
end Go.Proofs.Ytmhchhmhpoldhaa
end
section
set_option linter.unusedVariables false
set_option linter.unusedSimpArgs false
namespace Go.Proofs.Ytmhchhmhpoldhaa
namespace V
open Go.RowKit
theorem idx_nil (v : Value) (w : World) : Calls Try.prog 49 #[.slice none 0 0, v] w fun e w' => e = .returned (.int .i64 (-1)) ∧ w' = w := by
 go_enter Try.func49, Try.ntmps49
 go_wp2
 refine wp_loop_rounds 1 ?_
 rw [rounds_succ]
 go_wp2
 go_ret
 exact ⟨rfl, rfl⟩
theorem del_nil (v : Value) (w : World) : Calls Try.prog 57 #[.slice none 0 0, v] w fun e w' => e = .returned (.slice none 0 0) ∧ w' = w := by
 have hI := idx_nil v w
 have eI : ∀ args w, (callFunc 49 args).run Try.prog w = .ok (.enter 49 args) w := enters_of Try.func49 (by kernel_rfl) rfl
 go_enter Try.func57, Try.ntmps57
 go_wp2_with (go_at_call 49; refine hI.mono ?_; rintro e w' ⟨rfl, rfl⟩)
 go_ret
 exact ⟨rfl, rfl⟩
def encN {N : Nat} (x : Fin N) : Value := .int .i64 ((x.val : Nat) : Int)
theorem putRow_enc {α : Type} [Inhabited α] (f : α → Int) (w : World) (blk off : Nat) (d : List α) : Sort.putRow (fun x => Value.int .i64 (f x)) w blk off d.toArray = Sort.putRow (Value.int .i64) w blk off (d.map f).toArray := by
 unfold Sort.putRow
 congr 1
 funext c
 unfold Sort.putCells
 refine Array.ext_getElem? fun k => ?_
 simp only [Array.getElem?_mapIdx, List.size_toArray, List.length_map]
 cases c[k]? with
 | none => rfl
 | some x =>
  simp only [Option.map_some]
  by_cases h : off ≤ k ∧ k < off + d.length
  ·rw [if_pos h, if_pos h]
   have h2 : k - off < d.length := by omega
   rw [getElem!_pos _ _ (by simpa using h2), getElem!_pos _ _ (by simpa using h2)]
   simp
  ·rw [if_neg h, if_neg h]
set_option maxHeartbeats 2000000 in
theorem del_ok (N : Nat) (hN : 0 < N) (F : Nat → Nat) (zs : List Nat) (hz : ∀ z ∈ zs, z < N) (hlen : zs.length < 4611686018427387904) (M : Mem) (id jb : Nat) {ty tyb : TypeId} (hM : M id = some (.mrow ty 1 ((zN zs).map cI))) (hB : M jb = some (.box tyb [.c (.sl (rowF N F))])) (hne : id ≠ jb) :
  CallE Try.prog 57 [.own id, .fn 58 [jb]] M [id] (.own id) (upd (killM id M) id (some (.mrow ty 1 ((zN (zs.filter fun z => !decide (F z = 0))).map cI)))) := by
 obtain ⟨GG, hGG⟩ : ∃ GG : List Int → List Int, GG = fun l => l.filter fun z => !decide (F z.toNat = 0) := ⟨_, rfl⟩
 have hG : GG (zN zs) = zN (zs.filter fun z => !decide (F z = 0)) := by
  rw [hGG]; simp [zN, List.filter_map, Function.comp_def]
 rw [← hG]
 refine cut_mut (rest := [.fn 58 [jb]]) GG (fun l => by rw [hGG]; exact ⟨List.length_filter_le _ _, fun z hz => (List.mem_filter.1 hz).1⟩) (enters_of Try.func57 (by kernel_rfl) rfl) (zN zs) (by rw [zN_len]; exact hlen) M id hM ?_ ?_
 ·intro w0 I0 B I w rv hm hrv blk off cap e hcap hH hb
  match rv, hrv with
  | [v], ⟨hv, _⟩ =>
   have hv : v = .func (.func 58) #[] #[B jb] := hv
   obtain ⟨b, vs, hBb, hbox, hvs, hnoI⟩ := hm.objs jb _ hB
   match vs, hvs with
   | [u], ⟨hu, _⟩ =>
    have hu : RC w I u (.sl (rowF N F)) := hu.1
    obtain ⟨g, o, cap', hu', hcell, hIg⟩ : ∃ g o cap', u = .slice (some ⟨g, o, none⟩) N cap' ∧ (∀ k, k < N → w.cell? ⟨g, o + k, none⟩ = some (.int .i64 (F k : Int))) ∧ I g o := by
     cases hu with
     | @sl a n cap' e' xs f hn hc hmx hl ha hr =>
      rw [rowF_len] at hn
      subst hn
      have he : e' = 1 := by
       have := hl _ (List.mem_of_getElem? (rowF_at (F := F) hN)); simpa using this.symm
      subst he
      obtain ⟨g, o, hao, h0⟩ := ha 0 _ (rowF_at hN)
      subst hao
      refine ⟨g, o, cap', rfl, fun k hk => ?_, by have := (h0 0 (by decide)).1; simpa using this⟩
      obtain ⟨g', o', hao, h1⟩ := ha k _ (rowF_at hk)
      simp only [Option.some.injEq, Addr.mk.injEq, and_true] at hao
      obtain ⟨rfl, rfl⟩ := hao
      have h2 := (h1 0 (by decide)).2
      have h3 := hr k 0 _ _ (rowF_at hk) rfl
      rw [(RC.toInt h3).1] at h2
      simpa using h2
    subst hu'
    have hbc : w.cell? ⟨b, 0, none⟩ = some (.slice (some ⟨g, o, none⟩) N cap') := by simp [World.cell?, hbox]
    have hbs : b < w.heap.size := (Array.getElem?_eq_some_iff.1 hbox).1
    have hgs : g < w.heap.size := hm.there g o hIg
    have hown : (B id).ownBlock = some blk := by rw [e]; rfl
    have hgb : g ≠ blk := fun q => by
     obtain ⟨_, _, _, _, hno⟩ := hm.objs id _ hM
     exact hno blk hown o (q ▸ hIg)
    have hbb : b ≠ blk := fun q => hm.apart id _ jb _ hM hB hne blk hown ⟨0, by rw [hBb, q]⟩
    have eg : ∀ args w, (callFunc 58 args).run Try.prog w = .ok (.enter 58 args) w := enters_of Try.func58 (by kernel_rfl) rfl
    haveI : Inhabited (Fin N) := ⟨⟨0, hN⟩⟩
    obtain ⟨d, hd⟩ : ∃ d : List (Fin N), d = zs.pmap (fun z h => (⟨z, h⟩ : Fin N)) hz := ⟨_, rfl⟩
    have hmap : zN zs = d.map fun x => ((x.val : Nat) : Int) := by rw [hd]; simp [zN, List.map_pmap, List.pmap_eq_map]
    have gives : ∀ (W : World) (x : Fin N), W.cell? ⟨b, 0, none⟩ = some (.slice (some ⟨g, o, none⟩) N cap') → W.cell? ⟨g, o + x.val, none⟩ = some (.int .i64 (F x.val : Int)) → FnGives Try.prog 58 #[.pointer (some ⟨b, 0, none⟩)] #[encN x] (.bool (decide (F x.val = 0))) W := fun W x h1 h2 => by
     refine (pathA_any N (F x.val : Int) x.val x.isLt b g o cap' W h1 h2).mono ?_
     rintro e' w' ⟨rfl, rfl⟩
     refine ⟨?_, 0, rfl⟩
     by_cases q : F x.val = 0 <;> simp [q]
    have hHd : Sort.Holds encN w blk off d.toArray := fun j hj => by
     have hj' : j < d.length := by simpa using hj
     have := hH j (by rw [hmap]; simpa using hj')
     have e1 : (d.map fun x => ((x.val : Nat) : Int)).toArray[j]! = ((d[j].val : Nat) : Int) := by
      rw [getElem!_pos _ j (by simpa using hj')]; simp
     have e2 : d.toArray[j]! = d[j] := by rw [getElem!_pos d.toArray j hj]; simp
     rw [hmap, e1] at this
     rw [e2]
     exact this
    have hdl : d.length = zs.length := by rw [hd, List.length_pmap]
    have hcon := AnyE.slices_DeleteFunc Try.laysDel (encN (N := N)) (fun _ => rfl) (fun x : Fin N => decide (F x.val = 0)) 58 #[.pointer (some ⟨b, 0, none⟩)] eg ⟨0, hN⟩ Try.zeroValue3 blk off cap d.toArray w
     (fun W x hbl => gives W x ((hbl.cell (p := ⟨b, 0, none⟩) hbs).trans hbc) ((hbl.cell (p := ⟨g, o + x.val, none⟩) hgs).trans (hcell x.val x.isLt)))
     (fun n os dk x hs => gives _ x (by
       unfold sortWorld
       rw [Sort.cell?_grow _ _ _ (by show b < (Sort.putRow _ _ _ _ _).heap.size; rw [Sort.size_putRow]; exact hbs), Sort.cell?_putRow_other _ _ blk off _ _ (Or.inl hbb)]
       exact hbc) (by
       unfold sortWorld
       rw [Sort.cell?_grow _ _ _ (by show g < (Sort.putRow _ _ _ _ _).heap.size; rw [Sort.size_putRow]; exact hgs), Sort.cell?_putRow_other _ _ blk off _ _ (Or.inl hgb)]
       exact hcell x.val x.isLt))
     hHd (by simp; omega) (by rw [zN_len] at hcap; simp; omega)
    have hfilt : (d.filter fun x => !decide (F x.val = 0)).map (fun x => ((x.val : Nat) : Int)) = GG (zN zs) := by
     rw [hmap, hGG]; simp [List.filter_map, Function.comp_def]
    have hzl : (zN zs).length = d.length := by rw [hmap, List.length_map]
    rw [hv, hBb, hzl, ← hfilt, List.length_map]
    refine Calls.mono hcon ?_
    rintro e' w' ⟨rfl, q, rfl⟩
    refine ⟨rfl, q, #[], ?_⟩
    rw [Sort.grow_empty]
    have henc : (encN (N := N)) = fun x => Value.int .i64 ((x.val : Nat) : Int) := rfl
    rw [henc, putRow_enc, List.map_append, List.map_replicate]
    rfl
 ·intro h0 w0 I0 B I w rv hm hrv
  match rv, hrv with
  | [v], _ =>
   refine (del_nil v w).mono ?_
   rintro e' w' ⟨rfl, rfl⟩
   exact ⟨rfl, 0, #[], (Sort.grow_empty _).symm⟩
end V
end Go.Proofs.Ytmhchhmhpoldhaa
end
section
namespace Go.Proofs.Ytmhchhmhpoldhaa
namespace V
open Go.RowKit
theorem sort_ok (zs : List Int) (hlen : zs.length < 4611686018427387904) (M : Mem) (id : Nat) {ty : TypeId} (hM : M id = some (.mrow ty 1 (zs.map cI))) :
  CallE Try.prog 61 [.own id] M [] (.tup []) (upd M id (some (.mrow ty 1 ((zs.mergeSort leI).map cI)))) :=
 sort_mut (enters_of Try.func61 (by kernel_rfl) rfl) (fun blk off cap zs w h1 h2 h3 => Try.slices_Sort_int blk off cap zs w h1 h2 h3) (fun p cap w => Try.slices_Sort_int_none p cap w) zs hlen M id hM
end V
end Go.Proofs.Ytmhchhmhpoldhaa
end
section
set_option linter.unusedVariables false
namespace Go.Proofs.Ytmhchhmhpoldhaa
namespace V
open Go.RowKit G
def lsI (F : Nat → Nat) (d : Nat) (l : List Nat) : Int := l.foldl (fun a i => if F i = d ∧ (a < 0 ∨ ((i / 2 : Nat) : Int) < a) then ((i / 2 : Nat) : Int) else a) (-1)
theorem lsI_snoc (F : Nat → Nat) (d : Nat) (l : List Nat) (i : Nat) : lsI F d (l ++ [i]) = if F i = d ∧ (lsI F d l < 0 ∨ ((i / 2 : Nat) : Int) < lsI F d l) then ((i / 2 : Nat) : Int) else lsI F d l := by rw [lsI, List.foldl_append]; rfl
theorem snocN {p : List Nat → Prop} (h0 : p []) (h1 : ∀ l x, p l → p (l ++ [x])) (l : List Nat) : p l := by
 rw [← List.reverse_reverse l]
 induction l.reverse with
 | nil => exact h0
 | cons x r ih => rw [List.reverse_cons]; exact h1 _ _ ih
theorem lsI_spec (F : Nat → Nat) (d : Nat) (l : List Nat) : (lsI F d l = -1 ∧ ∀ i ∈ l, F i ≠ d) ∨ ∃ q : Nat, lsI F d l = q ∧ (∃ i ∈ l, F i = d ∧ i / 2 = q) ∧ ∀ i ∈ l, F i = d → q ≤ i / 2 := by
 induction l using snocN with
 | h0 => exact .inl ⟨rfl, fun i hi => by simp at hi⟩
 | h1 l x ih =>
  rw [lsI_snoc]
  by_cases hx : F x = d
  ·rcases ih with ⟨e, h⟩ | ⟨q, e, ⟨i, hi, h1, h2⟩, h3⟩
   ·rw [e, if_pos ⟨hx, .inl (by decide)⟩]
    refine .inr ⟨x / 2, rfl, ⟨x, by simp, hx, rfl⟩, fun i hi hq => ?_⟩
    rcases List.mem_append.1 hi with hi | hi
    ·exact absurd hq (h i hi)
    ·simp at hi; subst hi; exact Nat.le_refl _
   ·rw [e]
    by_cases hlt : x / 2 < q
    ·rw [if_pos ⟨hx, .inr (by omega)⟩]
     refine .inr ⟨x / 2, rfl, ⟨x, by simp, hx, rfl⟩, fun i hi hq => ?_⟩
     rcases List.mem_append.1 hi with hi | hi
     ·have := h3 i hi hq; omega
     ·simp at hi; subst hi; exact Nat.le_refl _
    ·rw [if_neg (by omega)]
     refine .inr ⟨q, rfl, ⟨i, by simp [hi], h1, h2⟩, fun i hi hq => ?_⟩
     rcases List.mem_append.1 hi with hi | hi
     ·exact h3 i hi hq
     ·simp at hi; subst hi; omega
  ·rw [if_neg (fun h => hx h.1)]
   rcases ih with ⟨e, h⟩ | ⟨q, e, ⟨i, hi, h1, h2⟩, h3⟩
   ·refine .inl ⟨e, fun i hi => ?_⟩
    rcases List.mem_append.1 hi with hi | hi
    ·exact h i hi
    ·simp at hi; subst hi; exact hx
   ·refine .inr ⟨q, e, ⟨i, by simp [hi], h1, h2⟩, fun i hi hq => ?_⟩
    rcases List.mem_append.1 hi with hi | hi
    ·exact h3 i hi hq
    ·simp at hi; subst hi; exact absurd hq hx
theorem lsI_eq {S : List (Nat × Nat)} {T : List Nat} {F : Nat → Nat} {N d : Nat} (hF : ∀ i, i < N → ∀ v, F i = v + 1 ↔ Ms.Dst S T i v) {l : List Nat} (hl : ∀ i ∈ l, i < N) (hex : ∃ i, i ∈ l ∧ Ms.Dst S T i d) : lsI F (d + 1) l = (lst (cand S T d (· ∈ l)) : Nat) := by
 obtain ⟨i, hi, hd⟩ := hex
 rcases lsI_spec F (d + 1) l with ⟨-, h⟩ | ⟨q, e, ⟨j, hj, h1, h2⟩, h3⟩
 ·exact absurd ((hF i (hl i hi) d).2 hd) (h i hi)
 ·rw [e, lst_eq (q := q) ⟨j, hj, h2, (hF j (hl j hj) d).1 h1⟩ fun x ⟨y, y1, y2, y3⟩ => by have := h3 y y1 ((hF y (hl y y1) d).2 y3); omega]
def nx (S : List (Nat × Nat)) (F : Nat → Nat) (d : Nat) (q : Int) (l : List Nat) : List Nat := l.flatMap fun i => if ((i / 2 : Nat) : Int) = q ∧ F i = d then outs S i else []
theorem nx_snoc (S : List (Nat × Nat)) (F : Nat → Nat) (d : Nat) (q : Int) (l : List Nat) (i : Nat) : nx S F d q (l ++ [i]) = nx S F d q l ++ (if ((i / 2 : Nat) : Int) = q ∧ F i = d then outs S i else []) := by
 unfold nx; rw [List.flatMap_append]; simp
theorem nx_len (S : List (Nat × Nat)) (F : Nat → Nat) (d : Nat) (q : Int) (hS : ∀ i, (outs S i).length ≤ S.length) : ∀ l, (nx S F d q l).length ≤ l.length * S.length := fun l => by
 induction l with
 | nil => simp [nx]
 | cons i l ih =>
  have : nx S F d q (i :: l) = (if ((i / 2 : Nat) : Int) = q ∧ F i = d then outs S i else []) ++ nx S F d q l := rfl
  rw [this, List.length_append, List.length_cons, Nat.add_mul, Nat.one_mul]
  have h1 : (if ((i / 2 : Nat) : Int) = q ∧ F i = d then outs S i else []).length ≤ S.length := by split; exact hS i; simp
  omega
theorem sorted_up {zs : List Int} (h : zs.Pairwise fun a b => leI a b = true) {i j : Nat} (hij : i ≤ j) (hj : j < zs.length) : zs.toArray[i]! ≤ zs.toArray[j]! := by
 have e : ∀ k, k < zs.length → zs.toArray[k]! = zs[k]! := fun k hk => by simp
 rw [e i (by omega), e j hj, getElem!_pos zs i (by omega), getElem!_pos zs j hj]
 by_cases q : i = j
 ·subst q; exact Int.le_refl _
 ·have := List.pairwise_iff_getElem.1 h i j (by omega) hj (by omega)
  simpa [leI] using this
theorem compact_up {zs : List Int} (h : zs.Pairwise fun a b => leI a b = true) : ∀ m, m ≤ zs.length → (Lib.compactUpTo zs.toArray m).Nodup ∧ ∀ x ∈ Lib.compactUpTo zs.toArray m, ∃ i, i < m ∧ x = zs.toArray[i]! := fun m => by
 induction m with
 | zero => intro _; exact ⟨by simp [Lib.compactUpTo], by simp [Lib.compactUpTo]⟩
 | succ m ih =>
  intro hm
  obtain ⟨h1, h2⟩ := ih (by omega)
  rw [Lib.compactUpTo_succ]
  by_cases hk : Lib.keeps zs.toArray m = true
  ·rw [if_pos hk]
   refine ⟨List.nodup_append.2 ⟨h1, by simp, fun a ha b hb => ?_⟩, fun x hx => ?_⟩
   ·simp at hb; subst hb
    obtain ⟨i, hi, rfl⟩ := h2 a ha
    have hne : zs.toArray[m]! ≠ zs.toArray[m - 1]! := by
     have : m = 0 ∨ zs.toArray[m]! ≠ zs.toArray[m - 1]! := by simpa [Lib.keeps] using hk
     rcases this with rfl | q
     ·omega
     ·exact q
    have a1 := sorted_up h (i := i) (j := m - 1) (by omega) (by omega)
    have a2 := sorted_up h (i := m - 1) (j := m) (by omega) (by omega)
    intro q
    have q : zs.toArray[i]! = zs.toArray[m]! := by simpa using q
    omega
   ·rcases List.mem_append.1 hx with hx | hx
    ·obtain ⟨i, hi, e⟩ := h2 x hx; exact ⟨i, by omega, e⟩
    ·simp only [List.mem_singleton] at hx; exact ⟨m, by omega, hx⟩
  ·rw [if_neg hk, List.append_nil]
   exact ⟨h1, fun x hx => by obtain ⟨i, hi, e⟩ := h2 x hx; exact ⟨i, by omega, e⟩⟩
theorem sort_pair (zs : List Int) : (zs.mergeSort leI).Pairwise fun a b => leI a b = true :=
 List.pairwise_mergeSort (le := leI) (fun a b c h1 h2 => by simp [leI] at h1 h2 ⊢; omega) (fun a b => by simp [leI]; omega) zs
theorem compact_nodup (zs : List Int) : (Lib.compact (zs.mergeSort leI)).Nodup := (compact_up (sort_pair zs) _ (Nat.le_refl _)).1
def cmp (l : List Nat) : List Nat := (Lib.compact ((zN l).mergeSort leI)).map Int.toNat
theorem mem_cmpZ {l : List Nat} {z : Int} (h : z ∈ Lib.compact ((zN l).mergeSort leI)) : ∃ i ∈ l, (i : Int) = z := by
 have := List.mem_mergeSort.1 (mem_compact.1 h)
 simpa [zN] using this
theorem zN_cmp (l : List Nat) : zN (cmp l) = Lib.compact ((zN l).mergeSort leI) := by
 unfold zN cmp
 rw [List.map_map]
 refine (List.map_congr_left fun z hz => ?_).trans (List.map_id _)
 obtain ⟨i, -, rfl⟩ := mem_cmpZ hz
 rfl
theorem mem_cmp {l : List Nat} {j : Nat} : j ∈ cmp l ↔ j ∈ l := by
 unfold cmp
 rw [List.mem_map]
 constructor
 ·rintro ⟨z, hz, rfl⟩
  obtain ⟨i, hi, rfl⟩ := mem_cmpZ hz
  exact hi
 ·intro h
  exact ⟨(j : Int), mem_compact.2 (List.mem_mergeSort.2 (List.mem_map.2 ⟨j, h, rfl⟩)), rfl⟩
theorem nodup_lt_len {N : Nat} : ∀ {l : List Nat}, l.Nodup → (∀ x ∈ l, x < N) → l.length ≤ N := fun {l} h1 h2 => nodup_le h1 h2
theorem cmp_len {l : List Nat} {N : Nat} (h : ∀ j ∈ l, j < N) : (cmp l).length ≤ N := by
 refine nodup_lt_len ?_ (fun x hx => h x (mem_cmp.1 hx))
 have h1 := compact_nodup (zN l)
 rw [← zN_cmp] at h1
 unfold zN at h1
 exact List.Pairwise.of_map (fun i : Nat => (i : Int)) (fun a b (h : (a : Int) ≠ (b : Int)) q => h (by rw [q])) h1
theorem path_next {S : List (Nat × Nat)} {T : List Nat} {F : Nat → Nat} {N d : Nat} (hF : ∀ i, i < N → ∀ v, F i = v + 1 ↔ Ms.Dst S T i v) {l : List Nat} (hl : ∀ i ∈ l, i < N) (hex : ∃ i, i ∈ l ∧ Ms.Dst S T i (d + 1)) {q : Int} (hq : q = (lst (cand S T (d + 1) (· ∈ l)) : Nat)) :
  (∀ j, succP S (sts S T (d + 1) (· ∈ l)) j ↔ j ∈ cmp (nx S F (d + 2) q l)) ∧ ∃ j, j ∈ cmp (nx S F (d + 2) q l) ∧ Ms.Dst S T j d := by
 have key : ∀ j, succP S (sts S T (d + 1) (· ∈ l)) j ↔ j ∈ cmp (nx S F (d + 2) q l) := fun j => by
  rw [mem_cmp]
  unfold succP sts nx
  rw [List.mem_flatMap]
  constructor
  ·rintro ⟨i, ⟨h1, h2, h3⟩, e⟩
   exact ⟨i, h1, by rw [if_pos ⟨by rw [hq, h2], (hF i (hl i h1) _).2 h3⟩]; exact mem_outs.2 e⟩
  ·rintro ⟨i, h1, h⟩
   split at h
   ·rename_i c
    exact ⟨i, ⟨h1, by have := c.1; omega, (hF i (hl i h1) _).1 c.2⟩, mem_outs.1 h⟩
   ·simp at h
 refine ⟨key, ?_⟩
 obtain ⟨j, hj, hd⟩ := sts_next (cand_some hex)
 exact ⟨j, (key j).1 hj, hd⟩
end V
end Go.Proofs.Ytmhchhmhpoldhaa
end
section
set_option linter.unusedVariables false
namespace Go.Proofs.Ytmhchhmhpoldhaa
namespace V
open Go.RowKit G
def beg (F : Nat → Nat) (l : List Nat) : Option Nat := l.foldl (fun a i => if F (2 * i) = 0 then a else match a with | none => some i | some q => if F (2 * i) < F (2 * q) ∨ F (2 * i) = F (2 * q) ∧ i < q then some i else some q) none
def begS (F : Nat → Nat) (a : Option Nat) (i : Nat) : Option Nat := if F (2 * i) = 0 then a else match a with | none => some i | some q => if F (2 * i) < F (2 * q) ∨ F (2 * i) = F (2 * q) ∧ i < q then some i else some q
theorem beg_snoc (F : Nat → Nat) (l : List Nat) (i : Nat) : beg F (l ++ [i]) = begS F (beg F l) i := by rw [beg, List.foldl_append]; rfl
theorem beg_spec (F : Nat → Nat) (l : List Nat) : (beg F l = none ∧ ∀ i ∈ l, F (2 * i) = 0) ∨ ∃ q, beg F l = some q ∧ q ∈ l ∧ F (2 * q) ≠ 0 ∧ ∀ i ∈ l, F (2 * i) ≠ 0 → F (2 * q) ≤ F (2 * i) ∧ (F (2 * i) = F (2 * q) → q ≤ i) := by
 induction l using snocN with
 | h0 => exact .inl ⟨rfl, fun i hi => by simp at hi⟩
 | h1 l x ih =>
  rw [beg_snoc]
  unfold begS
  by_cases h0 : F (2 * x) = 0
  ·rw [if_pos h0]
   rcases ih with ⟨e, h⟩ | ⟨q, e, h1, h2, h3⟩
   ·refine .inl ⟨e, fun i hi => ?_⟩
    rcases List.mem_append.1 hi with hi | hi
    ·exact h i hi
    ·simp at hi; subst hi; exact h0
   ·refine .inr ⟨q, e, by simp [h1], h2, fun i hi hn => ?_⟩
    rcases List.mem_append.1 hi with hi | hi
    ·exact h3 i hi hn
    ·simp at hi; subst hi; exact absurd h0 hn
  ·rw [if_neg h0]
   rcases ih with ⟨e, h⟩ | ⟨q, e, h1, h2, h3⟩
   ·rw [e]
    refine .inr ⟨x, rfl, by simp, h0, fun i hi hn => ?_⟩
    rcases List.mem_append.1 hi with hi | hi
    ·exact absurd (h i hi) hn
    ·simp at hi; subst hi; exact ⟨Nat.le_refl _, fun _ => Nat.le_refl _⟩
   ·rw [e]
    simp only
    by_cases c : F (2 * x) < F (2 * q) ∨ F (2 * x) = F (2 * q) ∧ x < q
    ·rw [if_pos c]
     refine .inr ⟨x, rfl, by simp, h0, fun i hi hn => ?_⟩
     rcases List.mem_append.1 hi with hi | hi
     ·have := h3 i hi hn
      refine ⟨by omega, fun q => ?_⟩
      have := this.2
      omega
     ·simp at hi; subst hi; exact ⟨Nat.le_refl _, fun _ => Nat.le_refl _⟩
    ·rw [if_neg c]
     refine .inr ⟨q, rfl, by simp [h1], h2, fun i hi hn => ?_⟩
     rcases List.mem_append.1 hi with hi | hi
     ·exact h3 i hi hn
     ·simp at hi; subst hi; omega
def onw (S : List (Nat × Nat)) (l : List Nat) : List Nat := l.flatMap (outs S)
theorem mem_onw {S : List (Nat × Nat)} {l : List Nat} {j : Nat} : j ∈ onw S l ↔ ∃ i ∈ l, (i, j) ∈ S := by
 unfold onw; rw [List.mem_flatMap]
 exact ⟨fun ⟨i, h1, h2⟩ => ⟨i, h1, mem_outs.1 h2⟩, fun ⟨i, h1, h2⟩ => ⟨i, h1, mem_outs.2 h2⟩⟩
noncomputable def pathR (S : List (Nat × Nat)) (T : List Nat) (F : Nat → Nat) (zs : List Nat) : List Nat :=
 match zs.filter fun z => !decide (F z = 0) with
 | [] => []
 | x :: l => pathP S T (F (minG F x l) - 1) (· ∈ x :: l)
noncomputable def walkR (S : List (Nat × Nat)) (T : List Nat) (F : Nat → Nat) (src : List Nat) : List Nat :=
 match beg F src with
 | none => []
 | some q => q :: tailP S T (· = 2 * q) (F (2 * q) - 1)
theorem pathR_eq {S : List (Nat × Nat)} {t N : Nat} {F : Nat → Nat} (hF : ∀ i, i < N → ∀ v, F i = v + 1 ↔ Ms.Dst S (ends2 t) i v) {src : List Nat} (hs : ∀ i ∈ src, 2 * i < N) :
  (Reached S src t → pathR S (ends2 t) F (ph1 src) = pathF S src t) ∧ (¬ Reached S src t → pathR S (ends2 t) F (ph1 src) = []) := by
 have hlt : ∀ {z}, z ∈ ph1 src → z < N := fun hz => by obtain ⟨i, hi, rfl⟩ := List.mem_map.1 hz; exact hs i hi
 unfold pathR
 cases hf : (ph1 src).filter fun z => !decide (F z = 0) with
 | nil =>
  have h0 : ∀ z ∈ ph1 src, F z = 0 := fun z hz => by
   have := List.filter_eq_nil_iff.1 hf z hz
   simpa using this
  have : ¬ Reached S src t := fun h => by
   obtain ⟨i, hi, v, hv⟩ := reached_iff.1 h
   have := (hF i (hlt hi) v).2 hv
   rw [h0 i hi] at this; omega
  exact ⟨fun h => absurd h this, fun _ => rfl⟩
 | cons x l =>
  have hm : ∀ z, z ∈ x :: l ↔ z ∈ ph1 src ∧ F z ≠ 0 := fun z => by rw [← hf, List.mem_filter]; simp
  have hr : ∀ z, z ∈ x :: l → ∃ v, F z = v + 1 ∧ Ms.Dst S (ends2 t) z v := fun z hz => by
   have := (hm z).1 hz
   exact ⟨F z - 1, by omega, (hF z (hlt this.1) _).1 (by omega)⟩
  obtain ⟨m1, m2, m3⟩ := minG_spec F l x
  have hmin : minG F x l ∈ x :: l := m1.elim (fun h => by rw [h]; simp) fun h => by simp [h]
  obtain ⟨v, hv, hd⟩ := hr _ hmin
  have hre : Reached S src t := reached_iff.2 ⟨_, ((hm _).1 hmin).1, v, hd⟩
  refine ⟨fun _ => ?_, fun h => absurd hre h⟩
  have hlo : ∀ z ∈ x :: l, F (minG F x l) ≤ F z := fun z hz => by
   rcases List.mem_cons.1 hz with rfl | hz
   ·exact m2
   ·exact m3 z hz
  have hmany : many S src t = v := lst_eq ⟨_, ((hm _).1 hmin).1, hd⟩ fun u ⟨i, hi, hu⟩ => by
   have h1 := (hF i (hlt hi) u).2 hu
   have h2 := hlo i ((hm i).2 ⟨hi, by omega⟩)
   omega
  unfold pathF
  simp only
  rw [hmany, show F (minG F x l) - 1 = v by omega]
  have hc : ∀ P : Nat → Prop, (∀ z, P z → z ∈ ph1 src) → (∀ z, z ∈ ph1 src → F z ≠ 0 → P z) → ∀ q, cand S (ends2 t) v P q ↔ cand S (ends2 t) v (· ∈ ph1 src) q := fun P hP1 hP2 q =>
   ⟨fun ⟨i, h1, h2, h3⟩ => ⟨i, hP1 i h1, h2, h3⟩, fun ⟨i, h1, h2, h3⟩ => ⟨i, hP2 i h1 (by have := (hF i (hlt h1) v).2 h3; omega), h2, h3⟩⟩
  have hc1 : cand S (ends2 t) v (· ∈ x :: l) = cand S (ends2 t) v (· ∈ ph1 src) := funext fun q => propext (hc _ (fun z hz => ((hm z).1 hz).1) (fun z h1 h2 => (hm z).2 ⟨h1, h2⟩) q)
  rw [pathP_tail, pathP_tail, hc1]
  congr 1
  refine tailP_congr (fun i => ?_) v
  unfold sts
  rw [hc1]
  constructor
  ·rintro ⟨h1, h2, h3⟩; exact ⟨((hm i).1 h1).1, h2, h3⟩
  ·rintro ⟨h1, h2, h3⟩; exact ⟨(hm i).2 ⟨h1, by have := (hF i (hlt h1) v).2 h3; omega⟩, h2, h3⟩
theorem walkR_eq {S : List (Nat × Nat)} {t N : Nat} {F : Nat → Nat} (hF : ∀ i, i < N → ∀ v, F i = v + 1 ↔ Ms.Dst S (ends2 t) i v) {src : List Nat} (hs : ∀ i ∈ src, 2 * i < N) :
  (Reached S src t → walkR S (ends2 t) F src = pathF S src t) ∧ (¬ Reached S src t → walkR S (ends2 t) F src = []) := by
 unfold walkR
 rcases beg_spec F src with ⟨e, h⟩ | ⟨q, e, h1, h2, h3⟩
 ·rw [e]
  have : ¬ Reached S src t := fun hr => by
   obtain ⟨z, hz, v, hv⟩ := reached_iff.1 hr
   obtain ⟨i, hi, rfl⟩ := List.mem_map.1 hz
   have := (hF _ (hs i hi) v).2 hv
   rw [h i hi] at this; omega
  exact ⟨fun h => absurd h this, fun _ => rfl⟩
 ·rw [e]
  simp only
  obtain ⟨v, hv⟩ : ∃ v, F (2 * q) = v + 1 := ⟨F (2 * q) - 1, by omega⟩
  have hd := (hF _ (hs q h1) v).1 hv
  have hq : 2 * q ∈ ph1 src := List.mem_map.2 ⟨q, h1, rfl⟩
  have hre : Reached S src t := reached_iff.2 ⟨_, hq, v, hd⟩
  refine ⟨fun _ => ?_, fun h => absurd hre h⟩
  have hmany : many S src t = v := lst_eq ⟨_, hq, hd⟩ fun u ⟨z, hz, hu⟩ => by
   obtain ⟨i, hi, rfl⟩ := List.mem_map.1 hz
   have a1 := (hF _ (hs i hi) u).2 hu
   have a2 := (h3 i hi (by omega)).1
   omega
  have hl : lst (cand S (ends2 t) v (· ∈ ph1 src)) = q := lst_eq ⟨2 * q, hq, by omega, hd⟩ fun x ⟨y, y1, y2, y3⟩ => by
   obtain ⟨i, hi, rfl⟩ := List.mem_map.1 y1
   have a1 := (hF _ (hs i hi) v).2 y3
   have a2 := (h3 i hi (by omega)).2 (by omega)
   omega
  unfold pathF
  rw [hmany, pathP_tail, hl, show F (2 * q) - 1 = v by omega]
  congr 1
  refine tailP_congr (fun i => ?_) v
  unfold sts
  rw [hl]
  constructor
  ·rintro rfl; exact ⟨hq, by omega, hd⟩
  ·rintro ⟨a1, a2, a3⟩
   obtain ⟨j, hj, rfl⟩ := List.mem_map.1 a1
   omega
end V
end Go.Proofs.Ytmhchhmhpoldhaa
end
section
set_option linter.unusedVariables false
set_option linter.unusedSimpArgs false
namespace Go.Proofs.Ytmhchhmhpoldhaa
namespace V
open Go.RowKit G
theorem onw_snoc (S : List (Nat × Nat)) (l : List Nat) (x : Nat) : onw S (l ++ [x]) = onw S l ++ outs S x := by unfold onw; rw [List.flatMap_append]; simp
theorem tdiv_two (k : Nat) : (k : Int).tdiv 2 = ((k / 2 : Nat) : Int) := by rw [Int.tdiv_eq_ediv_of_nonneg (by omega)]; omega
theorem W.join {P : Go.Program} {R : Ref} {n : Nat} {ds : List Deferred} {st : St} {x y : Code} {K : Exit → St → Prop} {ι : Type} (mk : ι → St) (Q : ι → Prop)
  (h : W P R n ds st x (fun e st' => e = .normal ∧ ∀ c K', (∀ i, Q i → W P R n ds (mk i) c K') → W P R n ds st' c K')) (k : ∀ i, Q i → W P R n ds (mk i) y K) : W P R n ds st x (thenK (fun st' => W P R n ds st' y K) K) := by
 refine W.mono h ?_
 rintro e st' ⟨rfl, h2⟩
 exact h2 y K k
end V
end Go.Proofs.Ytmhchhmhpoldhaa
end
section
set_option linter.unusedVariables false
set_option linter.unusedSimpArgs false
namespace Go.Proofs.Ytmhchhmhpoldhaa
namespace V
open Go.RowKit G
theorem killM_upd (id : Nat) (m : Mem) (j : Nat) (o : Option O) : killM id (upd m j o) = upd (killM id m) j (o.map (O.kill id)) := by
 funext i
 unfold upd
 rw [killM_app]
 split
 ·rfl
 ·rfl
set_option maxHeartbeats 8000000 in
theorem path_ok (N : Nat) (hN : 0 < N) (hN2 : N ≤ 200000) (S : List (Nat × Nat)) (hlen : S.length ≤ 1000000) (hS : ∀ e ∈ S, e.1 < N ∧ e.2 < N) (T : List Nat) (F : Nat → Nat) (hF : ∀ i, F i ≤ N) (hFD : ∀ i, i < N → ∀ v, F i = v + 1 ↔ Ms.Dst S T i v) (zs : List Nat) (hz : ∀ z ∈ zs, z < N) (hzl : zs.length ≤ 1000000) (M : Mem) (id : Nat) (hid : 50 ≤ id) (hM : M id = some (.mrow 3 1 ((zN zs).map cI))) (hkM : killM id M = M) (hM4 : ∀ j, j < 50 → M j = none) :
  CallE Try.prog 44 [.c (.sl (tabU S N)), .c (.sl (rowF N F)), .own id] M [id] (.c (.sl ((pathR S T F zs).map cN))) (upd M id (some (.arr 3 1 []))) := by
 refine (ok_eff tab_ok [id] Try.func44 (by kernel_rfl) rfl rfl (by rfl) (by rfl) ?ids ?res ?sub ?wfm (fun hWF Rr hkeep => ?_))
 case ids => intro a ha j hj; simp at ha; rcases ha with rfl | rfl | rfl <;> simp [A.ids] at hj; subst hj; rw [hM]; rfl
 case res => intro j hj; simp [A.ids] at hj
 case sub => exact fun j hj => live_upd j hj
 case wfm => exact fun hw => mwf_some hw (fun i hi => by simp [O.ids] at hi)
 have nk : ¬ Rr.keep id := by rw [hkeep]; exact fun h => h.2 (by simp)
 have hM4' : M 4 = none := hM4 4 (by decide)
 have hM30 : M 30 = none := hM4 30 (by decide)
 have hM40 : M 40 = none := hM4 40 (by decide)
 have hid4 : ¬ (id = 4) := by omega
 have hid4' : ¬ (4 = id) := by omega
 have hid30 : ¬ (id = 30) := by omega
 have hid30' : ¬ (30 = id) := by omega
 have hid40 : ¬ (id = 40) := by omega
 have hid40' : ¬ (40 = id) := by omega
 (repeat (first | refine W.seq ?_ | refine W.block ?_ | refine W.skip ?_ | refine W.exit ?_))
 refine W.region tab_ok 0 (by decide) (exec_run (by simp only [exa, beq_self_eq_true, ByteArray.size, Nat.reduceAdd, Nat.reduceLeDiff, Nat.reduceEqDiff, Nat.reduceMul, Int.reduceToNat, reduceIte, Int.reduceLE, Int.reduceNeg, hM4']; rfl)) ?_
 refine W.scope ?_
 (repeat (first | refine W.seq ?_ | refine W.block ?_ | refine W.skip ?_ | refine W.exit ?_))
 refine W.regionK tab_ok 0 (by decide) ?_
 refine runk_split 2 (by simp only [exa, beq_self_eq_true, ByteArray.size, Nat.reduceAdd, Nat.reduceLeDiff, Nat.reduceEqDiff, Nat.reduceMul, Int.reduceToNat, reduceIte, Int.reduceLE, Int.reduceNeg]; rfl) ?_
 refine runk_callE (D := [id]) rfl rfl rfl rfl rfl (fun j hj => by simp at hj; subst hj; exact nk) (by simp) (cvs_cons cv_refl (cvs_cons cv_refl cvs_nil)) (del_ok N hN F zs hz (by omega) _ id 4 (by simp only [upd_app, hid4, if_false]; exact hM) (by simp only [upd_app, if_true]; rfl) hid4) ?_
 simp only [killL, putS, upd_upd]
 refine runk_exec (by simp only [exa, beq_self_eq_true, ByteArray.size, Nat.reduceAdd, Nat.reduceLeDiff, Nat.reduceEqDiff, Nat.reduceMul, Int.reduceToNat, reduceIte, Int.reduceLE, Int.reduceNeg]; rfl) ?_
 obtain ⟨zf, hzf⟩ : ∃ l, l = zs.filter (fun z => !decide (F z = 0)) := ⟨_, rfl⟩
 have hzfN : ∀ z ∈ zf, z < N := fun z h => by rw [hzf] at h; exact hz z (List.mem_filter.1 h).1
 have hzfl : zf.length ≤ 1000000 := by rw [hzf]; exact Nat.le_trans (List.length_filter_le _ _) hzl
 rw [← hzf]
 refine W.freeze 2 id rfl (by simp only [exa, beq_self_eq_true, ByteArray.size, Nat.reduceAdd, Nat.reduceLeDiff, Nat.reduceEqDiff, Nat.reduceMul, Int.reduceToNat, reduceIte, Int.reduceLE, Int.reduceNeg]; rfl) nk ?_
 obtain ⟨M1, hM1⟩ : ∃ M1, M1 = upd M id (some (.arr 3 1 [])) := ⟨_, rfl⟩
 have hWF1 : WFm M1 := by rw [hM1]; exact mwf_some hWF (fun i hi => by simp [O.ids] at hi)
 have kp1 : ∀ j, Rr.keep j → (M1 j).isSome = true := fun j hj => by rw [hkeep] at hj; rw [hM1]; exact live_upd j hj.1
 have n4 : M1 4 = none := by rw [hM1, upd_ne _ _ hid4']; exact hM4'
 have n30 : M1 30 = none := by rw [hM1, upd_ne _ _ hid30']; exact hM30
 have n40 : M1 40 = none := by rw [hM1, upd_ne _ _ hid40']; exact hM40
 have hk30 : killM 30 M1 = M1 := kill_free hWF1 n30
 have hk40 : killM 40 M1 = M1 := kill_free hWF1 n40
 have nk30 : ¬ Rr.keep 30 := fun h => by rw [hkeep, hM30] at h; simp at h
 have nk40 : ¬ Rr.keep 40 := fun h => by rw [hkeep, hM40] at h; simp at h
 have hmem : upd (killM id (upd (killM id (upd M 4 (some (.box 23 [.c (.sl (rowF N F))])))) id (some (.mrow 3 1 ((zN zf).map cI))))) id (some (.arr 3 1 [])) = upd M1 4 (some (.box 23 [.c (.sl (rowF N F))])) := by
  rw [hM1, upd_comm _ _ _ hid4]
  simp only [killM_upd, hkM, upd_upd, Option.map_some, O.kill, A.kill, List.map_cons, List.map_nil]
 refine W.weaken (st' := ⟨upd (upd (upd (upd (fun _ => .top) 0 (.c (.sl (tabU S N)))) 2 (.c (.sl (zf.map cN)))) 4 (.ptr 4 0)) 6 .nil, upd M1 4 (some (.box 23 [.c (.sl (rowF N F))]))⟩) ?_ ?_
 ·refine le_mk ?sle ?mle ?swf ?mwf (fun j hj => live_upd j (kp1 j hj)) (by rfl)
  case swf => repeat (first | exact swf_top _ | refine swf_upd ?_ (by simp [A.ids, upd_app]))
  case mwf => exact mwf_some hWF1 (fun i hi => by simp [O.ids, A.ids] at hi)
  case sle => repeat (first | exact sle_top _ | exact sle_refl _ | refine sle_upd ?_ (by first | rfl | (simp only [upd_app, killS_app, A.kill, entry_zero, entry_succ, Nat.reduceEqDiff, reduceIte, cI_zN, hid4, hid4']; done)))
  case mle => exact mle_refl' hmem
 repeat (first | refine W.seq ?_ | refine W.block ?_ | refine W.skip ?_ | refine W.exit ?_ | refine W.region tab_ok 0 (by decide) (exec_run (by simp only [exa, beq_self_eq_true, ByteArray.size, Nat.reduceAdd, Nat.reduceLeDiff, Nat.reduceEqDiff, Nat.reduceMul, Int.reduceToNat, reduceIte, Int.reduceLE, Int.reduceNeg, List.length_map]; rfl)) ?_)
 unfold pathR
 rw [← hzf]
 rcases zf with _ | ⟨z0, zr⟩
 ·refine W.cond rfl (fun _ => ?_) (fun h => absurd h (by simp))
  repeat (first | refine W.seq ?_ | refine W.block ?_ | refine W.skip ?_ | refine W.exit ?_ | refine W.region tab_ok 0 (by decide) (exec_run (by simp only [exa, beq_self_eq_true, ByteArray.size, Nat.reduceAdd, Nat.reduceLeDiff, Nat.reduceEqDiff, Nat.reduceMul, Int.reduceToNat, reduceIte, Int.reduceLE, Int.reduceNeg]; rfl)) ?_)
  refine W.asData 6 (x := .sl []) rfl ?_ (by decide)
  refine W.ret ⟨.inr rfl, by rfl, ?_, ?mle⟩
  simp only [Try.f44, resE, resOne, fin, toT, exa, beq_self_eq_true, ByteArray.size, Nat.reduceAdd, Nat.reduceLeDiff, Nat.reduceEqDiff, Nat.reduceMul, Int.reduceToNat, reduceIte, Int.reduceLE, Int.reduceNeg]
  case mle => exact mle_skip (mle_refl' hM1) (by rw [← hM1]; exact n4)
 refine W.cond rfl (fun h => absurd h (by simp; omega)) (fun _ => ?_)
 have hx0N : z0 < N := hzfN z0 (by simp)
 have hzrN : ∀ y ∈ zr, y < N := fun y hy => hzfN y (by simp [hy])
 have hzrl : zr.length ≤ 1000000 := by simp only [List.length_cons] at hzfl; omega
 obtain ⟨mg1, mg2, mg3⟩ := minG_spec F zr z0
 have hmgN := minG_lt (F := F) hx0N hzrN
 have hmgm : minG F z0 zr ∈ z0 :: zr := mg1.elim (fun h => by rw [h]; simp) fun h => by simp [h]
 have hmgF : F (minG F z0 zr) ≠ 0 := by
  have h : minG F z0 zr ∈ zs.filter (fun z => !decide (F z = 0)) := by rw [← hzf]; exact hmgm
  have := (List.mem_filter.1 h).2
  simpa using this
 have hmin := fun m => minF_ok N F (fun i => by have := hF i; omega) z0 zr hx0N hzrN (by omega) m
 obtain ⟨g, hg⟩ : ∃ g, g = minG F z0 zr := ⟨_, rfl⟩
 rw [← hg] at hmgN hmgm hmgF hmin
 simp only
 rw [← hg]
 obtain ⟨v0, hv0⟩ : ∃ v, F g = v + 1 := ⟨F g - 1, by omega⟩
 have hd0 := (hFD g hmgN v0).1 hv0
 have hv0N : v0 < N := by have := hF g; omega
 have hg0 : (0 : Int) ≤ (g : Int) := by omega
 rw [show F g - 1 = v0 by omega]
 obtain ⟨zf, hzf2⟩ : ∃ zf, zf = z0 :: zr := ⟨_, rfl⟩
 rw [← hzf2] at hmgm hmin hzfN hzfl ⊢
 (repeat (first | refine W.seq ?_ | refine W.block ?_ | refine W.skip ?_ | refine W.exit ?_))
 refine W.regionDK tab_ok 0 follows_mixed (by kernel_rfl) (by decide) ?_
 refine runk_split 3 (by simp only [exa, beq_self_eq_true, ByteArray.size, Nat.reduceAdd, Nat.reduceLeDiff, Nat.reduceEqDiff, Nat.reduceMul, Int.reduceToNat, reduceIte, Int.reduceLE, Int.reduceNeg]; rfl) ?_
 refine runk_callR rfl rfl rfl rfl rfl (by simp) (cvrs_cons cvr_refl (cvrs_cons (cvr_fn (caps_one rfl rfl)) cvrs_nil)) (by rfl) (by rfl) hmin ?_
 refine runk_exec (by simp only [exa, beq_self_eq_true, ByteArray.size, Nat.reduceAdd, Nat.reduceLeDiff, Nat.reduceEqDiff, Nat.reduceMul, Int.reduceToNat, reduceIte, Int.reduceLE, Int.reduceNeg, rowF_at hmgN, rowF_len, hmgN, hg0, Int.toNat_natCast, and_self]; rfl) ?_
 (repeat (first | refine W.seq ?_ | refine W.block ?_ | refine W.skip ?_ | refine W.exit ?_))
 refine W.label ?_
 repeat (first | refine W.seq ?_ | refine W.block ?_ | refine W.skip ?_ | refine W.exit ?_ | refine W.region tab_ok 0 (by decide) (exec_run (by simp only [exa, beq_self_eq_true, ByteArray.size, Nat.reduceAdd, Nat.reduceLeDiff, Nat.reduceEqDiff, Nat.reduceMul, Int.reduceToNat, reduceIte, Int.reduceLE, Int.reduceNeg]; rfl)) ?_)
 refine W.newArr 6 30 3 1 rfl (by simp only [upd_app, Nat.reduceEqDiff, reduceIte]; exact n30) ?_
 refine W.loop (ι := Nat × List Nat × List Nat) (fun x => ⟨upd (upd (upd (upd (upd (fun _ => .top) 0 (.c (.sl (tabU S N)))) 2 (.c (.sl ((x.2.1).map cN)))) 4 (.ptr 4 0)) 6 (.own 30)) 8 (.c (.int .i64 ((x.1 + 1 : Nat) : Int))), upd (upd M1 4 (some (.box 23 [.c (.sl (rowF N F))]))) 30 (some (.arr 3 1 ((x.2.2).map cN)))⟩)
  (fun x => x.1 < N ∧ (∀ i ∈ x.2.1, i < N) ∧ x.2.1.length ≤ 1000000 ∧ (∃ i, i ∈ x.2.1 ∧ Ms.Dst S T i x.1) ∧ x.2.2 ++ pathP S T x.1 (· ∈ x.2.1) = pathP S T v0 (· ∈ zf) ∧ x.2.2.length + x.1 = v0) (fun x => x.1) (v0, zf, []) ?start ⟨hv0N, hzfN, hzfl, ⟨g, hmgm, hd0⟩, rfl, by simp⟩ ?round
 case start =>
  simp only [← hv0]
  refine le_mk ?sle ?mle ?swf ?mwf (fun j hj => live_upd j (live_upd j (kp1 j hj))) (by rfl)
  case swf => repeat (first | exact swf_top _ | refine swf_upd ?_ (by simp [A.ids, upd_app]))
  case mwf => repeat (first | exact mwf_base hWF1 (fun i hi => by repeat (first | exact hi | refine live_upd i ?_)) | refine mwf_upd ?_ (by simp [A.ids, O.ids, upd_app]))
  case sle => repeat (first | exact sle_top _ | exact sle_refl _ | refine sle_upd ?_ (by first | rfl | (simp only [upd_app, killS_app, A.kill, entry_zero, entry_succ, Nat.reduceEqDiff, reduceIte]; done)))
  case mle => exact mle_refl _
 case round =>
  rintro ⟨v, nw, out⟩ ⟨i1, i2, i3, i4, i5, i6⟩
  simp only at i1 i2 i3 i4 i5 i6
  repeat (first | refine W.seq ?_ | refine W.block ?_ | refine W.skip ?_ | refine W.exit ?_ | refine W.region tab_ok 0 (by decide) (exec_run (by simp only [exa, beq_self_eq_true, ByteArray.size, Nat.reduceAdd, Nat.reduceLeDiff, Nat.reduceEqDiff, Nat.reduceMul, Int.reduceToNat, reduceIte, Int.reduceLE, Int.reduceNeg, List.length_map]; rfl)) ?_)
  refine W.loop (ι := Nat) (fun k => ⟨upd (upd (upd (upd (upd (upd (upd (upd (upd (fun _ => .top) 0 (.c (.sl (tabU S N)))) 2 (.c (.sl ((nw).map cN)))) 4 (.ptr 4 0)) 6 (.own 30)) 8 (.c (.int .i64 ((v + 1 : Nat) : Int)))) 9 (.c (.int .i64 (lsI F (v + 1) (nw.take k))))) 30 (.c (.sl (nw.map cN)))) 31 (.c (.int .i64 nw.length))) 32 (.c (.int .i64 k)), upd (upd M1 4 (some (.box 23 [.c (.sl (rowF N F))]))) 30 (some (.arr 3 1 ((out).map cN)))⟩) (fun k => k ≤ nw.length) (fun k => nw.length - k) 0 ?start2 (Nat.zero_le _) ?round2
  case start2 =>
   refine le_mk ?sle ?mle ?swf ?mwf (fun j hj => live_upd j (live_upd j (kp1 j hj))) (by rfl)
   case swf => repeat (first | exact swf_top _ | refine swf_upd ?_ (by simp [A.ids, upd_app]))
   case mwf => repeat (first | exact mwf_base hWF1 (fun i hi => by repeat (first | exact hi | refine live_upd i ?_)) | refine mwf_upd ?_ (by simp [A.ids, O.ids, upd_app]))
   case sle => repeat (first | exact sle_top _ | exact sle_refl _ | refine sle_upd ?_ (by first | rfl | (simp only [upd_app, killS_app, A.kill, entry_zero, entry_succ, Nat.reduceEqDiff, reduceIte]; done)))
   case mle => exact mle_refl _
  case round2 =>
   intro k hk
   repeat (first | refine W.seq ?_ | refine W.block ?_ | refine W.skip ?_ | refine W.exit ?_ | refine W.region tab_ok 0 (by decide) (exec_run (by simp only [exa, beq_self_eq_true, ByteArray.size, Nat.reduceAdd, Nat.reduceLeDiff, Nat.reduceEqDiff, Nat.reduceMul, Int.reduceToNat, reduceIte, Int.reduceLE, Int.reduceNeg]; rfl)) ?_)
   refine W.cond rfl ?_ ?_
   ·intro hlt
    simp only [decide_eq_true_eq, Int.ofNat_lt] at hlt
    obtain ⟨i, hi⟩ : ∃ x, nw[k]? = some x := ⟨_, List.getElem?_eq_getElem hlt⟩
    have hiN := i2 i (List.mem_of_getElem? hi)
    have hi0 : (0 : Int) ≤ (i : Int) := by omega
    have hq := tdiv_two i
    have hqw : IntKind.i64.wrap ((i / 2 : Nat) : Int) = ((i / 2 : Nat) : Int) := wrap_nat (by omega)
    have htk : lsI F (v + 1) (nw.take (k + 1)) = if F i = v + 1 ∧ (lsI F (v + 1) (nw.take k) < 0 ∨ ((i / 2 : Nat) : Int) < lsI F (v + 1) (nw.take k)) then ((i / 2 : Nat) : Int) else lsI F (v + 1) (nw.take k) := by
     rw [List.take_add_one, hi, Option.toList_some, lsI_snoc]
    obtain ⟨a, ha⟩ : ∃ a, a = lsI F (v + 1) (nw.take k) := ⟨_, rfl⟩
    rw [← ha] at htk ⊢
    (repeat (first | refine W.seq ?_ | refine W.block ?_ | refine W.skip ?_ | refine W.exit ?_))
    refine W.region tab_ok 0 (by decide) (exec_run (by simp only [exa, beq_self_eq_true, ByteArray.size, Nat.reduceAdd, Nat.reduceLeDiff, Nat.reduceEqDiff, Nat.reduceMul, Int.reduceToNat, reduceIte, Int.reduceLE, Int.reduceNeg, at_map hi, cN]; rfl)) ?_
    (repeat (first | refine W.seq ?_ | refine W.block ?_ | refine W.skip ?_ | refine W.exit ?_))
    refine W.join (ι := Bool) (fun bb => ⟨upd (upd (upd (upd (upd (upd (upd (upd (upd (upd (upd (fun _ => .top) 0 (.c (.sl (tabU S N)))) 2 (.c (.sl ((nw).map cN)))) 4 (.ptr 4 0)) 6 (.own 30)) 8 (.c (.int .i64 ((v + 1 : Nat) : Int)))) 9 (.c (.int .i64 a))) 11 (.c (.int .i64 i))) 30 (.c (.sl (nw.map cN)))) 31 (.c (.int .i64 nw.length))) 32 (.c (.int .i64 k))) 51 (.c (.bool bb)), upd (upd M1 4 (some (.box 23 [.c (.sl (rowF N F))]))) 30 (some (.arr 3 1 ((out).map cN)))⟩) (fun bb => bb = decide (F i = v + 1 ∧ (a < 0 ∨ ((i / 2 : Nat) : Int) < a))) ?_ ?_
    ·have rF := rowF_at (n := N) (F := F) hiN
     have rl := rowF_len N F
     by_cases c0 : F i = v + 1
     ·have p0 : ((F i : Int) = ((v + 1 : Nat) : Int)) = True := eq_true (by omega)
      by_cases c1 : a < 0
      ·have p1 := eq_true c1
       repeat (first | refine W.seq ?_ | refine W.block ?_ | refine W.skip ?_ | refine W.exit ?_ | refine W.region tab_ok 0 (by decide) (exec_run (by simp only [exa, beq_self_eq_true, ByteArray.size, Nat.reduceAdd, Nat.reduceLeDiff, Nat.reduceEqDiff, Nat.reduceMul, Int.reduceToNat, reduceIte, Int.reduceLE, Int.reduceNeg, Int.reduceEq, rF, rl, hiN, hi0, Int.toNat_natCast, and_self, p0, p1, hq, hqw]; rfl)) ?_)
       refine ⟨rfl, fun c K' hk => W.weaken ?_ (hk true (by simp [c0, c1]))⟩
       refine le_mk ?sle ?mle ?swf ?mwf (fun j hj => live_upd j (live_upd j (kp1 j hj))) (by rfl)
       case swf => repeat (first | exact swf_top _ | refine swf_upd ?_ (by simp [A.ids, upd_app]))
       case mwf => repeat (first | exact mwf_base hWF1 (fun i hi => by repeat (first | exact hi | refine live_upd i ?_)) | refine mwf_upd ?_ (by simp [A.ids, O.ids, upd_app]))
       case sle => repeat (first | exact sle_top _ | exact sle_refl _ | refine sle_upd ?_ (by first | rfl | (simp only [upd_app, killS_app, A.kill, entry_zero, entry_succ, Nat.reduceEqDiff, reduceIte]; done)))
       case mle => exact mle_refl _
      ·have p1 := eq_false c1
       repeat (first | refine W.seq ?_ | refine W.block ?_ | refine W.skip ?_ | refine W.exit ?_ | refine W.region tab_ok 0 (by decide) (exec_run (by simp only [exa, beq_self_eq_true, ByteArray.size, Nat.reduceAdd, Nat.reduceLeDiff, Nat.reduceEqDiff, Nat.reduceMul, Int.reduceToNat, reduceIte, Int.reduceLE, Int.reduceNeg, Int.reduceEq, rF, rl, hiN, hi0, Int.toNat_natCast, and_self, p0, p1, hq, hqw]; rfl)) ?_)
       refine ⟨rfl, fun c K' hk => W.weaken ?_ (hk (decide (((i / 2 : Nat) : Int) < a)) (by simp [c0, c1]))⟩
       refine le_mk ?sle ?mle ?swf ?mwf (fun j hj => live_upd j (live_upd j (kp1 j hj))) (by rfl)
       case swf => repeat (first | exact swf_top _ | refine swf_upd ?_ (by simp [A.ids, upd_app]))
       case mwf => repeat (first | exact mwf_base hWF1 (fun i hi => by repeat (first | exact hi | refine live_upd i ?_)) | refine mwf_upd ?_ (by simp [A.ids, O.ids, upd_app]))
       case sle => repeat (first | exact sle_top _ | exact sle_refl _ | refine sle_upd ?_ (by first | rfl | (simp only [upd_app, killS_app, A.kill, entry_zero, entry_succ, Nat.reduceEqDiff, reduceIte]; done)))
       case mle => exact mle_refl _
     ·have p0 : ((F i : Int) = ((v + 1 : Nat) : Int)) = False := eq_false (by omega)
      repeat (first | refine W.seq ?_ | refine W.block ?_ | refine W.skip ?_ | refine W.exit ?_ | refine W.region tab_ok 0 (by decide) (exec_run (by simp only [exa, beq_self_eq_true, ByteArray.size, Nat.reduceAdd, Nat.reduceLeDiff, Nat.reduceEqDiff, Nat.reduceMul, Int.reduceToNat, reduceIte, Int.reduceLE, Int.reduceNeg, Int.reduceEq, rF, rl, hiN, hi0, Int.toNat_natCast, and_self, p0, hq, hqw]; rfl)) ?_)
      refine ⟨rfl, fun c K' hk => W.weaken ?_ (hk false (by simp [c0]))⟩
      refine le_mk ?sle ?mle ?swf ?mwf (fun j hj => live_upd j (live_upd j (kp1 j hj))) (by rfl)
      case swf => repeat (first | exact swf_top _ | refine swf_upd ?_ (by simp [A.ids, upd_app]))
      case mwf => repeat (first | exact mwf_base hWF1 (fun i hi => by repeat (first | exact hi | refine live_upd i ?_)) | refine mwf_upd ?_ (by simp [A.ids, O.ids, upd_app]))
      case sle => repeat (first | exact sle_top _ | exact sle_refl _ | refine sle_upd ?_ (by first | rfl | (simp only [upd_app, killS_app, A.kill, entry_zero, entry_succ, Nat.reduceEqDiff, reduceIte]; done)))
      case mle => exact mle_refl _
    rintro bb hbb
    refine W.cond rfl ?_ ?_
    ·intro h
     have h : bb = true := h
     rw [h] at hbb
     repeat (first | refine W.seq ?_ | refine W.block ?_ | refine W.skip ?_ | refine W.exit ?_ | refine W.region tab_ok 0 (by decide) (exec_run (by simp only [exa, beq_self_eq_true, ByteArray.size, Nat.reduceAdd, Nat.reduceLeDiff, Nat.reduceEqDiff, Nat.reduceMul, Int.reduceToNat, reduceIte, Int.reduceLE, Int.reduceNeg, Int.reduceEq, hq, hqw]; rfl)) ?_)
     refine ⟨k + 1, hlt, by omega, ?_⟩
     rw [htk, if_pos (of_decide_eq_true hbb.symm)]
     refine le_mk ?sle ?mle ?swf ?mwf (fun j hj => live_upd j (live_upd j (kp1 j hj))) (by rfl)
     case swf => repeat (first | exact swf_top _ | refine swf_upd ?_ (by simp [A.ids, upd_app, wrap_succ (show k + 1 < 9223372036854775808 by omega)]))
     case mwf => repeat (first | exact mwf_base hWF1 (fun i hi => by repeat (first | exact hi | refine live_upd i ?_)) | refine mwf_upd ?_ (by simp [A.ids, O.ids, upd_app, wrap_succ (show k + 1 < 9223372036854775808 by omega)]))
     case sle => repeat (first | exact sle_top _ | exact sle_refl _ | refine sle_upd ?_ (by first | rfl | (simp only [upd_app, killS_app, A.kill, entry_zero, entry_succ, Nat.reduceEqDiff, reduceIte, wrap_succ (show k + 1 < 9223372036854775808 by omega)]; done)))
     case mle => exact mle_refl _
    ·intro h
     have h : bb = false := h
     rw [h] at hbb
     repeat (first | refine W.seq ?_ | refine W.block ?_ | refine W.skip ?_ | refine W.exit ?_ | refine W.region tab_ok 0 (by decide) (exec_run (by simp only [exa, beq_self_eq_true, ByteArray.size, Nat.reduceAdd, Nat.reduceLeDiff, Nat.reduceEqDiff, Nat.reduceMul, Int.reduceToNat, reduceIte, Int.reduceLE, Int.reduceNeg]; rfl)) ?_)
     refine ⟨k + 1, hlt, by omega, ?_⟩
     rw [htk, if_neg (of_decide_eq_false hbb.symm)]
     refine le_mk ?sle ?mle ?swf ?mwf (fun j hj => live_upd j (live_upd j (kp1 j hj))) (by rfl)
     case swf => repeat (first | exact swf_top _ | refine swf_upd ?_ (by simp [A.ids, upd_app, wrap_succ (show k + 1 < 9223372036854775808 by omega)]))
     case mwf => repeat (first | exact mwf_base hWF1 (fun i hi => by repeat (first | exact hi | refine live_upd i ?_)) | refine mwf_upd ?_ (by simp [A.ids, O.ids, upd_app, wrap_succ (show k + 1 < 9223372036854775808 by omega)]))
     case sle => repeat (first | exact sle_top _ | exact sle_refl _ | refine sle_upd ?_ (by first | rfl | (simp only [upd_app, killS_app, A.kill, entry_zero, entry_succ, Nat.reduceEqDiff, reduceIte, wrap_succ (show k + 1 < 9223372036854775808 by omega)]; done)))
     case mle => exact mle_refl _
   ·intro hge
    simp only [decide_eq_false_iff_not, Int.ofNat_lt] at hge
    obtain rfl : k = nw.length := by omega
    rw [List.take_length, lsI_eq hFD i2 i4]
    obtain ⟨q, hqe⟩ : ∃ q, q = lst (cand S T v (· ∈ nw)) := ⟨_, rfl⟩
    rw [← hqe]
    (repeat (first | refine W.seq ?_ | refine W.block ?_ | refine W.skip ?_ | refine W.exit ?_))
    refine W.regionK tab_ok 0 (by decide) ?_
    refine runk_split 3 (by simp only [exa, beq_self_eq_true, ByteArray.size, Nat.reduceAdd, Nat.reduceLeDiff, Nat.reduceEqDiff, Nat.reduceMul, Int.reduceToNat, reduceIte, Int.reduceLE, Int.reduceNeg]; rfl) ?_
    refine runk_append tab_ok 30 rfl rfl rfl rfl rfl rfl (by simp only [exa, beq_self_eq_true, ByteArray.size, Nat.reduceAdd, Nat.reduceLeDiff, Nat.reduceEqDiff, Nat.reduceMul, Int.reduceToNat, reduceIte, Int.reduceLE, Int.reduceNeg]) (by simp only [exa, beq_self_eq_true, ByteArray.size, Nat.reduceAdd, Nat.reduceLeDiff, Nat.reduceEqDiff, Nat.reduceMul, Int.reduceToNat, reduceIte, Int.reduceLE, Int.reduceNeg]; rfl) (by first | rfl | (simp only [exa, beq_self_eq_true, ByteArray.size, Nat.reduceAdd, Nat.reduceLeDiff, Nat.reduceEqDiff, Nat.reduceMul, Int.reduceToNat, reduceIte, Int.reduceLE, Int.reduceNeg]; rfl)) rfl rfl rfl rfl nk30 (fun z hz => by simp at hz; subst hz; rfl) (by simp only [List.length_map, List.length_cons, List.length_nil]; omega) (by decide) ?_
    refine runk_exec (by simp only [exa, beq_self_eq_true, ByteArray.size, Nat.reduceAdd, Nat.reduceLeDiff, Nat.reduceEqDiff, Nat.reduceMul, Int.reduceToNat, reduceIte, Int.reduceLE, Int.reduceNeg]; rfl) ?_
    have hpm : (out ++ [q]).map cN = out.map cN ++ [[.int .i64 (q : Int)]] := by simp [cN]
    refine W.weaken (st' := ⟨upd (upd (upd (upd (upd (upd (fun _ => .top) 0 (.c (.sl (tabU S N)))) 2 (.c (.sl ((nw).map cN)))) 4 (.ptr 4 0)) 6 (.own 30)) 8 (.c (.int .i64 ((v + 1 : Nat) : Int)))) 9 (.c (.int .i64 (q : Int))), upd (upd M1 4 (some (.box 23 [.c (.sl (rowF N F))]))) 30 (some (.arr 3 1 (((out ++ [q])).map cN)))⟩) ?_ ?_
    ·skip
     refine le_mk ?sle ?mle ?swf ?mwf (fun j hj => live_upd j (live_upd j (kp1 j hj))) (by rfl)
     case swf => repeat (first | exact swf_top _ | refine swf_upd ?_ (by simp [A.ids, upd_app]))
     case mwf => repeat (first | exact mwf_base hWF1 (fun i hi => by repeat (first | exact hi | refine live_upd i ?_)) | refine mwf_upd ?_ (by simp [A.ids, O.ids, upd_app]))
     case sle => repeat (first | exact sle_top _ | exact sle_refl _ | refine sle_upd ?_ (by first | rfl | (simp only [upd_app, killS_app, A.kill, entry_zero, entry_succ, Nat.reduceEqDiff, reduceIte]; done)))
     case mle => exact mle_refl' (by rw [hpm]; (simp only [killM_upd, hk30, hk40, upd_upd, Option.map_some, O.kill, A.kill, List.map_cons, List.map_nil, List.map_append]))
    repeat (first | refine W.seq ?_ | refine W.block ?_ | refine W.skip ?_ | refine W.exit ?_ | refine W.region tab_ok 0 (by decide) (exec_run (by simp only [exa, beq_self_eq_true, ByteArray.size, Nat.reduceAdd, Nat.reduceLeDiff, Nat.reduceEqDiff, Nat.reduceMul, Int.reduceToNat, reduceIte, Int.reduceLE, Int.reduceNeg]; rfl)) ?_)
    cases v with
    | zero =>
     refine W.cond rfl (fun _ => ?_) (fun h => absurd h (by simp))
     repeat (first | refine W.seq ?_ | refine W.block ?_ | refine W.skip ?_ | refine W.exit ?_ | refine W.region tab_ok 0 (by decide) (exec_run (by simp only [exa, beq_self_eq_true, ByteArray.size, Nat.reduceAdd, Nat.reduceLeDiff, Nat.reduceEqDiff, Nat.reduceMul, Int.reduceToNat, reduceIte, Int.reduceLE, Int.reduceNeg]; rfl)) ?_)
     have i5' : out ++ [q] = pathP S T v0 (· ∈ zf) := by rw [← i5, hqe]; rfl
     refine W.asData 6 (x := .sl ((out ++ [q]).map cN)) rfl ?_ (by decide)
     refine W.ret ⟨.inr rfl, by rfl, ?_, ?mle⟩
     simp only [Try.f44, resE, resOne, fin, toT, exa, beq_self_eq_true, ByteArray.size, Nat.reduceAdd, Nat.reduceLeDiff, Nat.reduceEqDiff, Nat.reduceMul, Int.reduceToNat, reduceIte, Int.reduceLE, Int.reduceNeg]
     ·rw [i5']
     case mle => exact mle_skip (mle_skip (mle_refl' hM1) (by rw [← hM1]; exact n4)) (by rw [← hM1]; exact n30)
    | succ v =>
     refine W.cond rfl (fun h => absurd h (by simp; omega)) (fun _ => ?_)
     have h1 : nw.length * S.length ≤ 1000000 * 1000000 := Nat.mul_le_mul i3 hlen
     have hxl : ∀ k, (nx S F (v + 2) q (nw.take k)).length ≤ 1000000 * 1000000 := fun k => by
      refine Nat.le_trans (nx_len S F (v + 2) q (fun i => outs_len S i) _) (Nat.le_trans (Nat.mul_le_mul_right _ (List.length_take_le' k nw)) h1)
     repeat (first | refine W.seq ?_ | refine W.block ?_ | refine W.skip ?_ | refine W.exit ?_ | refine W.region tab_ok 0 (by decide) (exec_run (by simp only [exa, beq_self_eq_true, ByteArray.size, Nat.reduceAdd, Nat.reduceLeDiff, Nat.reduceEqDiff, Nat.reduceMul, Int.reduceToNat, reduceIte, Int.reduceLE, Int.reduceNeg, List.length_map]; rfl)) ?_)
     refine W.newM 12 40 3 1 rfl (by simp only [upd_app, Nat.reduceEqDiff, reduceIte]; exact n40) ?_
     refine W.loop (ι := Nat) (fun k => ⟨upd (upd (upd (upd (upd (upd (upd (upd (upd (upd (fun _ => .top) 0 (.c (.sl (tabU S N)))) 2 (.c (.sl ((nw).map cN)))) 4 (.ptr 4 0)) 6 (.own 30)) 8 (.c (.int .i64 ((v + 1 + 1 : Nat) : Int)))) 9 (.c (.int .i64 (q : Int)))) 12 (.own 40)) 61 (.c (.sl (nw.map cN)))) 62 (.c (.int .i64 nw.length))) 63 (.c (.int .i64 k)), upd (upd (upd M1 4 (some (.box 23 [.c (.sl (rowF N F))]))) 30 (some (.arr 3 1 (((out ++ [q])).map cN)))) 40 (some (.mrow 3 1 ((nx S F (v + 2) q (nw.take k)).map cN)))⟩) (fun k => k ≤ nw.length) (fun k => nw.length - k) 0 ?start3 (Nat.zero_le _) ?round3
     case start3 =>
      refine le_mk ?sle ?mle ?swf ?mwf (fun j hj => live_upd j (live_upd j (live_upd j (kp1 j hj)))) (by rfl)
      case swf => repeat (first | exact swf_top _ | refine swf_upd ?_ (by simp [A.ids, upd_app]))
      case mwf => repeat (first | exact mwf_base hWF1 (fun i hi => by repeat (first | exact hi | refine live_upd i ?_)) | refine mwf_upd ?_ (by simp [A.ids, O.ids, upd_app]))
      case sle => repeat (first | exact sle_top _ | exact sle_refl _ | refine sle_upd ?_ (by first | rfl | (simp only [upd_app, killS_app, A.kill, entry_zero, entry_succ, Nat.reduceEqDiff, reduceIte]; done)))
      case mle => exact mle_refl _
     case round3 =>
      intro k hk
      repeat (first | refine W.seq ?_ | refine W.block ?_ | refine W.skip ?_ | refine W.exit ?_ | refine W.region tab_ok 0 (by decide) (exec_run (by simp only [exa, beq_self_eq_true, ByteArray.size, Nat.reduceAdd, Nat.reduceLeDiff, Nat.reduceEqDiff, Nat.reduceMul, Int.reduceToNat, reduceIte, Int.reduceLE, Int.reduceNeg]; rfl)) ?_)
      refine W.cond rfl ?_ ?_
      ·intro hlt
       simp only [decide_eq_true_eq, Int.ofNat_lt] at hlt
       obtain ⟨i, hi⟩ : ∃ x, nw[k]? = some x := ⟨_, List.getElem?_eq_getElem hlt⟩
       have hiN := i2 i (List.mem_of_getElem? hi)
       have hi0 : (0 : Int) ≤ (i : Int) := by omega
       have hq := tdiv_two i
       have hqw : IntKind.i64.wrap ((i / 2 : Nat) : Int) = ((i / 2 : Nat) : Int) := wrap_nat (by omega)
       have rF := rowF_at (n := N) (F := F) hiN
       have rl := rowF_len N F
       have htk : (nx S F (v + 2) q (nw.take (k + 1))).map cN = (nx S F (v + 2) q (nw.take k)).map cN ++ (if ((i / 2 : Nat) : Int) = q ∧ F i = v + 2 then (outs S i).map cN else []) := by
        rw [List.take_add_one, hi, Option.toList_some, nx_snoc, List.map_append]
        congr 1
        split <;> rfl
       have hxk := hxl k
       have hol := outs_len S i
       obtain ⟨X, hX⟩ : ∃ X, X = nx S F (v + 2) q (nw.take k) := ⟨_, rfl⟩
       rw [← hX] at htk hxk ⊢
       (repeat (first | refine W.seq ?_ | refine W.block ?_ | refine W.skip ?_ | refine W.exit ?_))
       refine W.region tab_ok 0 (by decide) (exec_run (by simp only [exa, beq_self_eq_true, ByteArray.size, Nat.reduceAdd, Nat.reduceLeDiff, Nat.reduceEqDiff, Nat.reduceMul, Int.reduceToNat, reduceIte, Int.reduceLE, Int.reduceNeg, at_map hi, cN]; rfl)) ?_
       by_cases c0 : ((i / 2 : Nat) : Int) = q ∧ F i = v + 2
       ·have p0 : (((i / 2 : Nat) : Int) = (q : Int)) = True := eq_true c0.1
        have p1 : ((F i : Int) = ((v + 1 + 1 : Nat) : Int)) = True := eq_true (by omega)
        repeat (first | refine W.seq ?_ | refine W.block ?_ | refine W.skip ?_ | refine W.exit ?_ | refine W.region tab_ok 0 (by decide) (exec_run (by simp only [exa, beq_self_eq_true, ByteArray.size, Nat.reduceAdd, Nat.reduceLeDiff, Nat.reduceEqDiff, Nat.reduceMul, Int.reduceToNat, reduceIte, Int.reduceLE, Int.reduceNeg, Int.reduceEq, rF, rl, hiN, hi0, Int.toNat_natCast, and_self, p0, p1, hq, hqw]; rfl)) ?_)
        refine W.cond rfl (fun _ => ?_) (fun h => absurd h (by simp))
        (repeat (first | refine W.seq ?_ | refine W.block ?_ | refine W.skip ?_ | refine W.exit ?_))
        refine W.regionK tab_ok 0 (by decide) ?_
        refine runk_split 5 (by simp only [exa, beq_self_eq_true, ByteArray.size, Nat.reduceAdd, Nat.reduceLeDiff, Nat.reduceEqDiff, Nat.reduceMul, Int.reduceToNat, reduceIte, Int.reduceLE, Int.reduceNeg, tabU_at hiN, tabU_len, hiN, hi0, Int.toNat_natCast, and_self]; rfl) ?_
        refine runk_appendM tab_ok 40 rfl rfl rfl rfl rfl rfl (by simp only [exa, beq_self_eq_true, ByteArray.size, Nat.reduceAdd, Nat.reduceLeDiff, Nat.reduceEqDiff, Nat.reduceMul, Int.reduceToNat, reduceIte, Int.reduceLE, Int.reduceNeg, tabU_at hiN, tabU_len, hiN, hi0, Int.toNat_natCast, and_self]) (by simp only [exa, beq_self_eq_true, ByteArray.size, Nat.reduceAdd, Nat.reduceLeDiff, Nat.reduceEqDiff, Nat.reduceMul, Int.reduceToNat, reduceIte, Int.reduceLE, Int.reduceNeg, tabU_at hiN, tabU_len, hiN, hi0, Int.toNat_natCast, and_self]; rfl) (by first | rfl | (simp only [exa, beq_self_eq_true, ByteArray.size, Nat.reduceAdd, Nat.reduceLeDiff, Nat.reduceEqDiff, Nat.reduceMul, Int.reduceToNat, reduceIte, Int.reduceLE, Int.reduceNeg, tabU_at hiN, tabU_len, hiN, hi0, Int.toNat_natCast, and_self]; rfl)) rfl rfl rfl rfl nk40 (fun z hz => by obtain ⟨y, -, rfl⟩ := List.mem_map.1 hz; rfl) (by simp only [List.length_map]; omega) (by decide) ?_
        refine runk_exec (by simp only [exa, beq_self_eq_true, ByteArray.size, Nat.reduceAdd, Nat.reduceLeDiff, Nat.reduceEqDiff, Nat.reduceMul, Int.reduceToNat, reduceIte, Int.reduceLE, Int.reduceNeg]; rfl) ?_
        repeat (first | refine W.seq ?_ | refine W.block ?_ | refine W.skip ?_ | refine W.exit ?_ | refine W.region tab_ok 0 (by decide) (exec_run (by simp only [exa, beq_self_eq_true, ByteArray.size, Nat.reduceAdd, Nat.reduceLeDiff, Nat.reduceEqDiff, Nat.reduceMul, Int.reduceToNat, reduceIte, Int.reduceLE, Int.reduceNeg]; rfl)) ?_)
        refine ⟨k + 1, hlt, by omega, ?_⟩
        rw [htk, if_pos c0]
        refine le_mk ?sle ?mle ?swf ?mwf (fun j hj => live_upd j (live_upd j (live_upd j (kp1 j hj)))) (by rfl)
        case swf => repeat (first | exact swf_top _ | refine swf_upd ?_ (by simp [A.ids, upd_app, wrap_succ (show k + 1 < 9223372036854775808 by omega)]))
        case mwf => repeat (first | exact mwf_base hWF1 (fun i hi => by repeat (first | exact hi | refine live_upd i ?_)) | refine mwf_upd ?_ (by simp [A.ids, O.ids, upd_app, wrap_succ (show k + 1 < 9223372036854775808 by omega)]))
        case sle => repeat (first | exact sle_top _ | exact sle_refl _ | refine sle_upd ?_ (by first | rfl | (simp only [upd_app, killS_app, A.kill, entry_zero, entry_succ, Nat.reduceEqDiff, reduceIte, wrap_succ (show k + 1 < 9223372036854775808 by omega)]; done)))
        case mle => exact mle_refl' (by (simp only [killM_upd, hk30, hk40, upd_upd, Option.map_some, O.kill, A.kill, List.map_cons, List.map_nil, List.map_append]))
       ·have fin : ∀ bb : Bool, bb = false → True := fun _ _ => trivial
        by_cases c1 : ((i / 2 : Nat) : Int) = q
        ·have p0 : (((i / 2 : Nat) : Int) = (q : Int)) = True := eq_true c1
         have p1 : ((F i : Int) = ((v + 1 + 1 : Nat) : Int)) = False := eq_false (fun h => c0 ⟨c1, by omega⟩)
         repeat (first | refine W.seq ?_ | refine W.block ?_ | refine W.skip ?_ | refine W.exit ?_ | refine W.region tab_ok 0 (by decide) (exec_run (by simp only [exa, beq_self_eq_true, ByteArray.size, Nat.reduceAdd, Nat.reduceLeDiff, Nat.reduceEqDiff, Nat.reduceMul, Int.reduceToNat, reduceIte, Int.reduceLE, Int.reduceNeg, Int.reduceEq, rF, rl, hiN, hi0, Int.toNat_natCast, and_self, p0, p1, hq, hqw]; rfl)) ?_)
         refine W.cond rfl (fun h => absurd h (by simp)) (fun _ => ?_)
         repeat (first | refine W.seq ?_ | refine W.block ?_ | refine W.skip ?_ | refine W.exit ?_ | refine W.region tab_ok 0 (by decide) (exec_run (by simp only [exa, beq_self_eq_true, ByteArray.size, Nat.reduceAdd, Nat.reduceLeDiff, Nat.reduceEqDiff, Nat.reduceMul, Int.reduceToNat, reduceIte, Int.reduceLE, Int.reduceNeg]; rfl)) ?_)
         refine ⟨k + 1, hlt, by omega, ?_⟩
         rw [htk, if_neg c0, List.append_nil]
         refine le_mk ?sle ?mle ?swf ?mwf (fun j hj => live_upd j (live_upd j (live_upd j (kp1 j hj)))) (by rfl)
         case swf => repeat (first | exact swf_top _ | refine swf_upd ?_ (by simp [A.ids, upd_app, wrap_succ (show k + 1 < 9223372036854775808 by omega)]))
         case mwf => repeat (first | exact mwf_base hWF1 (fun i hi => by repeat (first | exact hi | refine live_upd i ?_)) | refine mwf_upd ?_ (by simp [A.ids, O.ids, upd_app, wrap_succ (show k + 1 < 9223372036854775808 by omega)]))
         case sle => repeat (first | exact sle_top _ | exact sle_refl _ | refine sle_upd ?_ (by first | rfl | (simp only [upd_app, killS_app, A.kill, entry_zero, entry_succ, Nat.reduceEqDiff, reduceIte, wrap_succ (show k + 1 < 9223372036854775808 by omega)]; done)))
         case mle => exact mle_refl _
        ·have p0 : (((i / 2 : Nat) : Int) = (q : Int)) = False := eq_false c1
         repeat (first | refine W.seq ?_ | refine W.block ?_ | refine W.skip ?_ | refine W.exit ?_ | refine W.region tab_ok 0 (by decide) (exec_run (by simp only [exa, beq_self_eq_true, ByteArray.size, Nat.reduceAdd, Nat.reduceLeDiff, Nat.reduceEqDiff, Nat.reduceMul, Int.reduceToNat, reduceIte, Int.reduceLE, Int.reduceNeg, Int.reduceEq, rF, rl, hiN, hi0, Int.toNat_natCast, and_self, p0, hq, hqw]; rfl)) ?_)
         refine W.cond rfl (fun h => absurd h (by simp)) (fun _ => ?_)
         repeat (first | refine W.seq ?_ | refine W.block ?_ | refine W.skip ?_ | refine W.exit ?_ | refine W.region tab_ok 0 (by decide) (exec_run (by simp only [exa, beq_self_eq_true, ByteArray.size, Nat.reduceAdd, Nat.reduceLeDiff, Nat.reduceEqDiff, Nat.reduceMul, Int.reduceToNat, reduceIte, Int.reduceLE, Int.reduceNeg]; rfl)) ?_)
         refine ⟨k + 1, hlt, by omega, ?_⟩
         rw [htk, if_neg c0, List.append_nil]
         refine le_mk ?sle ?mle ?swf ?mwf (fun j hj => live_upd j (live_upd j (live_upd j (kp1 j hj)))) (by rfl)
         case swf => repeat (first | exact swf_top _ | refine swf_upd ?_ (by simp [A.ids, upd_app, wrap_succ (show k + 1 < 9223372036854775808 by omega)]))
         case mwf => repeat (first | exact mwf_base hWF1 (fun i hi => by repeat (first | exact hi | refine live_upd i ?_)) | refine mwf_upd ?_ (by simp [A.ids, O.ids, upd_app, wrap_succ (show k + 1 < 9223372036854775808 by omega)]))
         case sle => repeat (first | exact sle_top _ | exact sle_refl _ | refine sle_upd ?_ (by first | rfl | (simp only [upd_app, killS_app, A.kill, entry_zero, entry_succ, Nat.reduceEqDiff, reduceIte, wrap_succ (show k + 1 < 9223372036854775808 by omega)]; done)))
         case mle => exact mle_refl _
      ·intro hge
       simp only [decide_eq_false_iff_not, Int.ofNat_lt] at hge
       obtain rfl : k = nw.length := by omega
       have hxk := hxl nw.length
       rw [List.take_length] at hxk ⊢
       have wv : IntKind.i64.wrap (((v + 1 + 1 : Nat) : Int) - 1) = ((v + 1 : Nat) : Int) := by rw [show (((v + 1 + 1 : Nat) : Int) - 1) = ((v + 1 : Nat) : Int) by omega]; exact wrap_nat (by omega)
       obtain ⟨n1, n2⟩ := path_next hFD i2 i4 (show (q : Int) = _ from by rw [hqe])
       obtain ⟨X, hX⟩ : ∃ X, X = nx S F (v + 2) q nw := ⟨_, rfl⟩
       rw [← hX] at hxk n1 n2 ⊢
       have hXN : ∀ j ∈ cmp X, j < N := fun j hj => by
        obtain ⟨i, -, e⟩ := (n1 j).2 hj
        exact (hS _ e).2
       have hcl : (cmp X).length ≤ N := cmp_len fun j hj => hXN j (mem_cmp.2 hj)
       have hcm : (Lib.compact ((zN X).mergeSort leI)).map cI = (cmp X).map cN := by rw [← zN_cmp, cI_zN]
       (repeat (first | refine W.seq ?_ | refine W.block ?_ | refine W.skip ?_ | refine W.exit ?_))
       refine W.regionK tab_ok 0 (by decide) ?_
       refine runk_split 1 (by simp only [exa, beq_self_eq_true, ByteArray.size, Nat.reduceAdd, Nat.reduceLeDiff, Nat.reduceEqDiff, Nat.reduceMul, Int.reduceToNat, reduceIte, Int.reduceLE, Int.reduceNeg]; rfl) ?_
       refine runk_callE (D := []) rfl rfl rfl rfl rfl (fun j hj => by simp at hj) (by simp) (cvs_cons cv_refl cvs_nil) (sort_ok (zN X) (by rw [zN_len]; omega) _ 40 (by rw [cI_zN]; rfl)) ?_
       simp only [killL, putS, upd_upd]
       refine runk_exec (by simp only [exa, beq_self_eq_true, ByteArray.size, Nat.reduceAdd, Nat.reduceLeDiff, Nat.reduceEqDiff, Nat.reduceMul, Int.reduceToNat, reduceIte, Int.reduceLE, Int.reduceNeg]; rfl) ?_
       (repeat (first | refine W.seq ?_ | refine W.block ?_ | refine W.skip ?_ | refine W.exit ?_))
       refine W.regionK tab_ok 0 (by decide) ?_
       refine runk_split 1 (by simp only [exa, beq_self_eq_true, ByteArray.size, Nat.reduceAdd, Nat.reduceLeDiff, Nat.reduceEqDiff, Nat.reduceMul, Int.reduceToNat, reduceIte, Int.reduceLE, Int.reduceNeg]; rfl) ?_
       refine runk_callE (D := [40]) rfl rfl rfl rfl rfl (fun j hj => by simp at hj; subst hj; exact nk40) (by simp) (cvs_cons cv_refl cvs_nil) (compact_ok ((zN X).mergeSort leI) (by rw [List.length_mergeSort, zN_len]; omega) _ 40 rfl) ?_
       simp only [killL, putS, upd_upd]
       refine runk_exec (by simp only [exa, beq_self_eq_true, ByteArray.size, Nat.reduceAdd, Nat.reduceLeDiff, Nat.reduceEqDiff, Nat.reduceMul, Int.reduceToNat, reduceIte, Int.reduceLE, Int.reduceNeg]; rfl) ?_
       rw [hcm]
       refine W.freeze 2 40 rfl (by simp only [exa, beq_self_eq_true, ByteArray.size, Nat.reduceAdd, Nat.reduceLeDiff, Nat.reduceEqDiff, Nat.reduceMul, Int.reduceToNat, reduceIte, Int.reduceLE, Int.reduceNeg]; rfl) nk40 ?_
       repeat (first | refine W.seq ?_ | refine W.block ?_ | refine W.skip ?_ | refine W.exit ?_ | refine W.region tab_ok 0 (by decide) (exec_run (by simp only [exa, beq_self_eq_true, ByteArray.size, Nat.reduceAdd, Nat.reduceLeDiff, Nat.reduceEqDiff, Nat.reduceMul, Int.reduceToNat, reduceIte, Int.reduceLE, Int.reduceNeg]; rfl)) ?_)
       refine ⟨(v, cmp X, out ++ [q]), ⟨by omega, hXN, Nat.le_trans hcl (by omega), n2, ?_, by simp; omega⟩, by simp, ?_⟩
       ·rw [← i5, List.append_assoc, List.singleton_append]
        congr 1
        rw [hqe]
        exact (congrArg _ (pathP_congr (fun i => (n1 i).symm) v))
       ·skip
        refine le_mk ?sle ?mle ?swf ?mwf (fun j hj => live_upd j (live_upd j (kp1 j hj))) (by rfl)
        case swf => repeat (first | exact swf_top _ | refine swf_upd ?_ (by simp [A.ids, upd_app, wv]))
        case mwf => repeat (first | exact mwf_base hWF1 (fun i hi => by repeat (first | exact hi | refine live_upd i ?_)) | refine mwf_upd ?_ (by simp [A.ids, O.ids, upd_app, wv]))
        case sle => repeat (first | exact sle_top _ | exact sle_refl _ | refine sle_upd ?_ (by first | rfl | (simp only [upd_app, killS_app, A.kill, entry_zero, entry_succ, Nat.reduceEqDiff, reduceIte, wv]; done)))
        case mle =>
         (simp only [killM_upd, hk30, hk40, upd_upd, Option.map_some, O.kill, A.kill, List.map_cons, List.map_nil, List.map_append])
         exact mle_skip (mle_refl _) (by simp only [upd_app, Nat.reduceEqDiff, reduceIte]; exact n40)
end V
end Go.Proofs.Ytmhchhmhpoldhaa
end
section
set_option linter.unusedVariables false
set_option linter.unusedSimpArgs false
namespace Go.Proofs.Ytmhchhmhpoldhaa
namespace V
open Go.RowKit G
def natI (ids : List Int) : List Nat := ids.map Int.toNat
theorem zN_natI {ids : List Int} (h : ∀ z ∈ ids, 0 ≤ z) : zN (natI ids) = ids := by
 unfold zN natI
 rw [List.map_map]
 refine (List.map_congr_left fun z hz => ?_).trans (List.map_id _)
 have := h z hz
 show ((z.toNat : Nat) : Int) = z
 omega
theorem errN_good {n : Int} {l : List Q} {ids : List Int} (h : errN n l ids = 0) : chkS n l = true ∧ ∀ z ∈ ids, 0 ≤ z ∧ z < n := by
 unfold errN at h
 split at h
 ·cases h
 ·rename_i h1
  split at h
  ·cases h
  ·rename_i h2
   refine ⟨by simpa using h1, fun z hz => ?_⟩
   have := List.any_eq_false.1 (by simpa using h2) z hz
   simp [outN] at this
   omega
theorem natI_lt {n : Int} {ids : List Int} (h : ∀ z ∈ ids, 0 ≤ z ∧ z < n) : ∀ i ∈ natI ids, i < n.toNat := fun i hi => by
 obtain ⟨z, hz, rfl⟩ := List.mem_map.1 hi
 have := h z hz
 omega
theorem cZ_natI {ids : List Int} (h : ∀ z ∈ ids, 0 ≤ z) : ids.map cZ = (natI ids).map cN := by rw [← cZ_zN, zN_natI h]
noncomputable def reachO (n : Int) (l : List Q) (ids : List Int) : List Nat × Int :=
 if errN n l ids = 0 then (reachB (Ms.farF (turnL (allS n.toNat l)) (twi (natI ids))) n.toNat, 0) else ([], errN n l ids)
def Small (n : Int) (l : List Q) : Prop := l.length ≤ 1000 ∧ (chkS n l = true → (allS n.toNat l).length ≤ 1000000 ∧ (wholeE n.toNat l).length ≤ 1000000)
theorem good_n {n : Int} {l : List Q} (h : chkS n l = true) : ∃ k : Nat, n = (k : Int) := ⟨n.toNat, by have := (natS_back h).2.1; omega⟩
theorem reachZ_ok (n : Int) (l : List Q) (ids : List Int) (hs : Small n l) (hi : ids.length ≤ 1000000) (m : Mem) :
  COk Try.prog 11 [.c (.int .i64 n), .c (.sl (l.map cS)), .c (.sl (ids.map cZ))] m (.tup [(false, [.sl ((reachO n l ids).1.map cN)]), (false, [.int .i64 (reachO n l ids).2])]) := by
 unfold reachO
 by_cases he : errN n l ids = 0
 ·rw [if_pos he]
  obtain ⟨hc, hz⟩ := errN_good he
  obtain ⟨k, rfl⟩ := good_n hc
  rw [cZ_natI fun z h => (hz z h).1]
  have h1 := hs.2 hc
  have h2 := natI_lt hz
  rw [Int.toNat_natCast] at h1 h2 ⊢
  exact reachG_ok k l hc (by have := hs.1; omega) h1.1 (natI ids) h2 (by simp [natI]; omega) m
 ·rw [if_neg he]
  have hf := fun m => fcheck_ok n l ids (by have := hs.1; omega) (by omega) m
  obtain ⟨e, hE⟩ : ∃ e, e = errN n l ids := ⟨_, rfl⟩
  rw [← hE] at he hf ⊢
  refine (ok_pure tab_ok Try.func11 (by kernel_rfl) rfl rfl (by rfl) (by rfl) (by rfl) (fun R hkeep => ?_) m)
  repeat (first | refine W.seq ?_ | refine W.block ?_ | refine W.skip ?_ | refine W.exit ?_ | refine W.region tab_ok 0 (by decide) (exec_run (by simp only [exa, beq_self_eq_true, ByteArray.size, Nat.reduceAdd, Nat.reduceLeDiff, Nat.reduceEqDiff, Nat.reduceMul, Int.reduceToNat, reduceIte, Int.reduceLE, Int.reduceNeg]; rfl)) ?_)
  refine W.regionK tab_ok 0 (by decide) ?_
  refine runk_split 3 (by simp only [exa, beq_self_eq_true, ByteArray.size, Nat.reduceAdd, Nat.reduceLeDiff, Nat.reduceEqDiff, Nat.reduceMul, Int.reduceToNat, reduceIte, Int.reduceLE, Int.reduceNeg]; rfl) ?_
  refine runk_call rfl rfl rfl rfl rfl (by simp) (cvs_cons cv_refl (cvs_cons cv_refl (cvs_cons cv_refl cvs_nil))) (hf _) ?_
  refine runk_exec (by simp only [exa, beq_self_eq_true, ByteArray.size, Nat.reduceAdd, Nat.reduceLeDiff, Nat.reduceEqDiff, Nat.reduceMul, Int.reduceToNat, reduceIte, Int.reduceLE, Int.reduceNeg]; rfl) ?_
  repeat (first | refine W.seq ?_ | refine W.block ?_ | refine W.skip ?_ | refine W.exit ?_ | refine W.region tab_ok 0 (by decide) (exec_run (by simp only [exa, beq_self_eq_true, ByteArray.size, Nat.reduceAdd, Nat.reduceLeDiff, Nat.reduceEqDiff, Nat.reduceMul, Int.reduceToNat, reduceIte, Int.reduceLE, Int.reduceNeg]; rfl)) ?_)
  refine W.cond rfl (fun _ => ?_) (fun h => absurd h (by simp [he]))
  repeat (first | refine W.seq ?_ | refine W.block ?_ | refine W.skip ?_ | refine W.exit ?_ | refine W.region tab_ok 0 (by decide) (exec_run (by simp only [exa, beq_self_eq_true, ByteArray.size, Nat.reduceAdd, Nat.reduceLeDiff, Nat.reduceEqDiff, Nat.reduceMul, Int.reduceToNat, reduceIte, Int.reduceLE, Int.reduceNeg]; rfl)) ?_)
  refine W.ret ⟨.inr rfl, by rfl, ?_⟩
  simp only [Try.f11, resA, resOne, toT, fin, exa, beq_self_eq_true, ByteArray.size, Nat.reduceAdd, Nat.reduceLeDiff, Nat.reduceEqDiff, Nat.reduceMul, Int.reduceToNat, reduceIte, Int.reduceLE, Int.reduceNeg]
end V
end Go.Proofs.Ytmhchhmhpoldhaa
end
section
set_option linter.unusedVariables false
set_option linter.unusedSimpArgs false
namespace Go.Proofs.Ytmhchhmhpoldhaa
namespace V
open Go.RowKit G
open Classical in
noncomputable def pthO (S : List (Nat × Nat)) (src : List Nat) (t : Nat) : List Nat := if Reached S src t then pathF S src t else []
theorem walkR_pth {S : List (Nat × Nat)} {t N : Nat} {src : List Nat} (hs : ∀ i ∈ src, 2 * i < N) : walkR S (ends2 t) (Ms.farF S (ends2 t)) src = pthO S src t := by
 have h := walkR_eq (S := S) (t := t) (N := N) (F := Ms.farF S (ends2 t)) (src := src) (fun i _ v => Ms.farF_at) hs
 unfold pthO
 by_cases q : Reached S src t
 ·rw [if_pos q]; exact h.1 q
 ·rw [if_neg q]; exact h.2 q
theorem pathR_pth {S : List (Nat × Nat)} {t N : Nat} {src : List Nat} (hs : ∀ i ∈ src, 2 * i < N) : pathR S (ends2 t) (Ms.farF S (ends2 t)) (ph1 src) = pthO S src t := by
 have h := pathR_eq (S := S) (t := t) (N := N) (F := Ms.farF S (ends2 t)) (src := src) (fun i _ v => Ms.farF_at) hs
 unfold pthO
 by_cases q : Reached S src t
 ·rw [if_pos q]; exact h.1 q
 ·rw [if_neg q]; exact h.2 q
def rowsP (L : List (List Nat)) : List (List C) := L.map fun p => [.sl (p.map cN)]
theorem rowsP_len (L : List (List Nat)) : (rowsP L).length = L.length := by simp [rowsP]
noncomputable def pathO (n : Int) (l : List Q) (ids : List Int) (to : Int) : List Nat × Int :=
 if errN n l (ids ++ [to]) = 0 then
  if pthO (allS n.toNat l) (natI ids) to.toNat = [] then ([], 240) else (pthO (allS n.toNat l) (natI ids) to.toNat, 0)
 else ([], errN n l (ids ++ [to]))
theorem cZ_app (ids : List Int) (to : Int) : (ids ++ [to]).map cZ = ids.map cZ ++ [[.int .i64 to]] := by simp [cZ]
end V
end Go.Proofs.Ytmhchhmhpoldhaa
end
section
set_option linter.unusedVariables false
set_option linter.unusedSimpArgs false
namespace Go.Proofs.Ytmhchhmhpoldhaa
namespace V
open Go.RowKit G
def tabT : Tab := { tab with eff := fun f => if f = 24 then true else if f = 44 then true else tab.eff f }
namespace T
theorem tab_ok : tabT.Ok Try.prog := ⟨V.tab_ok.ty, V.tab_ok.zero, V.tab_ok.elem, V.tab_ok.off, V.tab_ok.bool, V.tab_ok.fields, V.tab_ok.bytes, V.tab_ok.nilk, V.tab_ok.int, V.tab_ok.map, V.tab_ok.str, V.tab_ok.one, V.tab_ok.seq⟩
theorem tabs : tabT.ty = tab.ty ∧ tabT.zero = tab.zero ∧ tabT.elem = tab.elem ∧ tabT.off = tab.off ∧ tabT.bool = tab.bool ∧ tabT.fields = tab.fields ∧ tabT.bytes = tab.bytes ∧ tabT.nilk = tab.nilk ∧ tabT.int = tab.int ∧ tabT.map = tab.map ∧ tabT.str = tab.str ∧ tabT.one = tab.one ∧ tabT.seq = tab.seq ∧ tabT.eff 24 = true ∧ tabT.eff 44 = true ∧ tabT.eff 21 = tab.eff 21 ∧ tabT.lit = tab.lit := ⟨rfl, rfl, rfl, rfl, rfl, rfl, rfl, rfl, rfl, rfl, rfl, rfl, rfl, rfl, rfl, rfl, rfl⟩
end T
def someP (L : List (List Nat)) : List (List Nat) := L.filter fun p => !p.isEmpty
theorem someP_snoc (L : List (List Nat)) (p : List Nat) : someP (L ++ [p]) = someP L ++ (if p = [] then [] else [p]) := by
 unfold someP
 rw [List.filter_append]
 cases p <;> simp
theorem someP_len (L : List (List Nat)) : (someP L).length ≤ L.length := List.length_filter_le _ _
set_option maxHeartbeats 4000000 in
theorem paths_ok (n : Nat) (l : List Q) (hc : chkS n l = true) (hlen : l.length ≤ 1000000) (hK : (allS n l).length ≤ 1000000) (src : List Nat) (hs : ∀ i ∈ src, i < n) (hsl : src.length ≤ 1000000) (es : List Nat) (he : ∀ i ∈ es, i < n) (hel : es.length ≤ 1000000) (m : Mem) :
  COk Try.prog 31 [.c (.int .i64 n), .c (.sl (l.map cS)), .c (.sl (src.map cN)), .c (.sl (es.map cN))] m (.c (.sl (rowsP (someP (es.map (pthO (allS n l) src)))))) := by
 have hn : n ≤ 100000 := by have := (natS_back hc).2.1; omega
 have hE := allS_lt hc
 have hst : ∀ m, COk Try.prog 23 [.c (.int .i64 n), .c (.sl (l.map cS))] m (.c (.sl ((allS n l).map cEd))) := fun m => steps_ok n l hc (by omega) m
 have htl : (turnL (allS n l)).length = (allS n l).length := by simp [turnL]
 obtain ⟨S, hS⟩ : ∃ S, S = allS n l := ⟨_, rfl⟩
 rw [← hS] at hK hE hst htl ⊢
 refine (ok_pure tab_ok Try.func31 (by kernel_rfl) rfl rfl (by rfl) (by rfl) (by rfl) (fun R hkeep => ?_) m)
 repeat (first | refine W.seq ?_ | refine W.block ?_ | refine W.skip ?_ | refine W.exit ?_ | refine W.region tab_ok 0 (by decide) (exec_run (by simp only [exa, beq_self_eq_true, ByteArray.size, Nat.reduceAdd, Nat.reduceLeDiff, Nat.reduceEqDiff, Nat.reduceMul, Int.reduceToNat, reduceIte, Int.reduceLE, Int.reduceNeg]; rfl)) ?_)
 refine W.regionK tab_ok 0 (by decide) ?_
 refine runk_split 2 (by simp only [exa, beq_self_eq_true, ByteArray.size, Nat.reduceAdd, Nat.reduceLeDiff, Nat.reduceEqDiff, Nat.reduceMul, Int.reduceToNat, reduceIte, Int.reduceLE, Int.reduceNeg]; rfl) ?_
 refine runk_call rfl rfl rfl rfl rfl (by simp) (cvs_cons cv_refl (cvs_cons cv_refl cvs_nil)) (hst _) ?_
 refine runk_exec (by simp only [exa, beq_self_eq_true, ByteArray.size, Nat.reduceAdd, Nat.reduceLeDiff, Nat.reduceEqDiff, Nat.reduceMul, Int.reduceToNat, reduceIte, Int.reduceLE, Int.reduceNeg]; rfl) ?_
 (repeat (first | refine W.seq ?_ | refine W.block ?_ | refine W.skip ?_ | refine W.exit ?_))
 refine W.regionK tab_ok 0 (by decide) ?_
 refine runk_split 2 (by simp only [exa, beq_self_eq_true, ByteArray.size, Nat.reduceAdd, Nat.reduceLeDiff, Nat.reduceEqDiff, Nat.reduceMul, Int.reduceToNat, reduceIte, Int.reduceLE, Int.reduceNeg]; rfl) ?_
 refine runk_call rfl rfl rfl rfl rfl (by simp) (cvs_cons cv_refl (cvs_cons cv_refl (cvs_cons cv_refl cvs_nil))) (headsF_ok n hn S hK hE _) ?_
 refine runk_split 2 (by simp only [exa, beq_self_eq_true, ByteArray.size, Nat.reduceAdd, Nat.reduceLeDiff, Nat.reduceEqDiff, Nat.reduceMul, Int.reduceToNat, reduceIte, Int.reduceLE, Int.reduceNeg]; rfl) ?_
 refine runk_call rfl rfl rfl rfl rfl (by simp) (cvs_cons cv_refl (cvs_cons cv_refl (cvs_cons cv_refl cvs_nil))) (headsT_ok n hn S hK hE _) ?_
 refine runk_exec (by simp only [exa, beq_self_eq_true, ByteArray.size, Nat.reduceAdd, Nat.reduceLeDiff, Nat.reduceEqDiff, Nat.reduceMul, Int.reduceToNat, reduceIte, Int.reduceLE, Int.reduceNeg]; rfl) ?_
 repeat (first | refine W.seq ?_ | refine W.block ?_ | refine W.skip ?_ | refine W.exit ?_ | refine W.region tab_ok 0 (by decide) (exec_run (by simp only [exa, beq_self_eq_true, ByteArray.size, Nat.reduceAdd, Nat.reduceLeDiff, Nat.reduceEqDiff, Nat.reduceMul, Int.reduceToNat, reduceIte, Int.reduceLE, Int.reduceNeg]; rfl)) ?_)
 refine W.newArr 8 70 23 1 rfl rfl ?_
 refine W.loop (ι := Nat) (fun k => ⟨upd (upd (upd (upd (upd (upd (upd (upd (fun _ => .top) 0 (.c (.int .i64 n))) 2 (.c (.sl (src.map cN)))) 8 (.own 70)) 10 (.c (.sl (tabU S (2 * n))))) 11 (.c (.sl (tabU (turnL S) (2 * n))))) 24 (.c (.sl (es.map cN)))) 25 (.c (.int .i64 es.length))) 26 (.c (.int .i64 k)), upd Mem.nil 70 (some (.arr 23 1 (rowsP (someP ((es.take k).map (pthO S src))))))⟩) (fun k => k ≤ es.length) (fun k => es.length - k) 0 ?start (Nat.zero_le _) ?round
 case start =>
  refine le_mk ?sle ?mle ?swf ?mwf ?kept (by rfl)
  case kept => exact kept_not hkeep
  case swf => repeat (first | exact swf_top _ | refine swf_upd ?_ (by simp [A.ids, upd_app]))
  case mwf => repeat (first | exact mwf_nil _ | refine mwf_upd ?_ (by simp [A.ids, O.ids, upd_app]))
  case mle => repeat (first | exact mle_nil _ | exact mle_refl _ | refine mle_upd ?_ (by first | rfl | (simp only [upd_app, killM_app, Nat.reduceEqDiff, reduceIte]; done)))
  case sle => repeat (first | exact sle_top _ | exact sle_refl _ | refine sle_upd ?_ (by first | rfl | (simp only [upd_app, entry_zero, entry_succ, Nat.reduceEqDiff, reduceIte]; done)))
 case round =>
  intro k hk
  repeat (first | refine W.seq ?_ | refine W.block ?_ | refine W.skip ?_ | refine W.exit ?_ | refine W.region tab_ok 0 (by decide) (exec_run (by simp only [exa, beq_self_eq_true, ByteArray.size, Nat.reduceAdd, Nat.reduceLeDiff, Nat.reduceEqDiff, Nat.reduceMul, Int.reduceToNat, reduceIte, Int.reduceLE, Int.reduceNeg]; rfl)) ?_)
  refine W.cond rfl ?_ ?_
  ·intro hlt
   simp only [decide_eq_true_eq, Int.ofNat_lt] at hlt
   obtain ⟨t, ht⟩ : ∃ x, es[k]? = some x := ⟨_, List.getElem?_eq_getElem hlt⟩
   have htn := he t (List.mem_of_getElem? ht)
   have htk : es.take (k + 1) = es.take k ++ [t] := by rw [List.take_add_one, ht]; rfl
   have w0 := wrap_two (x := t) (by omega)
   have w01 : IntKind.i64.wrap (((2 * t : Nat) : Int) + 1) = ((2 * t + 1 : Nat) : Int) := wrap_succ (by omega)
   have hT : ∀ j ∈ ends2 t, j < 2 * n := fun j hj => by have := mem_ends2.1 hj; omega
   have hsp := fun m => spread_ok n hn (turnL S) (by omega) (turn_lt hE) (ends2 t) hT (by simp [ends2]) m
   rw [turn_turn, show (ends2 t).map cN = [[.int .i64 ((2 * t : Nat) : Int)], [.int .i64 ((2 * t + 1 : Nat) : Int)]] from rfl] at hsp
   have hF := Ms.farF_le hE hT
   have hp := fun M id h1 h2 h3 h4 => path_ok (2 * n) (by omega) (by omega) S hK hE (ends2 t) (Ms.farF S (ends2 t)) hF (fun i _ v => Ms.farF_at) (ph1 src) (fun z hz => by obtain ⟨i, hi, rfl⟩ := List.mem_map.1 hz; have := hs i hi; omega) (by simp [ph1]; omega) M id h1 h2 h3 h4
   simp only [pathR_pth (N := 2 * n) (S := S) (t := t) (src := src) (fun i hi => by have := hs i hi; omega)] at hp
   repeat (first | refine W.seq ?_ | refine W.block ?_ | refine W.skip ?_ | refine W.exit ?_ | refine W.region tab_ok 0 (by decide) (exec_run (by simp only [exa, beq_self_eq_true, ByteArray.size, Nat.reduceAdd, Nat.reduceLeDiff, Nat.reduceEqDiff, Nat.reduceMul, Int.reduceToNat, reduceIte, Int.reduceLE, Int.reduceNeg, at_map ht, cN]; rfl)) ?_)
   refine W.regionK (T := tabT) T.tab_ok 0 (by decide) ?_
   refine runk_split 9 (by simp only [exa, beq_self_eq_true, ByteArray.size, Nat.reduceAdd, Nat.reduceLeDiff, Nat.reduceEqDiff, Nat.reduceMul, Int.reduceToNat, reduceIte, Int.reduceLE, Int.reduceNeg, T.tabs, w0, w01]; rfl) ?_
   refine runk_call rfl rfl rfl rfl rfl (by simp) (cvs_cons cv_refl (cvs_cons cv_refl (cvs_cons cv_refl cvs_nil))) (hsp _) ?_
   refine runk_split 1 (by simp only [exa, beq_self_eq_true, ByteArray.size, Nat.reduceAdd, Nat.reduceLeDiff, Nat.reduceEqDiff, Nat.reduceMul, Int.reduceToNat, reduceIte, Int.reduceLE, Int.reduceNeg, T.tabs]; rfl) ?_
   refine runk_callE (D := []) rfl rfl rfl rfl rfl (fun j hj => by simp at hj) (by simp) (cvs_cons cv_refl cvs_nil) (firsts_mut src (by omega) (fun i hi => by have := hs i hi; omega) _ 60 rfl) ?_
   simp only [killL, putS]
   refine runk_callE (D := [60]) rfl rfl rfl rfl rfl (fun j hj => by simp at hj; subst hj; exact nokeep hkeep) (by simp) (cvs_cons cv_refl (cvs_cons cv_refl (cvs_cons cv_refl cvs_nil))) (hp _ 60 (by omega) rfl ?kill (fun j hj => by simp only [upd_app, mem_nil_app]; rw [if_neg (by omega), if_neg (by omega)])) ?_
   case kill =>
    funext j
    simp only [killM_app, upd_app, mem_nil_app]
    split
    ·rfl
    ·split <;> rfl
   simp only [killL, putS]
   refine runk_exec (by simp only [exa, beq_self_eq_true, ByteArray.size, Nat.reduceAdd, Nat.reduceLeDiff, Nat.reduceEqDiff, Nat.reduceMul, Int.reduceToNat, reduceIte, Int.reduceLE, Int.reduceNeg, T.tabs]; rfl) ?_
   obtain ⟨p, hpe⟩ : ∃ p, p = pthO S src t := ⟨_, rfl⟩
   rw [← hpe]
   repeat (first | refine W.seq ?_ | refine W.block ?_ | refine W.skip ?_ | refine W.exit ?_ | refine W.region tab_ok 0 (by decide) (exec_run (by simp only [exa, beq_self_eq_true, ByteArray.size, Nat.reduceAdd, Nat.reduceLeDiff, Nat.reduceEqDiff, Nat.reduceMul, Int.reduceToNat, reduceIte, Int.reduceLE, Int.reduceNeg, List.length_map]; rfl)) ?_)
   have hlen2 := someP_len ((es.take k).map (pthO S src))
   rw [List.length_map] at hlen2
   have hlt2 := List.length_take_le k es
   have hmap : (es.take (k + 1)).map (pthO S src) = (es.take k).map (pthO S src) ++ [p] := by rw [htk, List.map_append, hpe]; rfl
   rcases p with _ | ⟨x, p⟩
   ·refine W.cond rfl (fun h => absurd h (by simp)) (fun _ => ?_)
    repeat (first | refine W.seq ?_ | refine W.block ?_ | refine W.skip ?_ | refine W.exit ?_ | refine W.region tab_ok 0 (by decide) (exec_run (by simp only [exa, beq_self_eq_true, ByteArray.size, Nat.reduceAdd, Nat.reduceLeDiff, Nat.reduceEqDiff, Nat.reduceMul, Int.reduceToNat, reduceIte, Int.reduceLE, Int.reduceNeg]; rfl)) ?_)
    refine ⟨k + 1, hlt, by omega, ?_⟩
    rw [hmap, someP_snoc, if_pos rfl, List.append_nil]
    refine le_mk ?sle ?mle ?swf ?mwf ?kept (by rfl)
    case kept => exact kept_not hkeep
    case swf => repeat (first | exact swf_top _ | refine swf_upd ?_ (by simp [A.ids, upd_app]))
    case mwf => repeat (first | exact mwf_nil _ | refine mwf_upd ?_ (by simp [A.ids, O.ids, upd_app]))
    case mle => repeat (first | exact mle_nil _ | exact mle_refl _ | refine mle_upd ?_ (by first | rfl | (simp only [upd_app, killM_app, Nat.reduceEqDiff, reduceIte, wrap_succ (show k + 1 < 9223372036854775808 by omega)]; done)))
    case sle => repeat (first | exact sle_top _ | exact sle_refl _ | refine sle_upd ?_ (by first | rfl | (simp only [upd_app, entry_zero, entry_succ, Nat.reduceEqDiff, reduceIte, wrap_succ (show k + 1 < 9223372036854775808 by omega)]; done)))
   ·refine W.cond rfl (fun _ => ?_) (fun h => absurd h (by simp <;> omega))
    (repeat (first | refine W.seq ?_ | refine W.block ?_ | refine W.skip ?_ | refine W.exit ?_))
    refine W.regionK tab_ok 0 (by decide) ?_
    refine runk_split 3 (by simp only [exa, beq_self_eq_true, ByteArray.size, Nat.reduceAdd, Nat.reduceLeDiff, Nat.reduceEqDiff, Nat.reduceMul, Int.reduceToNat, reduceIte, Int.reduceLE, Int.reduceNeg]; rfl) ?_
    refine runk_append tab_ok 70 rfl rfl rfl rfl rfl rfl rfl rfl (by first | rfl | (simp only [exa, beq_self_eq_true, ByteArray.size, Nat.reduceAdd, Nat.reduceLeDiff, Nat.reduceEqDiff, Nat.reduceMul, Int.reduceToNat, reduceIte, Int.reduceLE, Int.reduceNeg]; rfl)) rfl rfl rfl rfl (nokeep hkeep) (fun z hz => by simp at hz; subst hz; rfl) (by simp only [rowsP_len, List.length_map, List.length_cons, List.length_nil]; omega) (by decide) ?_
    refine runk_exec (by simp only [exa, beq_self_eq_true, ByteArray.size, Nat.reduceAdd, Nat.reduceLeDiff, Nat.reduceEqDiff, Nat.reduceMul, Int.reduceToNat, reduceIte, Int.reduceLE, Int.reduceNeg]; rfl) ?_
    repeat (first | refine W.seq ?_ | refine W.block ?_ | refine W.skip ?_ | refine W.exit ?_ | refine W.region tab_ok 0 (by decide) (exec_run (by simp only [exa, beq_self_eq_true, ByteArray.size, Nat.reduceAdd, Nat.reduceLeDiff, Nat.reduceEqDiff, Nat.reduceMul, Int.reduceToNat, reduceIte, Int.reduceLE, Int.reduceNeg]; rfl)) ?_)
    refine ⟨k + 1, hlt, by omega, ?_⟩
    have hpush : rowsP (someP ((es.take (k + 1)).map (pthO S src))) = rowsP (someP ((es.take k).map (pthO S src))) ++ [[.sl ((x :: p).map cN)]] := by rw [hmap, someP_snoc, if_neg (by simp)]; simp [rowsP]
    rw [hpush]
    refine le_mk ?sle ?mle ?swf ?mwf ?kept (by rfl)
    case kept => exact kept_not hkeep
    case swf => repeat (first | exact swf_top _ | refine swf_upd ?_ (by simp [A.ids, upd_app]))
    case mwf => repeat (first | exact mwf_nil _ | refine mwf_upd ?_ (by simp [A.ids, O.ids, upd_app]))
    case mle => repeat (first | exact mle_nil _ | exact mle_refl _ | refine mle_upd ?_ (by first | rfl | (simp only [upd_app, killM_app, Nat.reduceEqDiff, reduceIte, wrap_succ (show k + 1 < 9223372036854775808 by omega), O.kill]; done)))
    case sle => repeat (first | exact sle_top _ | exact sle_refl _ | refine sle_upd ?_ (by first | rfl | (simp only [upd_app, entry_zero, entry_succ, Nat.reduceEqDiff, reduceIte, wrap_succ (show k + 1 < 9223372036854775808 by omega), O.kill]; done)))
  ·intro hge
   simp only [decide_eq_false_iff_not, Int.ofNat_lt] at hge
   obtain rfl : k = es.length := by omega
   rw [List.take_length]
   repeat (first | refine W.seq ?_ | refine W.block ?_ | refine W.skip ?_ | refine W.exit ?_ | refine W.region tab_ok 0 (by decide) (exec_run (by simp only [exa, beq_self_eq_true, ByteArray.size, Nat.reduceAdd, Nat.reduceLeDiff, Nat.reduceEqDiff, Nat.reduceMul, Int.reduceToNat, reduceIte, Int.reduceLE, Int.reduceNeg]; rfl)) ?_)
   refine W.ret ⟨.inr rfl, by rfl, ?_⟩
   simp only [Try.f31, resA, resOne, toT, fin, exa, beq_self_eq_true, ByteArray.size, Nat.reduceAdd, Nat.reduceLeDiff, Nat.reduceEqDiff, Nat.reduceMul, Int.reduceToNat, reduceIte, Int.reduceLE, Int.reduceNeg]
set_option maxRecDepth 100000 in
theorem cloneI_mut (rows : List (List C)) (hrow : ∀ x ∈ rows, x.length = 1) (hbig : rows.length * 8 ≤ 140737488355328) (M : Mem) (id : Nat) (hid : M id = none) : CallE Try.prog 30 [.c (.sl rows)] M [] (.own id) (upd M id (some (.mrow 3 1 rows))) :=
 clone_mut Try.laysClone30 ⟨_, _, rfl, rfl, rfl, rfl, rfl⟩ (by decide) (enters_of Try.func30 (by kernel_rfl) rfl) rows hrow hbig M id hid
set_option maxHeartbeats 4000000 in
theorem pathZ_ok (n : Int) (l : List Q) (ids : List Int) (to : Int) (hs : Small n l) (hi : ids.length ≤ 1000000) (m : Mem) :
  COk Try.prog 15 [.c (.int .i64 n), .c (.sl (l.map cS)), .c (.sl (ids.map cZ)), .c (.int .i64 to)] m (.tup [(false, [.sl ((pathO n l ids to).1.map cN)]), (false, [.int .i64 (pathO n l ids to).2])]) := by
 have hf := fun m => fcheck_ok n l (ids ++ [to]) (by have := hs.1; omega) (by simp; omega) m
 rw [cZ_app] at hf
 refine (ok_pure tab_ok Try.func15 (by kernel_rfl) rfl rfl (by rfl) (by rfl) (by rfl) (fun R hkeep => ?_) m)
 repeat (first | refine W.seq ?_ | refine W.block ?_ | refine W.skip ?_ | refine W.exit ?_ | refine W.region tab_ok 0 (by decide) (exec_run (by simp only [exa, beq_self_eq_true, ByteArray.size, Nat.reduceAdd, Nat.reduceLeDiff, Nat.reduceEqDiff, Nat.reduceMul, Int.reduceToNat, reduceIte, Int.reduceLE, Int.reduceNeg]; rfl)) ?_)
 refine W.regionK tab_ok 0 (by decide) ?_
 refine runk_split 3 (by simp only [exa, beq_self_eq_true, ByteArray.size, Nat.reduceAdd, Nat.reduceLeDiff, Nat.reduceEqDiff, Nat.reduceMul, Int.reduceToNat, reduceIte, Int.reduceLE, Int.reduceNeg]; rfl) ?_
 refine runk_callE (D := []) rfl rfl rfl rfl rfl (fun j hj => by simp at hj) (by simp) (cvs_cons cv_refl cvs_nil) (cloneI_mut (ids.map cZ) (fun z hz => by obtain ⟨y, -, rfl⟩ := List.mem_map.1 hz; rfl) (by rw [List.length_map]; omega) _ 90 rfl) ?_
 simp only [killL, putS, upd_upd]
 refine runk_split 2 (by simp only [exa, beq_self_eq_true, ByteArray.size, Nat.reduceAdd, Nat.reduceLeDiff, Nat.reduceEqDiff, Nat.reduceMul, Int.reduceToNat, reduceIte, Int.reduceLE, Int.reduceNeg]; rfl) ?_
 refine runk_appendM tab_ok 90 rfl rfl rfl rfl rfl rfl (by simp only [exa, beq_self_eq_true, ByteArray.size, Nat.reduceAdd, Nat.reduceLeDiff, Nat.reduceEqDiff, Nat.reduceMul, Int.reduceToNat, reduceIte, Int.reduceLE, Int.reduceNeg]) (by simp only [exa, beq_self_eq_true, ByteArray.size, Nat.reduceAdd, Nat.reduceLeDiff, Nat.reduceEqDiff, Nat.reduceMul, Int.reduceToNat, reduceIte, Int.reduceLE, Int.reduceNeg]; rfl) (by first | rfl | (simp only [exa, beq_self_eq_true, ByteArray.size, Nat.reduceAdd, Nat.reduceLeDiff, Nat.reduceEqDiff, Nat.reduceMul, Int.reduceToNat, reduceIte, Int.reduceLE, Int.reduceNeg]; rfl)) rfl rfl rfl rfl (nokeep hkeep) (fun z hz => by simp at hz; subst hz; rfl) (by simp only [List.length_map, List.length_cons, List.length_nil]; omega) (by decide) ?_
 refine runk_split 0 (by simp only [exa, beq_self_eq_true, ByteArray.size, Nat.reduceAdd, Nat.reduceLeDiff, Nat.reduceEqDiff, Nat.reduceMul, Int.reduceToNat, reduceIte, Int.reduceLE, Int.reduceNeg]; rfl) ?_
 refine runk_callR rfl rfl rfl rfl rfl (by simp) (cvrs_cons cvr_refl (cvrs_cons cvr_refl (cvrs_cons (cvr_row rfl) cvrs_nil))) (by rfl) (by rfl) hf ?_
 refine runk_exec (by simp only [exa, beq_self_eq_true, ByteArray.size, Nat.reduceAdd, Nat.reduceLeDiff, Nat.reduceEqDiff, Nat.reduceMul, Int.reduceToNat, reduceIte, Int.reduceLE, Int.reduceNeg]; rfl) ?_
 repeat (first | refine W.seq ?_ | refine W.block ?_ | refine W.skip ?_ | refine W.exit ?_ | refine W.region tab_ok 0 (by decide) (exec_run (by simp only [exa, beq_self_eq_true, ByteArray.size, Nat.reduceAdd, Nat.reduceLeDiff, Nat.reduceEqDiff, Nat.reduceMul, Int.reduceToNat, reduceIte, Int.reduceLE, Int.reduceNeg]; rfl)) ?_)
 unfold pathO
 by_cases he : errN n l (ids ++ [to]) = 0
 ·rw [if_pos he]
  obtain ⟨hc, hz⟩ := errN_good he
  obtain ⟨k, rfl⟩ := good_n hc
  have h1 := hs.2 hc
  have hzi : ∀ z ∈ ids, 0 ≤ z ∧ z < (k : Int) := fun z h => hz z (List.mem_append_left _ h)
  have h2 := natI_lt hzi
  obtain ⟨ht0, ht1⟩ := hz to (by simp)
  obtain ⟨t, rfl⟩ : ∃ t : Nat, to = (t : Int) := ⟨to.toNat, by omega⟩
  have htk : t < k := by omega
  rw [cZ_natI fun z h => (hzi z h).1]
  rw [Int.toNat_natCast] at h1 h2
  simp only [Int.toNat_natCast]
  obtain ⟨src, hsrc⟩ : ∃ src, src = natI ids := ⟨_, rfl⟩
  have hsl : src.length ≤ 1000000 := by rw [hsrc]; simp [natI]; omega
  rw [← hsrc] at h2 ⊢
  have hp := fun m => paths_ok k l hc (by have := hs.1; omega) h1.1 src h2 hsl [t] (by simp; exact htk) (by simp) m
  obtain ⟨p, hpe⟩ : ∃ p, p = pthO (allS k l) src t := ⟨_, rfl⟩
  simp only [List.map_cons, List.map_nil, cN] at hp
  rw [← hpe] at hp ⊢
  refine W.cond rfl (fun h => absurd h (by simp [he])) (fun _ => ?_)
  (repeat (first | refine W.seq ?_ | refine W.block ?_ | refine W.skip ?_ | refine W.exit ?_))
  refine W.regionK tab_ok 0 (by decide) ?_
  refine runk_split 5 (by simp only [exa, beq_self_eq_true, ByteArray.size, Nat.reduceAdd, Nat.reduceLeDiff, Nat.reduceEqDiff, Nat.reduceMul, Int.reduceToNat, reduceIte, Int.reduceLE, Int.reduceNeg]; rfl) ?_
  refine runk_call rfl rfl rfl rfl rfl (by simp) (cvs_cons cv_refl (cvs_cons cv_refl (cvs_cons cv_refl (cvs_cons cv_refl cvs_nil)))) (hp _) ?_
  refine runk_exec (by simp only [exa, beq_self_eq_true, ByteArray.size, Nat.reduceAdd, Nat.reduceLeDiff, Nat.reduceEqDiff, Nat.reduceMul, Int.reduceToNat, reduceIte, Int.reduceLE, Int.reduceNeg]; rfl) ?_
  (repeat (first | refine W.seq ?_ | refine W.block ?_ | refine W.skip ?_ | refine W.exit ?_))
  rcases p with _ | ⟨x, p⟩
  ·refine W.loop (ι := Unit) (fun _ => ⟨upd (upd (fun _ => .top) 30 (.c (.int .i64 0))) 31 (.c (.int .i64 0)), Mem.nil⟩) (fun _ => True) (fun _ => 0) () ?start trivial ?round
   case start =>
    refine le_mk ?sle ?mle ?swf ?mwf ?kept (by rfl)
    case kept => exact kept_not hkeep
    case swf => repeat (first | exact swf_top _ | refine swf_upd ?_ (by simp [A.ids, upd_app]))
    case mwf => repeat (first | exact mwf_nil _ | refine mwf_upd ?_ (by simp [A.ids, O.ids, upd_app]))
    case mle => repeat (first | exact mle_nil _ | exact mle_refl _ | refine mle_upd ?_ (by first | rfl | (simp only [upd_app, killM_app, Nat.reduceEqDiff, reduceIte, someP, rowsP]; done)))
    case sle => repeat (first | exact sle_top _ | exact sle_refl _ | refine sle_upd ?_ (by first | rfl | (simp only [upd_app, entry_zero, entry_succ, Nat.reduceEqDiff, reduceIte, someP, rowsP]; done)))
   case round =>
    intro _ _
    repeat (first | refine W.seq ?_ | refine W.block ?_ | refine W.skip ?_ | refine W.exit ?_ | refine W.region tab_ok 0 (by decide) (exec_run (by simp only [exa, beq_self_eq_true, ByteArray.size, Nat.reduceAdd, Nat.reduceLeDiff, Nat.reduceEqDiff, Nat.reduceMul, Int.reduceToNat, reduceIte, Int.reduceLE, Int.reduceNeg, Int.reduceLT]; rfl)) ?_)
    refine W.cond rfl (fun h => absurd h (by simp)) (fun _ => ?_)
    repeat (first | refine W.seq ?_ | refine W.block ?_ | refine W.skip ?_ | refine W.exit ?_ | refine W.region tab_ok 0 (by decide) (exec_run (by simp only [exa, beq_self_eq_true, ByteArray.size, Nat.reduceAdd, Nat.reduceLeDiff, Nat.reduceEqDiff, Nat.reduceMul, Int.reduceToNat, reduceIte, Int.reduceLE, Int.reduceNeg]; rfl)) ?_)
    refine W.ret ⟨.inr rfl, by rfl, ?_⟩
    simp only [Try.f15, resA, resOne, toT, fin, exa, beq_self_eq_true, ByteArray.size, Nat.reduceAdd, Nat.reduceLeDiff, Nat.reduceEqDiff, Nat.reduceMul, Int.reduceToNat, reduceIte, Int.reduceLE, Int.reduceNeg]
  ·refine W.loop (ι := Unit) (fun _ => ⟨upd (upd (upd (fun _ => .top) 29 (.c (.sl [[.sl ((x :: p).map cN)]]))) 30 (.c (.int .i64 1))) 31 (.c (.int .i64 0)), Mem.nil⟩) (fun _ => True) (fun _ => 0) () ?startB trivial ?roundB
   case startB =>
    refine le_mk ?sle ?mle ?swf ?mwf ?kept (by rfl)
    case kept => exact kept_not hkeep
    case swf => repeat (first | exact swf_top _ | refine swf_upd ?_ (by simp [A.ids, upd_app]))
    case mwf => repeat (first | exact mwf_nil _ | refine mwf_upd ?_ (by simp [A.ids, O.ids, upd_app]))
    case mle => repeat (first | exact mle_nil _ | exact mle_refl _ | refine mle_upd ?_ (by first | rfl | (simp only [upd_app, killM_app, Nat.reduceEqDiff, reduceIte, someP, rowsP]; done)))
    case sle => repeat (first | exact sle_top _ | exact sle_refl _ | refine sle_upd ?_ (by first | rfl | (simp only [upd_app, entry_zero, entry_succ, Nat.reduceEqDiff, reduceIte, someP, rowsP]; done)))
   case roundB =>
    intro _ _
    repeat (first | refine W.seq ?_ | refine W.block ?_ | refine W.skip ?_ | refine W.exit ?_ | refine W.region tab_ok 0 (by decide) (exec_run (by simp only [exa, beq_self_eq_true, ByteArray.size, Nat.reduceAdd, Nat.reduceLeDiff, Nat.reduceEqDiff, Nat.reduceMul, Int.reduceToNat, reduceIte, Int.reduceLE, Int.reduceNeg, Int.reduceLT]; rfl)) ?_)
    refine W.cond rfl (fun _ => ?_) (fun h => absurd h (by simp))
    repeat (first | refine W.seq ?_ | refine W.block ?_ | refine W.skip ?_ | refine W.exit ?_ | refine W.region tab_ok 0 (by decide) (exec_run (by simp only [exa, beq_self_eq_true, ByteArray.size, Nat.reduceAdd, Nat.reduceLeDiff, Nat.reduceEqDiff, Nat.reduceMul, Int.reduceToNat, reduceIte, Int.reduceLE, Int.reduceNeg]; rfl)) ?_)
    refine W.ret ⟨.inr rfl, by rfl, ?_⟩
    simp only [Try.f15, resA, resOne, toT, fin, exa, beq_self_eq_true, ByteArray.size, Nat.reduceAdd, Nat.reduceLeDiff, Nat.reduceEqDiff, Nat.reduceMul, Int.reduceToNat, reduceIte, Int.reduceLE, Int.reduceNeg]
    rfl
 ·rw [if_neg he]
  obtain ⟨e, hE⟩ : ∃ e, e = errN n l (ids ++ [to]) := ⟨_, rfl⟩
  rw [← hE] at he ⊢
  refine W.cond rfl (fun _ => ?_) (fun h => absurd h (by simp [he]))
  repeat (first | refine W.seq ?_ | refine W.block ?_ | refine W.skip ?_ | refine W.exit ?_ | refine W.region tab_ok 0 (by decide) (exec_run (by simp only [exa, beq_self_eq_true, ByteArray.size, Nat.reduceAdd, Nat.reduceLeDiff, Nat.reduceEqDiff, Nat.reduceMul, Int.reduceToNat, reduceIte, Int.reduceLE, Int.reduceNeg]; rfl)) ?_)
  refine W.ret ⟨.inr rfl, by rfl, ?_⟩
  simp only [Try.f15, resA, resOne, toT, fin, exa, beq_self_eq_true, ByteArray.size, Nat.reduceAdd, Nat.reduceLeDiff, Nat.reduceEqDiff, Nat.reduceMul, Int.reduceToNat, reduceIte, Int.reduceLE, Int.reduceNeg]
end V
end Go.Proofs.Ytmhchhmhpoldhaa
end
section
set_option linter.unusedVariables false
set_option linter.unusedSimpArgs false
namespace Go.Proofs.Ytmhchhmhpoldhaa
namespace V
open Go.RowKit G
def nowI (S : List (Nat × Nat)) (P : Nat → Prop) (r : List Int) (now : List Nat) : Prop := now.Nodup ∧ ∀ j, j ∈ now ↔ vSet S r P j
end V
end Go.Proofs.Ytmhchhmhpoldhaa
end
section
set_option linter.unusedVariables false
namespace Go.Proofs.Ytmhchhmhpoldhaa
namespace V
open Go.RowKit G
def vbS (k : Int) (acc : List Nat) (j : Nat) : List Nat := if ((j / 2 : Nat) : Int) = k ∧ ¬ j ∈ acc then acc ++ [j] else acc
def vb (k : Int) (L : List Nat) : List Nat := L.foldl (vbS k) []
theorem vb_snoc (k : Int) (L : List Nat) (j : Nat) : vb k (L ++ [j]) = vbS k (vb k L) j := by rw [vb, List.foldl_append]; rfl
theorem vb_spec (k : Int) (L : List Nat) : (vb k L).Nodup ∧ ∀ j, j ∈ vb k L ↔ j ∈ L ∧ ((j / 2 : Nat) : Int) = k := by
 induction L using snocN with
 | h0 => exact ⟨by simp [vb], fun j => by simp [vb]⟩
 | h1 L x ih =>
  obtain ⟨h1, h2⟩ := ih
  rw [vb_snoc]
  unfold vbS
  by_cases c : ((x / 2 : Nat) : Int) = k ∧ ¬ x ∈ vb k L
  ·rw [if_pos c]
   refine ⟨List.nodup_append.2 ⟨h1, by simp, fun a ha b hb e => ?_⟩, fun j => ?_⟩
   ·simp at hb; subst hb; subst e; exact c.2 ha
   ·simp only [List.mem_append, List.mem_singleton, h2]
    constructor
    ·rintro (⟨a, b⟩ | rfl)
     ·exact ⟨.inl a, b⟩
     ·exact ⟨.inr rfl, c.1⟩
    ·rintro ⟨a | a, b⟩
     ·exact .inl ⟨a, b⟩
     ·exact .inr a
  ·rw [if_neg c]
   refine ⟨h1, fun j => ?_⟩
   rw [h2, List.mem_append, List.mem_singleton]
   constructor
   ·rintro ⟨a, b⟩; exact ⟨.inl a, b⟩
   ·rintro ⟨a | rfl, b⟩
    ·exact ⟨a, b⟩
    ·have : j ∈ vb k L := Classical.byContradiction fun q => c ⟨b, q⟩
     exact (h2 j).1 this
theorem nowI_next {S : List (Nat × Nat)} {P : Nat → Prop} {r : List Int} {k : Int} {now : List Nat} (h : nowI S P r now) : nowI S P (r ++ [k]) (vb k (onw S now)) := by
 obtain ⟨v1, v2⟩ := vb_spec k (onw S now)
 refine ⟨v1, fun j => ?_⟩
 rw [v2, vSet_snoc, mem_onw]
 constructor
 ·rintro ⟨⟨i, h1, h2⟩, h3⟩; exact ⟨h3, i, (h.2 i).1 h1, h2⟩
 ·rintro ⟨h3, i, h1, h2⟩; exact ⟨⟨i, (h.2 i).2 h1, h2⟩, h3⟩
open Classical in
noncomputable def validO (n : Int) (l : List Q) (ids path : List Int) : Bool := decide (errN n l ids = 0 ∧ ValidF (allS n.toNat l) (natI ids) path)
end V
end Go.Proofs.Ytmhchhmhpoldhaa
end
section
set_option linter.unusedVariables false
set_option linter.unusedSimpArgs false
namespace Go.Proofs.Ytmhchhmhpoldhaa
namespace V
open Go.RowKit G
theorem mem_zN {j : Nat} {l : List Nat} : (j : Int) ∈ zN l ↔ j ∈ l := by
 unfold zN
 rw [List.mem_map]
 constructor
 ·rintro ⟨x, hx, e⟩; have : x = j := by omega
  subst this; exact hx
 ·intro h; exact ⟨j, h, rfl⟩
open Classical in
theorem validO_iff {n : Int} {l : List Q} {ids path : List Int} : validO n l ids path = true ↔ errN n l ids = 0 ∧ ValidF (allS n.toNat l) (natI ids) path := by unfold validO; exact decide_eq_true_iff
set_option maxHeartbeats 8000000 in
theorem validZ_ok (n : Int) (l : List Q) (ids path : List Int) (hs : Small n l) (hi : ids.length ≤ 1000000) (hp : path.length ≤ 1000000) (m : Mem) :
  COk Try.prog 17 [.c (.int .i64 n), .c (.sl (l.map cS)), .c (.sl (ids.map cZ)), .c (.sl (path.map cZ))] m (.c (.bool (validO n l ids path))) := by
 have hf := fun m => fcheck_ok n l ids (by have := hs.1; omega) (by omega) m
 refine (ok_pure tab_ok Try.func17 (by kernel_rfl) rfl rfl (by rfl) (by rfl) (by rfl) (fun R hkeep => ?_) m)
 (repeat (first | refine W.seq ?_ | refine W.block ?_ | refine W.skip ?_ | refine W.exit ?_))
 refine W.region tab_ok 0 (by decide) (exec_run (by simp only [exa, beq_self_eq_true, ByteArray.size, Nat.reduceAdd, Nat.reduceLeDiff, Nat.reduceEqDiff, Nat.reduceMul, Int.reduceToNat, reduceIte, Int.reduceLE, Int.reduceNeg]; rfl)) ?_
 (repeat (first | refine W.seq ?_ | refine W.block ?_ | refine W.skip ?_ | refine W.exit ?_))
 refine W.regionK tab_ok 0 (by decide) ?_
 refine runk_split 3 (by simp only [exa, beq_self_eq_true, ByteArray.size, Nat.reduceAdd, Nat.reduceLeDiff, Nat.reduceEqDiff, Nat.reduceMul, Int.reduceToNat, reduceIte, Int.reduceLE, Int.reduceNeg]; rfl) ?_
 refine runk_call rfl rfl rfl rfl rfl (by simp) (cvs_cons cv_refl (cvs_cons cv_refl (cvs_cons cv_refl cvs_nil))) (hf _) ?_
 by_cases he : errN n l ids = 0
 rotate_left
 ·have p0 := eq_false he
  have hv : validO n l ids path = false := by unfold validO; simp [he]
  rw [hv]
  refine runk_exec (by simp only [exa, beq_self_eq_true, ByteArray.size, Nat.reduceAdd, Nat.reduceLeDiff, Nat.reduceEqDiff, Nat.reduceMul, Int.reduceToNat, reduceIte, Int.reduceLE, Int.reduceNeg, p0, decide_false, Bool.not_false]; rfl) ?_
  refine W.cond rfl (fun _ => ?_) (fun h => absurd h (by simp))
  repeat (first | refine W.seq ?_ | refine W.block ?_ | refine W.skip ?_ | refine W.exit ?_ | refine W.region tab_ok 0 (by decide) (exec_run (by simp only [exa, beq_self_eq_true, ByteArray.size, Nat.reduceAdd, Nat.reduceLeDiff, Nat.reduceEqDiff, Nat.reduceMul, Int.reduceToNat, reduceIte, Int.reduceLE, Int.reduceNeg]; rfl)) ?_)
  refine W.ret ⟨.inr rfl, by rfl, ?_⟩
  simp only [Try.f17, resA, resOne, toT, fin, exa, beq_self_eq_true, ByteArray.size, Nat.reduceAdd, Nat.reduceLeDiff, Nat.reduceEqDiff, Nat.reduceMul, Int.reduceToNat, reduceIte, Int.reduceLE, Int.reduceNeg]
 rcases path with _ | ⟨p, r⟩
 ·have hv : validO n l ids [] = false := by unfold validO; simp [ValidF]
  have z0 : (((0 : Nat) : Int) = 0) = True := eq_true rfl
  rw [hv]
  refine runk_exec (by simp only [exa, beq_self_eq_true, ByteArray.size, Nat.reduceAdd, Nat.reduceLeDiff, Nat.reduceEqDiff, Nat.reduceMul, Int.reduceToNat, reduceIte, Int.reduceLE, Int.reduceNeg, he, eq_self, decide_true, Bool.not_true, List.map_nil, List.length_nil, z0]; rfl) ?_
  refine W.cond rfl (fun _ => ?_) (fun h => absurd h (by simp))
  repeat (first | refine W.seq ?_ | refine W.block ?_ | refine W.skip ?_ | refine W.exit ?_ | refine W.region tab_ok 0 (by decide) (exec_run (by simp only [exa, beq_self_eq_true, ByteArray.size, Nat.reduceAdd, Nat.reduceLeDiff, Nat.reduceEqDiff, Nat.reduceMul, Int.reduceToNat, reduceIte, Int.reduceLE, Int.reduceNeg]; rfl)) ?_)
  refine W.ret ⟨.inr rfl, by rfl, ?_⟩
  simp only [Try.f17, resA, resOne, toT, fin, exa, beq_self_eq_true, ByteArray.size, Nat.reduceAdd, Nat.reduceLeDiff, Nat.reduceEqDiff, Nat.reduceMul, Int.reduceToNat, reduceIte, Int.reduceLE, Int.reduceNeg]
 obtain ⟨hc, hz⟩ := errN_good he
 obtain ⟨Lp, hLp⟩ : ∃ Lp, Lp = (p :: r).map cZ := ⟨_, rfl⟩
 have hat : Lp[0]? = some [.int .i64 p] := by rw [hLp]; rfl
 have hll : Lp.length = r.length + 1 := by rw [hLp]; simp
 have hl0 : (((r.length + 1 : Nat) : Int) = 0) = False := eq_false (by omega)
 have hl1 : (0 < r.length + 1) = True := eq_true (by omega)
 have hcon := fun m => containsI_ok ids p (by omega) m
 rw [← hLp]
 refine runk_split 11 (by simp only [exa, beq_self_eq_true, ByteArray.size, Nat.reduceAdd, Nat.reduceLeDiff, Nat.reduceEqDiff, Nat.reduceMul, Int.reduceToNat, reduceIte, Int.reduceLE, Int.reduceNeg, he, eq_self, decide_true, Bool.not_true, hll, hl0, hl1, hat, Int.toNat_zero]; rfl) ?_
 refine runk_call rfl rfl rfl rfl rfl (by simp) (cvs_cons cv_refl (cvs_cons cv_refl cvs_nil)) (hcon _) ?_
 by_cases hm : p ∈ ids
 rotate_left
 ·have hv : validO n l ids (p :: r) = false := by
   refine Bool.eq_false_iff.2 fun h => hm ?_
   obtain ⟨-, a, ha, e, -⟩ := validO_iff.1 h
   obtain ⟨z, hzm, rfl⟩ := List.mem_map.1 ha
   have := hz z hzm
   rw [← e, show ((z.toNat : Nat) : Int) = z by omega]
   exact hzm
  have p0 := eq_false hm
  rw [hv]
  refine runk_exec (by simp only [exa, beq_self_eq_true, ByteArray.size, Nat.reduceAdd, Nat.reduceLeDiff, Nat.reduceEqDiff, Nat.reduceMul, Int.reduceToNat, reduceIte, Int.reduceLE, Int.reduceNeg, p0, decide_false, Bool.not_false]; rfl) ?_
  refine W.cond rfl (fun _ => ?_) (fun h => absurd h (by simp))
  repeat (first | refine W.seq ?_ | refine W.block ?_ | refine W.skip ?_ | refine W.exit ?_ | refine W.region tab_ok 0 (by decide) (exec_run (by simp only [exa, beq_self_eq_true, ByteArray.size, Nat.reduceAdd, Nat.reduceLeDiff, Nat.reduceEqDiff, Nat.reduceMul, Int.reduceToNat, reduceIte, Int.reduceLE, Int.reduceNeg]; rfl)) ?_)
  refine W.ret ⟨.inr rfl, by rfl, ?_⟩
  simp only [Try.f17, resA, resOne, toT, fin, exa, beq_self_eq_true, ByteArray.size, Nat.reduceAdd, Nat.reduceLeDiff, Nat.reduceEqDiff, Nat.reduceMul, Int.reduceToNat, reduceIte, Int.reduceLE, Int.reduceNeg]
 have p0 := eq_true hm
 refine runk_exec (by simp only [exa, beq_self_eq_true, ByteArray.size, Nat.reduceAdd, Nat.reduceLeDiff, Nat.reduceEqDiff, Nat.reduceMul, Int.reduceToNat, reduceIte, Int.reduceLE, Int.reduceNeg, p0, decide_true, Bool.not_true]; rfl) ?_
 refine W.cond rfl (fun h => absurd h (by simp)) (fun _ => ?_)
 obtain ⟨n, rfl⟩ := good_n hc
 have hp0 := hz p hm
 obtain ⟨a, rfl⟩ : ∃ a : Nat, p = (a : Int) := ⟨p.toNat, by omega⟩
 have han : a < n := by omega
 have hn : n ≤ 100000 := by have := (natS_back hc).2.1; omega
 have hE := allS_lt hc
 have h1 := (hs.2 hc).1
 rw [Int.toNat_natCast] at h1
 have hst : ∀ m, COk Try.prog 23 [.c (.int .i64 n), .c (.sl (l.map cS))] m (.c (.sl ((allS n l).map cEd))) := fun m => steps_ok n l hc (by have := hs.1; omega) m
 have hv : ∀ b : Bool, (b = true ↔ ∃ j, vSet (allS n l) r (fun i => i = 2 * a) j) → validO (n : Int) l ids ((a : Int) :: r) = b := fun b hb => by
  rw [Bool.eq_iff_iff, hb, validO_iff, Int.toNat_natCast]
  constructor
  ·rintro ⟨-, a', -, e, h⟩
   have : a' = a := by omega
   subst this; exact h
  ·intro h
   exact ⟨he, a, List.mem_map.2 ⟨(a : Int), hm, by omega⟩, rfl, h⟩
 have w0 := wrap_two (x := a) (by omega)
 obtain ⟨S, hS⟩ : ∃ S, S = allS n l := ⟨_, rfl⟩
 rw [← hS] at hst hE h1 hv
 obtain ⟨N, hN⟩ : ∃ N, N = 2 * n := ⟨_, rfl⟩
 have hhd := fun m => headsF_ok n hn S h1 hE m
 rw [← hN] at hE hhd
 (repeat (first | refine W.seq ?_ | refine W.block ?_ | refine W.skip ?_ | refine W.exit ?_))
 refine W.regionK tab_ok 0 (by decide) ?_
 refine runk_split 3 (by simp only [exa, beq_self_eq_true, ByteArray.size, Nat.reduceAdd, Nat.reduceLeDiff, Nat.reduceEqDiff, Nat.reduceMul, Int.reduceToNat, reduceIte, Int.reduceLE, Int.reduceNeg]; rfl) ?_
 refine runk_call rfl rfl rfl rfl rfl (by simp) (cvs_cons cv_refl (cvs_cons cv_refl cvs_nil)) (hst _) ?_
 refine runk_split 0 (by simp only [exa, beq_self_eq_true, ByteArray.size, Nat.reduceAdd, Nat.reduceLeDiff, Nat.reduceEqDiff, Nat.reduceMul, Int.reduceToNat, reduceIte, Int.reduceLE, Int.reduceNeg]; rfl) ?_
 refine runk_call rfl rfl rfl rfl rfl (by simp) (cvs_cons cv_refl (cvs_cons cv_refl (cvs_cons cv_refl cvs_nil))) (hhd _) ?_
 refine runk_exec (by simp only [exa, beq_self_eq_true, ByteArray.size, Nat.reduceAdd, Nat.reduceLeDiff, Nat.reduceEqDiff, Nat.reduceMul, Int.reduceToNat, reduceIte, Int.reduceLE, Int.reduceNeg]; rfl) ?_
 have sl1 : (1 ≤ r.length + 1) = True := eq_true (by omega)
 have sl2 : (∀ x ∈ Lp, x.length = 1) = True := eq_true (by rw [hLp]; intro x hx; obtain ⟨y, -, rfl⟩ := List.mem_map.1 hx; rfl)
 have sl3 : List.drop 1 (List.take (r.length + 1) Lp) = r.map cZ := by rw [hLp, List.map_cons, List.take_succ_cons, List.drop_one, List.tail_cons, List.take_of_length_le (by simp)]
 have sl4 : (r.length + 1 ≤ r.length + 1) = True := eq_true (Nat.le_refl _)
 (repeat (first | refine W.seq ?_ | refine W.block ?_ | refine W.skip ?_ | refine W.exit ?_))
 refine W.region tab_ok 0 (by decide) (exec_run (by simp only [exa, beq_self_eq_true, ByteArray.size, Nat.reduceAdd, Nat.reduceLeDiff, Nat.reduceEqDiff, Nat.reduceMul, Int.reduceToNat, reduceIte, Int.reduceLE, Int.reduceNeg, hll, hl1, hat, Int.toNat_zero, w0]; rfl)) ?_
 (repeat (first | refine W.seq ?_ | refine W.block ?_ | refine W.skip ?_ | refine W.exit ?_))
 refine W.region tab_ok 0 (by decide) (exec_run (by simp only [exa, beq_self_eq_true, ByteArray.size, Nat.reduceAdd, Nat.reduceLeDiff, Nat.reduceEqDiff, Nat.reduceMul, Int.reduceToNat, reduceIte, Int.reduceLE, Int.reduceNeg, hll, sl1, sl2, sl3, sl4, and_self, or_true, Nat.reduceEqDiff, List.length_map]; rfl)) ?_
 (repeat (first | refine W.seq ?_ | refine W.block ?_ | refine W.skip ?_ | refine W.exit ?_))
 have n0 : nowI S (fun i => i = 2 * a) (r.take 0) [2 * a] := ⟨by simp, fun j => by simp [vSet]⟩
 refine W.loop (ι := Nat × List Nat) (fun x => ⟨upd (upd (upd (upd (upd (fun _ => .top) 9 (.c (.sl (tabU S N)))) 10 (.c (.sl ((x.2).map cN)))) 47 (.c (.sl (r.map cZ)))) 48 (.c (.int .i64 r.length))) 49 (.c (.int .i64 (x.1 : Nat))), Mem.nil⟩) (fun x => x.1 ≤ r.length ∧ nowI S (fun i => i = 2 * a) (r.take x.1) x.2 ∧ ∀ j ∈ x.2, j < N) (fun x => r.length - x.1) (0, [2 * a]) ?start ⟨Nat.zero_le _, n0, fun j hj => by simp at hj; omega⟩ ?round
 case start =>
  refine le_mk ?sle ?mle ?swf ?mwf ?kept (by rfl)
  case kept => exact kept_not hkeep
  case swf => repeat (first | exact swf_top _ | refine swf_upd ?_ (by simp [A.ids, upd_app]))
  case mwf => repeat (first | exact mwf_nil _ | refine mwf_upd ?_ (by simp [A.ids, O.ids, upd_app]))
  case mle => repeat (first | exact mle_nil _ | exact mle_refl _ | refine mle_upd ?_ (by first | rfl | (simp only [upd_app, killM_app, Nat.reduceEqDiff, reduceIte, cN, List.map_cons, List.map_nil]; done)))
  case sle => repeat (first | exact sle_top _ | exact sle_refl _ | refine sle_upd ?_ (by first | rfl | (simp only [upd_app, entry_zero, entry_succ, Nat.reduceEqDiff, reduceIte, cN, List.map_cons, List.map_nil]; done)))
 case round =>
  rintro ⟨i, now⟩ ⟨hir, hnow, hnN⟩
  simp only at hir hnow hnN
  have hnl := nodup_lt_len hnow.1 hnN
  have hpl : r.length ≤ 1000000 := by simp only [List.length_cons] at hp; omega
  repeat (first | refine W.seq ?_ | refine W.block ?_ | refine W.skip ?_ | refine W.exit ?_ | refine W.region tab_ok 0 (by decide) (exec_run (by simp only [exa, beq_self_eq_true, ByteArray.size, Nat.reduceAdd, Nat.reduceLeDiff, Nat.reduceEqDiff, Nat.reduceMul, Int.reduceToNat, reduceIte, Int.reduceLE, Int.reduceNeg]; rfl)) ?_)
  refine W.cond rfl ?_ ?_
  ·intro hlt
   simp only [decide_eq_true_eq, Int.ofNat_lt] at hlt
   obtain ⟨k, hk⟩ : ∃ x, r[i]? = some x := ⟨_, List.getElem?_eq_getElem hlt⟩
   have htk : r.take (i + 1) = r.take i ++ [k] := by rw [List.take_add_one, hk]; rfl
   repeat (first | refine W.seq ?_ | refine W.block ?_ | refine W.skip ?_ | refine W.exit ?_ | refine W.region tab_ok 0 (by decide) (exec_run (by simp only [exa, beq_self_eq_true, ByteArray.size, Nat.reduceAdd, Nat.reduceLeDiff, Nat.reduceEqDiff, Nat.reduceMul, Int.reduceToNat, reduceIte, Int.reduceLE, Int.reduceNeg, at_map hk, cZ, List.length_map]; rfl)) ?_)
   refine W.newArr 13 100 3 1 rfl rfl ?_
   refine W.loop (ι := Nat) (fun iu => ⟨upd (upd (upd (upd (upd (upd (upd (upd (upd (upd (fun _ => .top) 9 (.c (.sl (tabU S N)))) 10 (.c (.sl ((now).map cN)))) 47 (.c (.sl (r.map cZ)))) 48 (.c (.int .i64 r.length))) 49 (.c (.int .i64 (i : Nat)))) 12 (.c (.int .i64 k))) 13 (.own 100)) 53 (.c (.sl (now.map cN)))) 54 (.c (.int .i64 now.length))) 55 (.c (.int .i64 (iu : Nat))), upd Mem.nil 100 (some (.arr 3 1 ((vb k (onw S (now.take iu))).map cN)))⟩) (fun iu => iu ≤ now.length) (fun iu => now.length - iu) 0 ?start2 (Nat.zero_le _) ?round2
   case start2 =>
    refine le_mk ?sle ?mle ?swf ?mwf ?kept (by rfl)
    case kept => exact kept_not hkeep
    case swf => repeat (first | exact swf_top _ | refine swf_upd ?_ (by simp [A.ids, upd_app]))
    case mwf => repeat (first | exact mwf_nil _ | refine mwf_upd ?_ (by simp [A.ids, O.ids, upd_app]))
    case mle => repeat (first | exact mle_nil _ | exact mle_refl _ | refine mle_upd ?_ (by first | rfl | (simp only [upd_app, killM_app, Nat.reduceEqDiff, reduceIte, vb, onw, List.take_zero, List.flatMap_nil, List.foldl_nil, List.map_nil]; done)))
    case sle => repeat (first | exact sle_top _ | exact sle_refl _ | refine sle_upd ?_ (by first | rfl | (simp only [upd_app, entry_zero, entry_succ, Nat.reduceEqDiff, reduceIte, vb, onw, List.take_zero, List.flatMap_nil, List.foldl_nil, List.map_nil]; done)))
   case round2 =>
    intro iu hiu
    repeat (first | refine W.seq ?_ | refine W.block ?_ | refine W.skip ?_ | refine W.exit ?_ | refine W.region tab_ok 0 (by decide) (exec_run (by simp only [exa, beq_self_eq_true, ByteArray.size, Nat.reduceAdd, Nat.reduceLeDiff, Nat.reduceEqDiff, Nat.reduceMul, Int.reduceToNat, reduceIte, Int.reduceLE, Int.reduceNeg]; rfl)) ?_)
    refine W.cond rfl ?_ ?_
    ·intro hlt2
     simp only [decide_eq_true_eq, Int.ofNat_lt] at hlt2
     obtain ⟨u, hu⟩ : ∃ x, now[iu]? = some x := ⟨_, List.getElem?_eq_getElem hlt2⟩
     have huN := hnN u (List.mem_of_getElem? hu)
     have hu0 : (0 : Int) ≤ (u : Int) := by omega
     have htk2 : now.take (iu + 1) = now.take iu ++ [u] := by rw [List.take_add_one, hu]; rfl
     obtain ⟨L0, hL0⟩ : ∃ L0, L0 = onw S (now.take iu) := ⟨_, rfl⟩
     obtain ⟨os, hos⟩ : ∃ os, os = outs S u := ⟨_, rfl⟩
     have hL0N : ∀ x ∈ L0, x < N := fun x hx => by rw [hL0] at hx; obtain ⟨i, -, e⟩ := mem_onw.1 hx; exact (hE _ e).2
     have hosN : ∀ x ∈ os, x < N := fun x hx => by rw [hos] at hx; exact (hE _ (mem_outs.1 hx)).2
     have hosl : os.length ≤ 1000000 := by rw [hos]; exact Nat.le_trans (outs_len S u) h1
     rw [← hL0]
     repeat (first | refine W.seq ?_ | refine W.block ?_ | refine W.skip ?_ | refine W.exit ?_ | refine W.region tab_ok 0 (by decide) (exec_run (by simp only [exa, beq_self_eq_true, ByteArray.size, Nat.reduceAdd, Nat.reduceLeDiff, Nat.reduceEqDiff, Nat.reduceMul, Int.reduceToNat, reduceIte, Int.reduceLE, Int.reduceNeg, at_map hu, cN, tabU_at huN, tabU_len, huN, hu0, Int.toNat_natCast, and_self, List.length_map]; rfl)) ?_)
     rw [← hos]
     refine W.loop (ι := Nat) (fun iv => ⟨upd (upd (upd (upd (upd (upd (upd (upd (upd (upd (upd (upd (upd (fun _ => .top) 9 (.c (.sl (tabU S N)))) 10 (.c (.sl ((now).map cN)))) 47 (.c (.sl (r.map cZ)))) 48 (.c (.int .i64 r.length))) 49 (.c (.int .i64 (i : Nat)))) 12 (.c (.int .i64 k))) 13 (.own 100)) 53 (.c (.sl (now.map cN)))) 54 (.c (.int .i64 now.length))) 55 (.c (.int .i64 (iu : Nat)))) 62 (.c (.sl (os.map cN)))) 63 (.c (.int .i64 os.length))) 64 (.c (.int .i64 (iv : Nat))), upd Mem.nil 100 (some (.arr 3 1 ((vb k (L0 ++ os.take iv)).map cN)))⟩) (fun iv => iv ≤ os.length) (fun iv => os.length - iv) 0 ?start3 (Nat.zero_le _) ?round3
     case start3 =>
      refine le_mk ?sle ?mle ?swf ?mwf ?kept (by rfl)
      case kept => exact kept_not hkeep
      case swf => repeat (first | exact swf_top _ | refine swf_upd ?_ (by simp [A.ids, upd_app]))
      case mwf => repeat (first | exact mwf_nil _ | refine mwf_upd ?_ (by simp [A.ids, O.ids, upd_app]))
      case mle => repeat (first | exact mle_nil _ | exact mle_refl _ | refine mle_upd ?_ (by first | rfl | (simp only [upd_app, killM_app, Nat.reduceEqDiff, reduceIte, List.take_zero, List.append_nil]; done)))
      case sle => repeat (first | exact sle_top _ | exact sle_refl _ | refine sle_upd ?_ (by first | rfl | (simp only [upd_app, entry_zero, entry_succ, Nat.reduceEqDiff, reduceIte, List.take_zero, List.append_nil]; done)))
     case round3 =>
      intro iv hiv
      repeat (first | refine W.seq ?_ | refine W.block ?_ | refine W.skip ?_ | refine W.exit ?_ | refine W.region tab_ok 0 (by decide) (exec_run (by simp only [exa, beq_self_eq_true, ByteArray.size, Nat.reduceAdd, Nat.reduceLeDiff, Nat.reduceEqDiff, Nat.reduceMul, Int.reduceToNat, reduceIte, Int.reduceLE, Int.reduceNeg]; rfl)) ?_)
      refine W.cond rfl ?_ ?_
      ·intro hlt3
       simp only [decide_eq_true_eq, Int.ofNat_lt] at hlt3
       obtain ⟨j, hj⟩ : ∃ x, os[iv]? = some x := ⟨_, List.getElem?_eq_getElem hlt3⟩
       have hjN := hosN j (List.mem_of_getElem? hj)
       have hj0 : ((0 : Int) ≤ (j : Int)) = True := eq_true (by omega)
       have hq := tdiv_two j
       have hqw : IntKind.i64.wrap ((j / 2 : Nat) : Int) = ((j / 2 : Nat) : Int) := wrap_nat (by omega)
       have htk3 : L0 ++ os.take (iv + 1) = (L0 ++ os.take iv) ++ [j] := by rw [List.take_add_one, hj, List.append_assoc]; rfl
       have hbl : (vb k (L0 ++ os.take iv)).length ≤ N := by
        obtain ⟨v1, v2⟩ := vb_spec k (L0 ++ os.take iv)
        refine nodup_lt_len v1 fun x hx => ?_
        rcases List.mem_append.1 ((v2 x).1 hx).1 with h | h
        ·exact hL0N x h
        ·exact hosN x (List.mem_of_mem_take h)
       have hsn : vb k (L0 ++ os.take (iv + 1)) = vbS k (vb k (L0 ++ os.take iv)) j := by rw [htk3, vb_snoc]
       obtain ⟨B, hB⟩ : ∃ B, B = vb k (L0 ++ os.take iv) := ⟨_, rfl⟩
       rw [← hB] at hbl hsn ⊢
       have hct := fun m => containsI_ok (zN B) (j : Int) (by rw [zN_len]; omega) m
       rw [cZ_zN] at hct
       (repeat (first | refine W.seq ?_ | refine W.block ?_ | refine W.skip ?_ | refine W.exit ?_))
       refine W.region tab_ok 0 (by decide) (exec_run (by simp only [exa, beq_self_eq_true, ByteArray.size, Nat.reduceAdd, Nat.reduceLeDiff, Nat.reduceEqDiff, Nat.reduceMul, Int.reduceToNat, reduceIte, Int.reduceLE, Int.reduceNeg, at_map hj, cN]; rfl)) ?_
       by_cases q1 : ((j / 2 : Nat) : Int) = k
       ·have p1 := eq_true q1
        have p2 : ((0 : Int) ≤ k) = True := eq_true (by omega)
        (repeat (first | refine W.seq ?_ | refine W.block ?_ | refine W.skip ?_ | refine W.exit ?_))
        refine W.regionK tab_ok 0 (by decide) ?_
        refine runk_split 15 (by simp only [exa, beq_self_eq_true, ByteArray.size, Nat.reduceAdd, Nat.reduceLeDiff, Nat.reduceEqDiff, Nat.reduceMul, Int.reduceToNat, reduceIte, Int.reduceLE, Int.reduceNeg, Int.reduceEq, hq, hqw, p1, p2, hj0]; rfl) ?_
        refine runk_call rfl rfl rfl rfl rfl (by simp) (cvs_cons (cv_own rfl) (cvs_cons cv_refl cvs_nil)) (hct _) ?_
        by_cases q2 : j ∈ B
        ·have p3 : ((j : Int) ∈ zN B) = True := eq_true (mem_zN.2 q2)
         refine runk_exec (by simp only [exa, beq_self_eq_true, ByteArray.size, Nat.reduceAdd, Nat.reduceLeDiff, Nat.reduceEqDiff, Nat.reduceMul, Int.reduceToNat, reduceIte, Int.reduceLE, Int.reduceNeg, p3, decide_true, Bool.not_true]; rfl) ?_
         refine W.cond rfl (fun h => absurd h (by simp)) (fun _ => ?_)
         repeat (first | refine W.seq ?_ | refine W.block ?_ | refine W.skip ?_ | refine W.exit ?_ | refine W.region tab_ok 0 (by decide) (exec_run (by simp only [exa, beq_self_eq_true, ByteArray.size, Nat.reduceAdd, Nat.reduceLeDiff, Nat.reduceEqDiff, Nat.reduceMul, Int.reduceToNat, reduceIte, Int.reduceLE, Int.reduceNeg]; rfl)) ?_)
         refine ⟨iv + 1, hlt3, by omega, ?_⟩
         rw [hsn, vbS, if_neg (fun h => h.2 q2)]
         refine le_mk ?sle ?mle ?swf ?mwf ?kept (by rfl)
         case kept => exact kept_not hkeep
         case swf => repeat (first | exact swf_top _ | refine swf_upd ?_ (by simp [A.ids, upd_app]))
         case mwf => repeat (first | exact mwf_nil _ | refine mwf_upd ?_ (by simp [A.ids, O.ids, upd_app]))
         case mle => repeat (first | exact mle_nil _ | exact mle_refl _ | refine mle_upd ?_ (by first | rfl | (simp only [upd_app, killM_app, Nat.reduceEqDiff, reduceIte, wrap_succ (show iv + 1 < 9223372036854775808 by omega)]; done)))
         case sle => repeat (first | exact sle_top _ | exact sle_refl _ | refine sle_upd ?_ (by first | rfl | (simp only [upd_app, entry_zero, entry_succ, Nat.reduceEqDiff, reduceIte, wrap_succ (show iv + 1 < 9223372036854775808 by omega)]; done)))
        ·have p3 : ((j : Int) ∈ zN B) = False := eq_false (fun h => q2 (mem_zN.1 h))
         refine runk_exec (by simp only [exa, beq_self_eq_true, ByteArray.size, Nat.reduceAdd, Nat.reduceLeDiff, Nat.reduceEqDiff, Nat.reduceMul, Int.reduceToNat, reduceIte, Int.reduceLE, Int.reduceNeg, p3, decide_false, Bool.not_false]; rfl) ?_
         refine W.cond rfl (fun _ => ?_) (fun h => absurd h (by simp))
         (repeat (first | refine W.seq ?_ | refine W.block ?_ | refine W.skip ?_ | refine W.exit ?_))
         refine W.regionK tab_ok 0 (by decide) ?_
         refine runk_split 3 (by simp only [exa, beq_self_eq_true, ByteArray.size, Nat.reduceAdd, Nat.reduceLeDiff, Nat.reduceEqDiff, Nat.reduceMul, Int.reduceToNat, reduceIte, Int.reduceLE, Int.reduceNeg]; rfl) ?_
         refine runk_append tab_ok 100 rfl rfl rfl rfl rfl rfl rfl rfl (by first | rfl | (simp only [exa, beq_self_eq_true, ByteArray.size, Nat.reduceAdd, Nat.reduceLeDiff, Nat.reduceEqDiff, Nat.reduceMul, Int.reduceToNat, reduceIte, Int.reduceLE, Int.reduceNeg]; rfl)) rfl rfl rfl rfl (nokeep hkeep) (fun z hz => by simp at hz; subst hz; rfl) (by simp only [List.length_map, List.length_cons, List.length_nil]; omega) (by decide) ?_
         refine runk_exec (by simp only [exa, beq_self_eq_true, ByteArray.size, Nat.reduceAdd, Nat.reduceLeDiff, Nat.reduceEqDiff, Nat.reduceMul, Int.reduceToNat, reduceIte, Int.reduceLE, Int.reduceNeg]; rfl) ?_
         repeat (first | refine W.seq ?_ | refine W.block ?_ | refine W.skip ?_ | refine W.exit ?_ | refine W.region tab_ok 0 (by decide) (exec_run (by simp only [exa, beq_self_eq_true, ByteArray.size, Nat.reduceAdd, Nat.reduceLeDiff, Nat.reduceEqDiff, Nat.reduceMul, Int.reduceToNat, reduceIte, Int.reduceLE, Int.reduceNeg]; rfl)) ?_)
         refine ⟨iv + 1, hlt3, by omega, ?_⟩
         rw [hsn, vbS, if_pos ⟨q1, q2⟩]
         refine le_mk ?sle ?mle ?swf ?mwf ?kept (by rfl)
         case kept => exact kept_not hkeep
         case swf => repeat (first | exact swf_top _ | refine swf_upd ?_ (by simp [A.ids, upd_app]))
         case mwf => repeat (first | exact mwf_nil _ | refine mwf_upd ?_ (by simp [A.ids, O.ids, upd_app]))
         case mle => repeat (first | exact mle_nil _ | exact mle_refl _ | refine mle_upd ?_ (by first | rfl | (simp only [upd_app, killM_app, Nat.reduceEqDiff, reduceIte, wrap_succ (show iv + 1 < 9223372036854775808 by omega), List.map_append, List.map_cons, List.map_nil, cN]; done)))
         case sle => repeat (first | exact sle_top _ | exact sle_refl _ | refine sle_upd ?_ (by first | rfl | (simp only [upd_app, entry_zero, entry_succ, Nat.reduceEqDiff, reduceIte, wrap_succ (show iv + 1 < 9223372036854775808 by omega), List.map_append, List.map_cons, List.map_nil, cN]; done)))
       ·have p1 := eq_false q1
        repeat (first | refine W.seq ?_ | refine W.block ?_ | refine W.skip ?_ | refine W.exit ?_ | refine W.region tab_ok 0 (by decide) (exec_run (by simp only [exa, beq_self_eq_true, ByteArray.size, Nat.reduceAdd, Nat.reduceLeDiff, Nat.reduceEqDiff, Nat.reduceMul, Int.reduceToNat, reduceIte, Int.reduceLE, Int.reduceNeg, Int.reduceEq, hq, hqw, p1]; rfl)) ?_)
        refine W.cond rfl (fun h => absurd h (by simp)) (fun _ => ?_)
        repeat (first | refine W.seq ?_ | refine W.block ?_ | refine W.skip ?_ | refine W.exit ?_ | refine W.region tab_ok 0 (by decide) (exec_run (by simp only [exa, beq_self_eq_true, ByteArray.size, Nat.reduceAdd, Nat.reduceLeDiff, Nat.reduceEqDiff, Nat.reduceMul, Int.reduceToNat, reduceIte, Int.reduceLE, Int.reduceNeg]; rfl)) ?_)
        refine ⟨iv + 1, hlt3, by omega, ?_⟩
        rw [hsn, vbS, if_neg (fun h => q1 h.1)]
        refine le_mk ?sle ?mle ?swf ?mwf ?kept (by rfl)
        case kept => exact kept_not hkeep
        case swf => repeat (first | exact swf_top _ | refine swf_upd ?_ (by simp [A.ids, upd_app]))
        case mwf => repeat (first | exact mwf_nil _ | refine mwf_upd ?_ (by simp [A.ids, O.ids, upd_app]))
        case mle => repeat (first | exact mle_nil _ | exact mle_refl _ | refine mle_upd ?_ (by first | rfl | (simp only [upd_app, killM_app, Nat.reduceEqDiff, reduceIte, wrap_succ (show iv + 1 < 9223372036854775808 by omega)]; done)))
        case sle => repeat (first | exact sle_top _ | exact sle_refl _ | refine sle_upd ?_ (by first | rfl | (simp only [upd_app, entry_zero, entry_succ, Nat.reduceEqDiff, reduceIte, wrap_succ (show iv + 1 < 9223372036854775808 by omega)]; done)))
      ·intro hge3
       simp only [decide_eq_false_iff_not, Int.ofNat_lt] at hge3
       obtain rfl : iv = os.length := by omega
       rw [List.take_length]
       repeat (first | refine W.seq ?_ | refine W.block ?_ | refine W.skip ?_ | refine W.exit ?_ | refine W.region tab_ok 0 (by decide) (exec_run (by simp only [exa, beq_self_eq_true, ByteArray.size, Nat.reduceAdd, Nat.reduceLeDiff, Nat.reduceEqDiff, Nat.reduceMul, Int.reduceToNat, reduceIte, Int.reduceLE, Int.reduceNeg]; rfl)) ?_)
       refine ⟨iu + 1, hlt2, by omega, ?_⟩
       rw [htk2, onw_snoc, ← hL0, ← hos]
       refine le_mk ?sle ?mle ?swf ?mwf ?kept (by rfl)
       case kept => exact kept_not hkeep
       case swf => repeat (first | exact swf_top _ | refine swf_upd ?_ (by simp [A.ids, upd_app]))
       case mwf => repeat (first | exact mwf_nil _ | refine mwf_upd ?_ (by simp [A.ids, O.ids, upd_app]))
       case mle => repeat (first | exact mle_nil _ | exact mle_refl _ | refine mle_upd ?_ (by first | rfl | (simp only [upd_app, killM_app, Nat.reduceEqDiff, reduceIte, wrap_succ (show iu + 1 < 9223372036854775808 by omega)]; done)))
       case sle => repeat (first | exact sle_top _ | exact sle_refl _ | refine sle_upd ?_ (by first | rfl | (simp only [upd_app, entry_zero, entry_succ, Nat.reduceEqDiff, reduceIte, wrap_succ (show iu + 1 < 9223372036854775808 by omega)]; done)))
    ·intro hge2
     simp only [decide_eq_false_iff_not, Int.ofNat_lt] at hge2
     obtain rfl : iu = now.length := by omega
     rw [List.take_length]
     have hnx := nowI_next (k := k) hnow
     rw [← htk] at hnx
     have hB : ∀ j ∈ vb k (onw S now), j < N := fun j hj => by
      obtain ⟨i, -, e⟩ := mem_onw.1 (((vb_spec k (onw S now)).2 j).1 hj).1
      exact (hE _ e).2
     (repeat (first | refine W.seq ?_ | refine W.block ?_ | refine W.skip ?_ | refine W.exit ?_))
     refine W.region tab_ok 0 (by decide) (exec_run (by simp only [exa, beq_self_eq_true, ByteArray.size, Nat.reduceAdd, Nat.reduceLeDiff, Nat.reduceEqDiff, Nat.reduceMul, Int.reduceToNat, reduceIte, Int.reduceLE, Int.reduceNeg]; rfl)) ?_
     refine W.asData 10 (x := .sl ((vb k (onw S now)).map cN)) rfl ?_ (by decide)
     repeat (first | refine W.seq ?_ | refine W.block ?_ | refine W.skip ?_ | refine W.exit ?_ | refine W.region tab_ok 0 (by decide) (exec_run (by simp only [exa, beq_self_eq_true, ByteArray.size, Nat.reduceAdd, Nat.reduceLeDiff, Nat.reduceEqDiff, Nat.reduceMul, Int.reduceToNat, reduceIte, Int.reduceLE, Int.reduceNeg]; rfl)) ?_)
     refine ⟨(i + 1, vb k (onw S now)), ⟨hlt, hnx, hB⟩, by simp; omega, ?_⟩
     refine le_mk ?sle ?mle ?swf ?mwf ?kept (by rfl)
     case kept => exact kept_not hkeep
     case swf => repeat (first | exact swf_top _ | refine swf_upd ?_ (by simp [A.ids, upd_app]))
     case mwf => repeat (first | exact mwf_nil _ | refine mwf_upd ?_ (by simp [A.ids, O.ids, upd_app]))
     case mle => repeat (first | exact mle_nil _ | exact mle_refl _ | refine mle_upd ?_ (by first | rfl | (simp only [upd_app, killM_app, Nat.reduceEqDiff, reduceIte, wrap_succ (show i + 1 < 9223372036854775808 by omega)]; done)))
     case sle => repeat (first | exact sle_top _ | exact sle_refl _ | refine sle_upd ?_ (by first | rfl | (simp only [upd_app, entry_zero, entry_succ, Nat.reduceEqDiff, reduceIte, wrap_succ (show i + 1 < 9223372036854775808 by omega)]; done)))
  ·intro hge
   simp only [decide_eq_false_iff_not, Int.ofNat_lt] at hge
   obtain rfl : i = r.length := by omega
   rw [List.take_length] at hnow
   have hres := hv (decide ((0 : Int) < (now.length : Int))) (by
    rw [decide_eq_true_iff]
    constructor
    ·intro h
     rcases now with _ | ⟨j, t⟩
     ·simp at h
     ·exact ⟨j, (hnow.2 j).1 (by simp)⟩
    ·rintro ⟨j, hj⟩
     have := List.length_pos_of_mem ((hnow.2 j).2 hj)
     omega)
   rw [hres]
   repeat (first | refine W.seq ?_ | refine W.block ?_ | refine W.skip ?_ | refine W.exit ?_ | refine W.region tab_ok 0 (by decide) (exec_run (by simp only [exa, beq_self_eq_true, ByteArray.size, Nat.reduceAdd, Nat.reduceLeDiff, Nat.reduceEqDiff, Nat.reduceMul, Int.reduceToNat, reduceIte, Int.reduceLE, Int.reduceNeg, List.length_map]; rfl)) ?_)
   refine W.ret ⟨.inr rfl, by rfl, ?_⟩
   simp only [Try.f17, resA, resOne, toT, fin, exa, beq_self_eq_true, ByteArray.size, Nat.reduceAdd, Nat.reduceLeDiff, Nat.reduceEqDiff, Nat.reduceMul, Int.reduceToNat, reduceIte, Int.reduceLE, Int.reduceNeg]
end V
end Go.Proofs.Ytmhchhmhpoldhaa
end
section
set_option linter.unusedVariables false
set_option linter.unusedSimpArgs false
namespace Go.Proofs.Ytmhchhmhpoldhaa
namespace V
open Go.RowKit
def GStep (P : Go.Program) (R : Ref) (n : Nat) (ds : List Deferred) (ops : Array Oper) (o : Oper) (st st' : St) : Prop :=
 ∀ (a : Act) (w : World) (K : Act → World → Prop) (Q : Exit → Act → World → Prop), SR R n ds st a w → (∀ d, o.dst = some d → d < n) → (∀ a' w', SR R n ds st' a' w' → K a' w') →
  if Region.wanted o (yielded ops a.tmps) = true then o.wp P a w K Q else K (a.put o.dst undef) w
inductive GRun (P : Go.Program) (R : Ref) (n : Nat) (ds : List Deferred) (ops : Array Oper) : List Oper → St → St → Prop where
 | nil (st : St) : GRun P R n ds ops [] st st
 | cons {o : Oper} {l : List Oper} {st st1 st2 : St} (h : GStep P R n ds ops o st st1) (t : GRun P R n ds ops l st1 st2) : GRun P R n ds ops (o :: l) st st2
section
variable {P : Go.Program} {T : Tab} {R : Ref} {n base : Nat} {ds : List Deferred} {ops : Array Oper}
end
end V
end Go.Proofs.Ytmhchhmhpoldhaa
end
section
set_option linter.unusedVariables false
set_option linter.unusedSimpArgs false
namespace Go.Proofs.Ytmhchhmhpoldhaa
namespace V
open Go.RowKit G
theorem two_far : Ms.farF (allS 6 twoL) (ends2 4) = fun i => if i = 8 ∨ i = 9 then 1 else if i = 0 ∨ i = 1 ∨ i = 2 then 2 else 0 := by
 rw [two_steps]
 refine Ms.farF_eq (by simp [ends2]) (fun i h => ?_) (fun i v h => ?_) (by simp)
 ·(try simp only at h); split at h
  ·rename_i e; simp [ends2]; omega
  ·split at h <;> omega
 ·(try simp only at h); split at h
  ·omega
  ·split at h
   ·rename_i e
    obtain rfl : v = 0 := by omega
    rcases e with rfl | rfl | rfl
    ·exact ⟨8, by simp, rfl⟩
    ·exact ⟨9, by simp, rfl⟩
    ·exact ⟨8, by simp, rfl⟩
   ·omega
theorem two_path : pthO (allS 6 twoL) [0] 4 = [0, 4] := by
 rw [← walkR_pth (N := 12) (S := allS 6 twoL) (t := 4) (src := [0]) (by simp)]
 unfold walkR
 rw [two_far]
 show 0 :: [lst (cand (allS 6 twoL) (ends2 4) 0 (succP (allS 6 twoL) (· = 2 * 0)))] = [0, 4]
 have : lst (cand (allS 6 twoL) (ends2 4) 0 (succP (allS 6 twoL) (· = 2 * 0))) = 4 := by
  refine lst_eq ⟨8, ⟨0, rfl, by rw [two_steps]; simp⟩, rfl, Ms.dst_zero.2 (by simp [ends2])⟩ fun x ⟨i, _, h2, h3⟩ => ?_
  have := mem_ends2.1 (Ms.dst_zero.1 h3)
  omega
 rw [this]
theorem two_reachO0 : reachO 6 twoL [0] = ([0, 1, 4], 0) := by
 unfold reachO
 rw [if_pos (by decide)]
 exact congrArg (fun x => (x, (0 : Int))) two_reach0
theorem two_reachO1 : reachO 6 twoL [1] = ([1, 4, 5], 0) := by
 unfold reachO
 rw [if_pos (by decide)]
 exact congrArg (fun x => (x, (0 : Int))) two_reach1
theorem two_pathO : pathO 6 twoL [0] 4 = ([0, 4], 0) := by
 unfold pathO
 rw [if_pos (by decide)]
 have h : pthO (allS (6 : Int).toNat twoL) (natI [0]) (4 : Int).toNat = [0, 4] := two_path
 rw [h]
 rfl
theorem two_valid : validO 6 twoL [0] [0, 4] = true := by
 refine validO_iff.2 ⟨by decide, 0, by simp [natI], rfl, 8, rfl, 0, rfl, ?_⟩
 have : allS (6 : Int).toNat twoL = _ := two_steps
 rw [this]
 simp
theorem two_small : Small 6 twoL := by
 refine ⟨by decide, fun _ => ?_⟩
 rw [show (6 : Int).toNat = 6 from rfl, two_steps]
 refine ⟨by decide, ?_⟩
 unfold wholeE
 rw [show ((6 : Nat) : Int).toNat = 6 from rfl, two_sum]
 decide
theorem same_lit (a : List Nat) (b : List Int) (ha : a.length ≤ 1000) (h : a.map (fun i : Nat => (i : Int)) = b) (m : Mem) : COk Try.prog 14 [.c (.sl (a.map cN)), .c (.sl (b.map cZ))] m (.c (.bool true)) := by
 have := sameInts_ok (zN a) b (by rw [zN_len]; omega) m
 rw [cZ_zN, show zN a = b from h] at this
 simpa using this
set_option maxHeartbeats 4000000 in
theorem live_ok (m : Mem) : COk Try.prog 9 [] m (.c (.bool true)) := by
 have hr0 := fun m => reachZ_ok 6 twoL [0] two_small (by decide) m
 have hr1 := fun m => reachZ_ok 6 twoL [1] two_small (by decide) m
 have hpp := fun m => pathZ_ok 6 twoL [0] 4 two_small (by decide) m
 have hvv := fun m => validZ_ok 6 twoL [0] [0, 4] two_small (by decide) (by decide) m
 have h1 := fun m => same_lit [0, 1, 4] [0, 1, 4] (by decide) rfl m
 have h2 := fun m => same_lit [1, 4, 5] [1, 4, 5] (by decide) rfl m
 have h3 := fun m => same_lit [0, 4] [0, 4] (by decide) rfl m
 rw [two_reachO0] at hr0
 rw [two_reachO1] at hr1
 rw [two_pathO] at hpp
 rw [two_valid] at hvv
 simp only at hr0 hr1 hpp
 obtain ⟨L, hL⟩ : ∃ L, L = twoL.map cS := ⟨_, rfl⟩
 have htw := two_ok
 rw [← hL] at hr0 hr1 hpp hvv htw
 refine (ok_pure tab_ok Try.func9 (by kernel_rfl) rfl rfl (by rfl) (by rfl) (by rfl) (fun R hkeep => ?_) m)
 repeat (first | refine W.seq ?_ | refine W.block ?_ | refine W.skip ?_ | refine W.exit ?_ | refine W.region tab_ok 0 (by decide) (exec_run (by simp only [exa, beq_self_eq_true, ByteArray.size, Nat.reduceAdd, Nat.reduceLeDiff, Nat.reduceEqDiff, Nat.reduceMul, Int.reduceToNat, reduceIte, Int.reduceLE, Int.reduceNeg]; rfl)) ?_)
 refine W.regionK tab_ok 0 (by decide) ?_
 refine runk_split 0 (by simp only [exa, beq_self_eq_true, ByteArray.size, Nat.reduceAdd, Nat.reduceLeDiff, Nat.reduceEqDiff, Nat.reduceMul, Int.reduceToNat, reduceIte, Int.reduceLE, Int.reduceNeg]; rfl) ?_
 refine runk_call rfl rfl rfl rfl rfl (by simp) cvs_nil (htw _) ?_
 refine runk_split 1 (by simp only [exa, beq_self_eq_true, ByteArray.size, Nat.reduceAdd, Nat.reduceLeDiff, Nat.reduceEqDiff, Nat.reduceMul, Int.reduceToNat, reduceIte, Int.reduceLE, Int.reduceNeg, Int.cast_ofNat_Int]; rfl) ?_
 refine runk_call rfl rfl rfl rfl rfl (by simp) (cvs_cons cv_refl (cvs_cons cv_refl (cvs_cons cv_refl cvs_nil))) (hr0 _) ?_
 refine runk_exec (by simp only [exa, beq_self_eq_true, ByteArray.size, Nat.reduceAdd, Nat.reduceLeDiff, Nat.reduceEqDiff, Nat.reduceMul, Int.reduceToNat, reduceIte, Int.reduceLE, Int.reduceNeg]; rfl) ?_
 (repeat (first | refine W.seq ?_ | refine W.block ?_ | refine W.skip ?_ | refine W.exit ?_))
 refine W.regionK tab_ok 0 (by decide) ?_
 refine runk_split 0 (by simp only [exa, beq_self_eq_true, ByteArray.size, Nat.reduceAdd, Nat.reduceLeDiff, Nat.reduceEqDiff, Nat.reduceMul, Int.reduceToNat, reduceIte, Int.reduceLE, Int.reduceNeg]; rfl) ?_
 refine runk_call rfl rfl rfl rfl rfl (by simp) cvs_nil (htw _) ?_
 refine runk_split 1 (by simp only [exa, beq_self_eq_true, ByteArray.size, Nat.reduceAdd, Nat.reduceLeDiff, Nat.reduceEqDiff, Nat.reduceMul, Int.reduceToNat, reduceIte, Int.reduceLE, Int.reduceNeg, Int.cast_ofNat_Int]; rfl) ?_
 refine runk_call rfl rfl rfl rfl rfl (by simp) (cvs_cons cv_refl (cvs_cons cv_refl (cvs_cons cv_refl cvs_nil))) (hr1 _) ?_
 refine runk_exec (by simp only [exa, beq_self_eq_true, ByteArray.size, Nat.reduceAdd, Nat.reduceLeDiff, Nat.reduceEqDiff, Nat.reduceMul, Int.reduceToNat, reduceIte, Int.reduceLE, Int.reduceNeg]; rfl) ?_
 (repeat (first | refine W.seq ?_ | refine W.block ?_ | refine W.skip ?_ | refine W.exit ?_))
 refine W.regionK tab_ok 0 (by decide) ?_
 refine runk_split 0 (by simp only [exa, beq_self_eq_true, ByteArray.size, Nat.reduceAdd, Nat.reduceLeDiff, Nat.reduceEqDiff, Nat.reduceMul, Int.reduceToNat, reduceIte, Int.reduceLE, Int.reduceNeg]; rfl) ?_
 refine runk_call rfl rfl rfl rfl rfl (by simp) cvs_nil (htw _) ?_
 refine runk_split 1 (by simp only [exa, beq_self_eq_true, ByteArray.size, Nat.reduceAdd, Nat.reduceLeDiff, Nat.reduceEqDiff, Nat.reduceMul, Int.reduceToNat, reduceIte, Int.reduceLE, Int.reduceNeg, Int.cast_ofNat_Int]; rfl) ?_
 refine runk_call rfl rfl rfl rfl rfl (by simp) (cvs_cons cv_refl (cvs_cons cv_refl (cvs_cons cv_refl (cvs_cons cv_refl cvs_nil)))) (hpp _) ?_
 refine runk_exec (by simp only [exa, beq_self_eq_true, ByteArray.size, Nat.reduceAdd, Nat.reduceLeDiff, Nat.reduceEqDiff, Nat.reduceMul, Int.reduceToNat, reduceIte, Int.reduceLE, Int.reduceNeg]; rfl) ?_
 (repeat (first | refine W.seq ?_ | refine W.block ?_ | refine W.skip ?_ | refine W.exit ?_))
 refine W.regionK tab_ok 0 (by decide) ?_
 refine runk_split 13 (by simp only [exa, beq_self_eq_true, ByteArray.size, Nat.reduceAdd, Nat.reduceLeDiff, Nat.reduceEqDiff, Nat.reduceMul, Int.reduceToNat, reduceIte, Int.reduceLE, Int.reduceNeg, decide_true, eq_self]; rfl) ?_
 refine runk_call rfl rfl rfl rfl rfl (by simp) (cvs_cons cv_refl (cvs_cons cv_refl cvs_nil)) (h1 _) ?_
 refine runk_split 4 (by simp only [exa, beq_self_eq_true, ByteArray.size, Nat.reduceAdd, Nat.reduceLeDiff, Nat.reduceEqDiff, Nat.reduceMul, Int.reduceToNat, reduceIte, Int.reduceLE, Int.reduceNeg, decide_true, eq_self]; rfl) ?_
 refine runk_call rfl rfl rfl rfl rfl (by simp) (cvs_cons cv_refl (cvs_cons cv_refl cvs_nil)) (h2 _) ?_
 refine runk_split 4 (by simp only [exa, beq_self_eq_true, ByteArray.size, Nat.reduceAdd, Nat.reduceLeDiff, Nat.reduceEqDiff, Nat.reduceMul, Int.reduceToNat, reduceIte, Int.reduceLE, Int.reduceNeg, decide_true, eq_self]; rfl) ?_
 refine runk_call rfl rfl rfl rfl rfl (by simp) (cvs_cons cv_refl (cvs_cons cv_refl cvs_nil)) (h3 _) ?_
 refine runk_split 2 (by simp only [exa, beq_self_eq_true, ByteArray.size, Nat.reduceAdd, Nat.reduceLeDiff, Nat.reduceEqDiff, Nat.reduceMul, Int.reduceToNat, reduceIte, Int.reduceLE, Int.reduceNeg]; rfl) ?_
 refine runk_call rfl rfl rfl rfl rfl (by simp) cvs_nil (htw _) ?_
 refine runk_split 2 (by simp only [exa, beq_self_eq_true, ByteArray.size, Nat.reduceAdd, Nat.reduceLeDiff, Nat.reduceEqDiff, Nat.reduceMul, Int.reduceToNat, reduceIte, Int.reduceLE, Int.reduceNeg]; rfl) ?_
 refine runk_call rfl rfl rfl rfl rfl (by simp) (cvs_cons cv_refl (cvs_cons cv_refl (cvs_cons cv_refl (cvs_cons cv_refl cvs_nil)))) (hvv _) ?_
 refine runk_exec (by simp only [exa, beq_self_eq_true, ByteArray.size, Nat.reduceAdd, Nat.reduceLeDiff, Nat.reduceEqDiff, Nat.reduceMul, Int.reduceToNat, reduceIte, Int.reduceLE, Int.reduceNeg]; rfl) ?_
 repeat (first | refine W.seq ?_ | refine W.block ?_ | refine W.skip ?_ | refine W.exit ?_ | refine W.region tab_ok 0 (by decide) (exec_run (by simp only [exa, beq_self_eq_true, ByteArray.size, Nat.reduceAdd, Nat.reduceLeDiff, Nat.reduceEqDiff, Nat.reduceMul, Int.reduceToNat, reduceIte, Int.reduceLE, Int.reduceNeg]; rfl)) ?_)
 refine W.ret ⟨.inr rfl, by rfl, ?_⟩
 simp only [Try.f9, resA, resOne, toT, fin, exa, beq_self_eq_true, ByteArray.size, Nat.reduceAdd, Nat.reduceLeDiff, Nat.reduceEqDiff, Nat.reduceMul, Int.reduceToNat, reduceIte, Int.reduceLE, Int.reduceNeg]
end V
end Go.Proofs.Ytmhchhmhpoldhaa
end
section
set_option linter.unusedVariables false
set_option linter.unusedSimpArgs false
namespace Go.Proofs.Ytmhchhmhpoldhaa
namespace V
open Go.RowKit G
theorem sumI_sq {n : Int} {l : List Q} (hc : chkS n l = true) : (sumI n l).length ≤ n.toNat * n.toNat := by
 obtain ⟨h1, h2, h3⟩ := natS_back hc
 unfold sumI
 rw [List.length_map]
 have hnd : (sumL (natS l) n.toNat).Nodup := (sumL_rising _ _).imp fun {a b} (h : lexLt a b) (e : a = b) => lex_irrefl a (by rw [← e] at h; exact h)
 refine pairs_len (N := n.toNat) hnd fun p hp => ?_
 have := mem_sumL.1 (show (p.1, p.2) ∈ sumL (natS l) n.toNat from hp)
 exact ⟨this.1, this.2.1⟩
theorem small_len {n : Int} {l : List Q} (hl : l.length ≤ 400) (hn : n ≤ 80 ∨ 100000 < n) : Small n l := by
 refine ⟨by omega, fun hc => ?_⟩
 have hb := (natS_back hc).2.1
 have h1 : n.toNat ≤ 80 := by omega
 have h2 := sumI_sq hc
 have h3 : n.toNat * n.toNat ≤ 80 * 80 := Nat.mul_le_mul h1 h1
 have h4 := wholeE_len (n.toNat : Int) l
 have hnn : ((n.toNat : Nat) : Int) = n := by omega
 rw [hnn] at h4
 have h5 := stp_len (wholeE n.toNat l)
 have h6 : (wholeE (n.toNat : Int) l).length ≤ 6800 := by rw [hnn, h4]; omega
 refine ⟨?_, by omega⟩
 unfold allS
 omega
theorem big_bound {n : Int} {l : List Q} (hb : bigS n l = false) : l.length ≤ 300 ∧ (n ≤ 80 ∨ 100000 < n) := by
 unfold bigS at hb
 simp only [Bool.or_eq_false_iff, Bool.and_eq_false_iff, decide_eq_false_iff_not] at hb
 omega
theorem mem_reachB {F : Nat → Nat} {n i : Nat} : i ∈ reachB F n ↔ i < n ∧ (F (2 * i) ≠ 0 ∨ F (2 * i + 1) ≠ 0) := by simp [reachB, metB]
theorem far_rch {S : List (Nat × Nat)} {src : List Nat} {j : Nat} : Ms.farF (turnL S) src j ≠ 0 ↔ Rch S src j := by
 rw [rch_turn]
 constructor
 ·intro h
  exact Classical.byContradiction fun q => h (Ms.farF_zero.2 q)
 ·intro h q
  exact Ms.farF_zero.1 q h
theorem twi_ph (l : List Nat) : twi l = ph1 l := rfl
theorem mem_reachS {S : List (Nat × Nat)} {src : List Nat} {n i : Nat} : i ∈ reachB (Ms.farF (turnL S) (twi src)) n ↔ i < n ∧ Reached S src i := by
 rw [mem_reachB, far_rch, far_rch, twi_ph]; rfl
theorem rch_ltS {S : List (Nat × Nat)} {src : List Nat} {N j : Nat} (hS : ∀ e ∈ S, e.1 < N ∧ e.2 < N) (hs : ∀ s ∈ src, s < N) (h : Rch S src j) : j < N := by
 induction h with
 | here h => exact hs _ h
 | step _ e _ => exact (hS _ e).2
theorem reached_ltS {S : List (Nat × Nat)} {src : List Nat} {n i : Nat} (hS : ∀ e ∈ S, e.1 < 2 * n ∧ e.2 < 2 * n) (hs : ∀ s ∈ src, s < n) (h : Reached S src i) : i < n := by
 have hp : ∀ s ∈ ph1 src, s < 2 * n := fun s h => by obtain ⟨a, ha, rfl⟩ := List.mem_map.1 h; have := hs a ha; omega
 rcases h with h | h
 ·have := rch_ltS hS hp h; omega
 ·have := rch_ltS hS hp h; omega
theorem reachB_nodup (F : Nat → Nat) (n : Nat) : (reachB F n).Nodup := (List.nodup_range).filter _
theorem pathF_len {S : List (Nat × Nat)} {src : List Nat} {n t : Nat} (hS : ∀ e ∈ S, e.1 < 2 * n ∧ e.2 < 2 * n) (ht : t < n) (h : Reached S src t) : (pathF S src t).length ≤ 2 * n ∧ 0 < (pathF S src t).length := by
 unfold pathF
 rw [pathP_len]
 obtain ⟨⟨i, hi, hd⟩, -⟩ := many_spec h
 have := Ms.dst_lt hS (fun j hj => by have := mem_ends2.1 hj; omega) hd
 omega
theorem errN_snoc {n : Int} {l : List Q} {ids : List Int} {t : Int} (h : errN n l ids = 0) (h0 : 0 ≤ t) (h1 : t < n) : errN n l (ids ++ [t]) = 0 := by
 obtain ⟨hc, hz⟩ := errN_good h
 unfold errN at h ⊢
 rw [if_neg (by rw [hc]; simp)] at h ⊢
 rw [if_neg]
 simp only [Bool.not_eq_true, List.any_eq_false]
 intro z hz'
 rcases List.mem_append.1 hz' with hm | hm
 ·have := hz z hm; simp [outN]; omega
 ·simp at hm; subst hm; simp [outN]; omega
theorem pathO_good {n : Nat} {l : List Q} {ids : List Int} {t : Nat} (h : errN n l ids = 0) (ht : t < n) :
  (Reached (allS n l) (natI ids) t → pathO n l ids t = (pathF (allS n l) (natI ids) t, 0)) ∧ (¬ Reached (allS n l) (natI ids) t → pathO n l ids t = ([], 240)) := by
 have hE := allS_lt (errN_good h).1
 unfold pathO
 rw [if_pos (errN_snoc h (by omega) (by omega)), Int.toNat_natCast, Int.toNat_natCast]
 unfold pthO
 constructor
 ·intro hr
  have hl := (pathF_len hE ht hr).2
  rw [if_pos hr, if_neg (fun e => by rw [e] at hl; simp at hl)]
 ·intro hr
  rw [if_neg hr, if_pos rfl]
theorem pathF_self {S : List (Nat × Nat)} {src : List Nat} {t : Nat} (h : t ∈ src) : Reached S src t ∧ pathF S src t = [t] := by
 have hm : 2 * t ∈ ph1 src := List.mem_map.2 ⟨t, h, rfl⟩
 have hd : Ms.Dst S (ends2 t) (2 * t) 0 := Ms.dst_zero.2 (by simp [ends2])
 have hr : Reached S src t := .inl (.here hm)
 refine ⟨hr, ?_⟩
 have h0 : many S src t = 0 := by
  have := (many_spec hr).2 0 ⟨_, hm, hd⟩
  omega
 unfold pathF
 rw [h0]
 show [lst (cand S (ends2 t) 0 (· ∈ ph1 src))] = [t]
 rw [lst_eq (q := t) ⟨2 * t, hm, by omega, hd⟩ fun x ⟨i, _, h2, h3⟩ => by have := mem_ends2.1 (Ms.dst_zero.1 h3); omega]
theorem natS_app (l m : List Q) : natS (l ++ m) = natS l ++ natS m := by simp [natS]
theorem allS_more {n : Nat} {l more : List Q} : ∀ e ∈ allS n l, e ∈ allS n (l ++ more) := by
 refine stp_more fun e he => ?_
 unfold wholeE at he ⊢
 rcases List.mem_append.1 he with h | h
 ·rw [natS_app]; exact List.mem_append_left _ (List.mem_append_left _ h)
 ·refine List.mem_append_right _ ?_
  obtain ⟨p, hp, rfl⟩ := List.mem_map.1 h
  obtain ⟨t1, t2, t3⟩ := mem_sumL.1 (show (p.1, p.2) ∈ sumL (natS l) _ from hp)
  refine List.mem_map.2 ⟨p, mem_sumL.2 ⟨t1, t2, SL.more (fun e he => by rw [natS_app]; exact List.mem_append_left _ he) t3⟩, rfl⟩
def entsT (L : List Int) : List (A1 × A1) := L.map fun z => (.c (.int .i64 z), .c (.bool true))
theorem entsT_flat (L : List Int) : (entsT L).flatMap (fun p => p.1.ids ++ p.2.ids) = [] := by
 induction L with
 | nil => rfl
 | cons z l ih => rw [entsT, List.map_cons, List.flatMap_cons]; exact ih
theorem entsT_push (L : List Int) (z : Int) : entsT (L ++ [z]) = entsT L ++ [(.c (.int .i64 z), .c (.bool true))] := by simp [entsT]
theorem findT_none {z : Int} : ∀ {L : List Int}, z ∉ L → findE (.c (.int .i64 z)) (entsT L) = some none
 | [], _ => rfl
 | y :: l, h => by
  simp only [List.mem_cons, not_or] at h
  have ih := findT_none (L := l) h.2
  unfold entsT at ih ⊢
  simp only [List.map_cons, findE, keyEq, if_true, decide_eq_false h.1, ih]
theorem findT_some {z : Int} : ∀ {L : List Int}, z ∈ L → ∃ q, findE (.c (.int .i64 z)) (entsT L) = some (some (q, .c (.bool true)))
 | [], h => by cases h
 | y :: l, h => by
  by_cases e : z = y
  ·subst e; exact ⟨0, by simp [entsT, findE, keyEq]⟩
  ·obtain ⟨q, ih⟩ := findT_some (L := l) ((List.mem_cons.1 h).resolve_left e)
   refine ⟨q + 1, ?_⟩
   unfold entsT at ih ⊢
   simp only [List.map_cons, findE, keyEq, if_true, decide_eq_false e, ih]
theorem nodup_new {l : List Nat} (h : l.Nodup) {k x : Nat} (hx : l[k]? = some x) : (x : Int) ∉ zN (l.take k) := fun hin => by
 have hin := mem_zN.1 hin
 obtain ⟨i, hi⟩ := List.getElem?_of_mem hin
 rw [List.getElem?_take] at hi
 split at hi
 ·rename_i hik
  have h1 := List.getElem?_eq_some_iff.1 hi
  have h2 := List.getElem?_eq_some_iff.1 hx
  exact List.pairwise_iff_getElem.1 h i k h1.1 h2.1 hik (h1.2.trans h2.2.symm)
 ·cases hi
end V
end Go.Proofs.Ytmhchhmhpoldhaa
end
section
set_option linter.unusedVariables false
set_option linter.unusedSimpArgs false
namespace Go.Proofs.Ytmhchhmhpoldhaa
namespace V
open Go.RowKit G
set_option maxHeartbeats 4000000 in
theorem lawEnds_ok (n : Int) (l : List Q) (ids path : List Int) (m : Mem) : COk Try.prog 7 [.c (.int .i64 n), .c (.sl (l.map cS)), .c (.sl (ids.map cZ)), .c (.sl (path.map cZ))] m (.c (.bool true)) := by
 refine (ok_pure tab_ok Try.func7 (by kernel_rfl) rfl rfl (by rfl) (by rfl) (by rfl) (fun R hkeep => ?_) m)
 repeat (first | refine W.seq ?_ | refine W.block ?_ | refine W.skip ?_ | refine W.exit ?_ | refine W.region tab_ok 0 (by decide) (exec_run (by simp only [exa, beq_self_eq_true, ByteArray.size, Nat.reduceAdd, Nat.reduceLeDiff, Nat.reduceEqDiff, Nat.reduceMul, Int.reduceToNat, reduceIte, Int.reduceLE, Int.reduceNeg]; rfl)) ?_)
 refine W.regionK tab_ok 0 (by decide) ?_
 refine runk_split 0 (by simp only [exa, beq_self_eq_true, ByteArray.size, Nat.reduceAdd, Nat.reduceLeDiff, Nat.reduceEqDiff, Nat.reduceMul, Int.reduceToNat, reduceIte, Int.reduceLE, Int.reduceNeg]; rfl) ?_
 refine runk_call rfl rfl rfl rfl rfl (by simp) cvs_nil (live_ok _) ?_
 refine runk_exec (by simp only [exa, beq_self_eq_true, ByteArray.size, Nat.reduceAdd, Nat.reduceLeDiff, Nat.reduceEqDiff, Nat.reduceMul, Int.reduceToNat, reduceIte, Int.reduceLE, Int.reduceNeg]; rfl) ?_
 (repeat (first | refine W.seq ?_ | refine W.block ?_ | refine W.skip ?_ | refine W.exit ?_))
 refine W.regionK tab_ok 0 (by decide) ?_
 refine runk_split 2 (by simp only [exa, beq_self_eq_true, ByteArray.size, Nat.reduceAdd, Nat.reduceLeDiff, Nat.reduceEqDiff, Nat.reduceMul, Int.reduceToNat, reduceIte, Int.reduceLE, Int.reduceNeg]; rfl) ?_
 refine runk_call rfl rfl rfl rfl rfl (by simp) (cvs_cons cv_refl (cvs_cons cv_refl cvs_nil)) (big_ok n l _) ?_
 by_cases hb : bigS n l = true
 ·rw [hb]
  refine runk_exec (by simp only [exa, beq_self_eq_true, ByteArray.size, Nat.reduceAdd, Nat.reduceLeDiff, Nat.reduceEqDiff, Nat.reduceMul, Int.reduceToNat, reduceIte, Int.reduceLE, Int.reduceNeg]; rfl) ?_
  refine W.cond rfl (fun _ => ?_) (fun h => absurd h (by simp))
  repeat (first | refine W.seq ?_ | refine W.block ?_ | refine W.skip ?_ | refine W.exit ?_ | refine W.region tab_ok 0 (by decide) (exec_run (by simp only [exa, beq_self_eq_true, ByteArray.size, Nat.reduceAdd, Nat.reduceLeDiff, Nat.reduceEqDiff, Nat.reduceMul, Int.reduceToNat, reduceIte, Int.reduceLE, Int.reduceNeg]; rfl)) ?_)
  refine W.ret ⟨.inr rfl, by rfl, ?_⟩
  simp only [Try.f7, resA, resOne, toT, fin, exa, beq_self_eq_true, ByteArray.size, Nat.reduceAdd, Nat.reduceLeDiff, Nat.reduceEqDiff, Nat.reduceMul, Int.reduceToNat, reduceIte, Int.reduceLE, Int.reduceNeg]
 rw [show bigS n l = false by simpa using hb]
 have hbb := big_bound (show bigS n l = false by simpa using hb)
 clear hb
 by_cases hm : (50 : Int) < (ids.length : Int)
 ·have p0 := eq_true hm
  refine runk_exec (by simp only [exa, beq_self_eq_true, ByteArray.size, Nat.reduceAdd, Nat.reduceLeDiff, Nat.reduceEqDiff, Nat.reduceMul, Int.reduceToNat, reduceIte, Int.reduceLE, Int.reduceNeg, p0, decide_true, List.length_map]; rfl) ?_
  refine W.cond rfl (fun _ => ?_) (fun h => absurd h (by simp))
  repeat (first | refine W.seq ?_ | refine W.block ?_ | refine W.skip ?_ | refine W.exit ?_ | refine W.region tab_ok 0 (by decide) (exec_run (by simp only [exa, beq_self_eq_true, ByteArray.size, Nat.reduceAdd, Nat.reduceLeDiff, Nat.reduceEqDiff, Nat.reduceMul, Int.reduceToNat, reduceIte, Int.reduceLE, Int.reduceNeg]; rfl)) ?_)
  refine W.ret ⟨.inr rfl, by rfl, ?_⟩
  simp only [Try.f7, resA, resOne, toT, fin, exa, beq_self_eq_true, ByteArray.size, Nat.reduceAdd, Nat.reduceLeDiff, Nat.reduceEqDiff, Nat.reduceMul, Int.reduceToNat, reduceIte, Int.reduceLE, Int.reduceNeg]
 have p0 := eq_false hm
 by_cases hm2 : (100 : Int) < (path.length : Int)
 ·have p1 := eq_true hm2
  refine runk_exec (by simp only [exa, beq_self_eq_true, ByteArray.size, Nat.reduceAdd, Nat.reduceLeDiff, Nat.reduceEqDiff, Nat.reduceMul, Int.reduceToNat, reduceIte, Int.reduceLE, Int.reduceNeg, p0, p1, decide_true, decide_false, List.length_map]; rfl) ?_
  refine W.cond rfl (fun _ => ?_) (fun h => absurd h (by simp))
  repeat (first | refine W.seq ?_ | refine W.block ?_ | refine W.skip ?_ | refine W.exit ?_ | refine W.region tab_ok 0 (by decide) (exec_run (by simp only [exa, beq_self_eq_true, ByteArray.size, Nat.reduceAdd, Nat.reduceLeDiff, Nat.reduceEqDiff, Nat.reduceMul, Int.reduceToNat, reduceIte, Int.reduceLE, Int.reduceNeg]; rfl)) ?_)
  refine W.ret ⟨.inr rfl, by rfl, ?_⟩
  simp only [Try.f7, resA, resOne, toT, fin, exa, beq_self_eq_true, ByteArray.size, Nat.reduceAdd, Nat.reduceLeDiff, Nat.reduceEqDiff, Nat.reduceMul, Int.reduceToNat, reduceIte, Int.reduceLE, Int.reduceNeg]
 have p1 := eq_false hm2
 have hsm := small_len (n := n) (l := l) (by omega) hbb.2
 have hvv := fun m => validZ_ok n l ids path hsm (by omega) (by omega) m
 have hrr := fun m => reachZ_ok n l ids hsm (by omega) m
 have hvi := validO_iff (n := n) (l := l) (ids := ids) (path := path)
 generalize validO n l ids path = b at hvv hvi
 refine runk_split 15 (by simp only [exa, beq_self_eq_true, ByteArray.size, Nat.reduceAdd, Nat.reduceLeDiff, Nat.reduceEqDiff, Nat.reduceMul, Int.reduceToNat, reduceIte, Int.reduceLE, Int.reduceNeg, p0, p1, decide_false, List.length_map]; rfl) ?_
 refine runk_call rfl rfl rfl rfl rfl (by simp) (cvs_cons cv_refl (cvs_cons cv_refl (cvs_cons cv_refl (cvs_cons cv_refl cvs_nil)))) (hvv _) ?_
 cases b
 ·skip
  refine runk_exec (by simp only [exa, beq_self_eq_true, ByteArray.size, Nat.reduceAdd, Nat.reduceLeDiff, Nat.reduceEqDiff, Nat.reduceMul, Int.reduceToNat, reduceIte, Int.reduceLE, Int.reduceNeg, Bool.not_false]; rfl) ?_
  refine W.cond rfl (fun _ => ?_) (fun h => absurd h (by simp))
  repeat (first | refine W.seq ?_ | refine W.block ?_ | refine W.skip ?_ | refine W.exit ?_ | refine W.region tab_ok 0 (by decide) (exec_run (by simp only [exa, beq_self_eq_true, ByteArray.size, Nat.reduceAdd, Nat.reduceLeDiff, Nat.reduceEqDiff, Nat.reduceMul, Int.reduceToNat, reduceIte, Int.reduceLE, Int.reduceNeg]; rfl)) ?_)
  refine W.ret ⟨.inr rfl, by rfl, ?_⟩
  simp only [Try.f7, resA, resOne, toT, fin, exa, beq_self_eq_true, ByteArray.size, Nat.reduceAdd, Nat.reduceLeDiff, Nat.reduceEqDiff, Nat.reduceMul, Int.reduceToNat, reduceIte, Int.reduceLE, Int.reduceNeg]
 refine runk_exec (by simp only [exa, beq_self_eq_true, ByteArray.size, Nat.reduceAdd, Nat.reduceLeDiff, Nat.reduceEqDiff, Nat.reduceMul, Int.reduceToNat, reduceIte, Int.reduceLE, Int.reduceNeg, Bool.not_true]; rfl) ?_
 refine W.cond rfl (fun h => absurd h (by simp)) (fun _ => ?_)
 obtain ⟨he, hV⟩ := hvi.1 rfl
 obtain ⟨hc, hz⟩ := errN_good he
 obtain ⟨n, rfl⟩ := good_n hc
 have hE := allS_lt hc
 have hsr := natI_lt hz
 rw [Int.toNat_natCast] at hV hsr
 have hro : reachO (n : Int) l ids = (reachB (Ms.farF (turnL (allS n l)) (twi (natI ids))) n, 0) := by unfold reachO; rw [if_pos he, Int.toNat_natCast]
 rw [hro] at hrr
 simp only at hrr
 -- what the path ends with is reached
 obtain ⟨r, k, rfl⟩ : ∃ r k, path = r ++ [k] := by
  rcases List.eq_nil_or_concat path with h | ⟨r, k, h⟩
  ·subst h; exact absurd hV (by simp [ValidF])
  ·exact ⟨r, k, by simpa using h⟩
 obtain ⟨t, rfl, hre⟩ := valid_reached hV (fun _ _ => Nat.zero_le _)
 have htm := mem_reachS.2 ⟨reached_ltS hE hsr hre, hre⟩
 have hA := reachB_len (Ms.farF (turnL (allS n l)) (twi (natI ids))) n
 have hn : n ≤ 100000 := by have := (natS_back hc).2.1; omega
 obtain ⟨Za, hAe⟩ : ∃ Za, Za = reachB (Ms.farF (turnL (allS n l)) (twi (natI ids))) n := ⟨_, rfl⟩
 rw [← hAe] at hrr htm hA
 obtain ⟨Lp, hLp⟩ : ∃ Lp, Lp = (r ++ [(t : Int)]).map cZ := ⟨_, rfl⟩
 have hll : Lp.length = r.length + 1 := by rw [hLp]; simp
 have hLt : Lp[r.length]? = some [.int .i64 (t : Int)] := by rw [hLp]; simp [cZ]
 have hrl : r.length ≤ 100 := by simp only [List.length_append, List.length_cons, List.length_nil] at hm2; omega
 have hl0 : (((r.length + 1 : Nat) : Int) = 0) = False := eq_false (by omega)
 have wl : IntKind.i64.wrap (((r.length + 1 : Nat) : Int) - 1) = (r.length : Int) := by rw [show (((r.length + 1 : Nat) : Int) - 1) = (r.length : Int) by omega]; exact wrap_nat (by omega)
 have r0 : ((0 : Int) ≤ (r.length : Int)) = True := eq_true (by omega)
 have r1 : (r.length < r.length + 1) = True := eq_true (by omega)
 rw [← hLp]
 clear hm2 p1
 (repeat (first | refine W.seq ?_ | refine W.block ?_ | refine W.skip ?_ | refine W.exit ?_))
 refine W.regionK tab_ok 0 (by decide) ?_
 refine runk_split 3 (by simp only [exa, beq_self_eq_true, ByteArray.size, Nat.reduceAdd, Nat.reduceLeDiff, Nat.reduceEqDiff, Nat.reduceMul, Int.reduceToNat, reduceIte, Int.reduceLE, Int.reduceNeg]; rfl) ?_
 refine runk_call rfl rfl rfl rfl rfl (by simp) (cvs_cons cv_refl (cvs_cons cv_refl (cvs_cons cv_refl cvs_nil))) (hrr _) ?_
 refine runk_exec (by simp only [exa, beq_self_eq_true, ByteArray.size, Nat.reduceAdd, Nat.reduceLeDiff, Nat.reduceEqDiff, Nat.reduceMul, Int.reduceToNat, reduceIte, Int.reduceLE, Int.reduceNeg]; rfl) ?_
 repeat (first | refine W.seq ?_ | refine W.block ?_ | refine W.skip ?_ | refine W.exit ?_ | refine W.region tab_ok 0 (by decide) (exec_run (by simp only [exa, beq_self_eq_true, ByteArray.size, Nat.reduceAdd, Nat.reduceLeDiff, Nat.reduceEqDiff, Nat.reduceMul, Int.reduceToNat, reduceIte, Int.reduceLE, Int.reduceNeg, eq_self, decide_true, Bool.not_true, hll, hl0]; rfl)) ?_)
 refine W.cond rfl (fun h => absurd h (by simp)) (fun _ => ?_)
 repeat (first | refine W.seq ?_ | refine W.block ?_ | refine W.skip ?_ | refine W.exit ?_ | refine W.region tab_ok 0 (by decide) (exec_run (by simp only [exa, beq_self_eq_true, ByteArray.size, Nat.reduceAdd, Nat.reduceLeDiff, Nat.reduceEqDiff, Nat.reduceMul, Int.reduceToNat, reduceIte, Int.reduceLE, Int.reduceNeg, List.length_map]; rfl)) ?_)
 refine W.loop (ι := Nat) (fun k => ⟨upd (upd (upd (upd (upd (fun _ => .top) 3 (.c (.sl Lp))) 9 (.c (.bool true))) 51 (.c (.sl (Za.map cN)))) 52 (.c (.int .i64 Za.length))) 53 (.c (.int .i64 k)), Mem.nil⟩) (fun k => k ≤ Za.length ∧ t ∉ Za.take k) (fun k => Za.length - k) 0 ?start ⟨Nat.zero_le _, by simp⟩ ?round
 case start =>
  refine le_mk ?sle ?mle ?swf ?mwf ?kept (by rfl)
  case kept => exact kept_not hkeep
  case swf => repeat (first | exact swf_top _ | refine swf_upd ?_ (by simp [A.ids, upd_app]))
  case mwf => repeat (first | exact mwf_nil _ | refine mwf_upd ?_ (by simp [A.ids, O.ids, upd_app]))
  case mle => repeat (first | exact mle_nil _ | exact mle_refl _ | refine mle_upd ?_ (by first | rfl | (simp only [upd_app, killM_app, Nat.reduceEqDiff, reduceIte]; done)))
  case sle => repeat (first | exact sle_top _ | exact sle_refl _ | refine sle_upd ?_ (by first | rfl | (simp only [upd_app, entry_zero, entry_succ, Nat.reduceEqDiff, reduceIte]; done)))
 case round =>
  rintro k ⟨hkl, hno⟩
  repeat (first | refine W.seq ?_ | refine W.block ?_ | refine W.skip ?_ | refine W.exit ?_ | refine W.region tab_ok 0 (by decide) (exec_run (by simp only [exa, beq_self_eq_true, ByteArray.size, Nat.reduceAdd, Nat.reduceLeDiff, Nat.reduceEqDiff, Nat.reduceMul, Int.reduceToNat, reduceIte, Int.reduceLE, Int.reduceNeg]; rfl)) ?_)
  refine W.cond rfl ?_ ?_
  ·intro hlt
   simp only [decide_eq_true_eq, Int.ofNat_lt] at hlt
   obtain ⟨x, hx⟩ : ∃ x, Za[k]? = some x := ⟨_, List.getElem?_eq_getElem hlt⟩
   have htk : Za.take (k + 1) = Za.take k ++ [x] := by rw [List.take_add_one, hx]; rfl
   repeat (first | refine W.seq ?_ | refine W.block ?_ | refine W.skip ?_ | refine W.exit ?_ | refine W.region tab_ok 0 (by decide) (exec_run (by simp only [exa, beq_self_eq_true, ByteArray.size, Nat.reduceAdd, Nat.reduceLeDiff, Nat.reduceEqDiff, Nat.reduceMul, Int.reduceToNat, reduceIte, Int.reduceLE, Int.reduceNeg, at_map hx, cN, hll, wl, r0, r1, hLt, Int.toNat_natCast, and_self]; rfl)) ?_)
   refine W.cond rfl ?_ ?_
   ·intro _
    repeat (first | refine W.seq ?_ | refine W.block ?_ | refine W.skip ?_ | refine W.exit ?_ | refine W.region tab_ok 0 (by decide) (exec_run (by simp only [exa, beq_self_eq_true, ByteArray.size, Nat.reduceAdd, Nat.reduceLeDiff, Nat.reduceEqDiff, Nat.reduceMul, Int.reduceToNat, reduceIte, Int.reduceLE, Int.reduceNeg]; rfl)) ?_)
    refine W.ret ⟨.inr rfl, by rfl, ?_⟩
    simp only [Try.f7, resA, resOne, toT, fin, exa, beq_self_eq_true, ByteArray.size, Nat.reduceAdd, Nat.reduceLeDiff, Nat.reduceEqDiff, Nat.reduceMul, Int.reduceToNat, reduceIte, Int.reduceLE, Int.reduceNeg]
   ·intro hne
    have hne : x ≠ t := by simp only [decide_eq_false_iff_not] at hne; omega
    repeat (first | refine W.seq ?_ | refine W.block ?_ | refine W.skip ?_ | refine W.exit ?_ | refine W.region tab_ok 0 (by decide) (exec_run (by simp only [exa, beq_self_eq_true, ByteArray.size, Nat.reduceAdd, Nat.reduceLeDiff, Nat.reduceEqDiff, Nat.reduceMul, Int.reduceToNat, reduceIte, Int.reduceLE, Int.reduceNeg]; rfl)) ?_)
    refine ⟨k + 1, ⟨hlt, ?_⟩, by omega, ?_⟩
    ·rw [htk, List.mem_append, List.mem_singleton]
     rintro (h | h)
     ·exact hno h
     ·exact hne h.symm
    refine le_mk ?sle ?mle ?swf ?mwf ?kept (by rfl)
    case kept => exact kept_not hkeep
    case swf => repeat (first | exact swf_top _ | refine swf_upd ?_ (by simp [A.ids, upd_app]))
    case mwf => repeat (first | exact mwf_nil _ | refine mwf_upd ?_ (by simp [A.ids, O.ids, upd_app]))
    case mle => repeat (first | exact mle_nil _ | exact mle_refl _ | refine mle_upd ?_ (by first | rfl | (simp only [upd_app, killM_app, Nat.reduceEqDiff, reduceIte, wrap_succ (show k + 1 < 9223372036854775808 by omega)]; done)))
    case sle => repeat (first | exact sle_top _ | exact sle_refl _ | refine sle_upd ?_ (by first | rfl | (simp only [upd_app, entry_zero, entry_succ, Nat.reduceEqDiff, reduceIte, wrap_succ (show k + 1 < 9223372036854775808 by omega)]; done)))
  ·intro hge
   simp only [decide_eq_false_iff_not, Int.ofNat_lt] at hge
   obtain rfl : k = Za.length := by omega
   rw [List.take_length] at hno
   exact absurd htm hno
end V
end Go.Proofs.Ytmhchhmhpoldhaa
end
section
set_option linter.unusedVariables false
set_option linter.unusedSimpArgs false
namespace Go.Proofs.Ytmhchhmhpoldhaa
open Go.ChangeShapes Go.WideShapes Go.ChangeAt Go.RowKit
open Go.ChangeMaps (open_string shut_string)
open V
set_option maxRecDepth 100000 in
theorem flowEnds_lifted (os : Os) (started : os.Started) (H : Type) (enc : TypeId × Value → H) :
  ReturnsInHanded {} Try.checked os 7 .any (Rows.flowEndsSpec.pre6 enc Try.prog Try.f7 Rows.flowEndsRow.domain false) (Rows.flowEndsSpec.post enc Try.prog Try.f7 false true false false) := by
 refine returnsInHanded_of_change_shaped (C := Try.checked) own started (by kernel_rfl) Try.func7
  (ChangeSpec.witness6 (enc := enc) (C := Try.checked) false ⟨#[], #[.int .i64 0, .slice none 0 0, .slice none 0 0, .slice none 0 0], []⟩ 8 (by kernel_rfl) (by kernel_rfl) (by kernel_rfl) (by kernel_rfl)) ?_
 intro W base args ds gs before hval0 hW hcnd hsz0 hsh _
 have hval : ∀ (j : Nat) t v, Try.f7.params[j]? = some t → args[j]? = some v → Value.okWide Try.prog W .any base t v := hval0
 have hW' := hW
 obtain ⟨p, q, hA0, hV, rfl, hfz, hnd⟩ := hW
 have hA : DataW.TrodAll enc Try.prog W 0 (fun _ => true) true Try.f7.params.toList args.toList ds p := hA0
 have hsz : ∀ n ∈ DataW.weightsEach Try.prog (Try.f7.params.toList ++ Rows.flowEndsSpec.plain.varTypes Try.prog) (ds ++ gs), n ≤ reachBytes := fun n hn => of_decide_eq_true (List.all_eq_true.1 hsz0 n hn)
 rw [Try.params7] at hA hval hsz
 clear hsz0
 obtain ⟨v0, vs0, d0, ds0, p0, q0, hargs, rfl, rfl, h0, r0⟩ := trodAll_cons hA
 obtain ⟨v1, vs1, d1, ds1, p1, q1, rfl, rfl, rfl, h1, r1⟩ := trodAll_cons r0
 obtain ⟨v2, vs2, d2, ds2, p2, q2, rfl, rfl, rfl, h2, r2⟩ := trodAll_cons r1
 obtain ⟨v3, vs3, d3, ds3, p3, q3, rfl, rfl, rfl, h3, r3⟩ := trodAll_cons r2
 obtain ⟨rfl, rfl, rfl⟩ := trodAll_nil r3
 obtain rfl : args = #[v0, v1, v2, v3] := by cases args; simp_all
 obtain ⟨rfl, rfl⟩ := trodVars_none hV
 clear hA0 hval0
 simp only [List.append_nil] at hW'
 have k0 := h0
 have lt0 : ∀ x ∈ p0, x.block < W.heap.size := by obtain ⟨m, hm⟩ := k0; exact DataW.trod_lt m _ _ _ hm
 have k1 := h1
 have lt1 : ∀ x ∈ p1, x.block < W.heap.size := by obtain ⟨m, hm⟩ := k1; exact DataW.trod_lt m _ _ _ hm
 have k2 := h2
 have lt2 : ∀ x ∈ p2, x.block < W.heap.size := by obtain ⟨m, hm⟩ := k2; exact DataW.trod_lt m _ _ _ hm
 have k3 := h3
 have lt3 : ∀ x ∈ p3, x.block < W.heap.size := by obtain ⟨m, hm⟩ := k3; exact DataW.trod_lt m _ _ _ hm
 have fit0 : Fits Try.prog 3 d0 := fun n hn => hsz n (DataW.weights_mem_each (j := 0) rfl rfl n hn)
 have fit1 : Fits Try.prog 22 d1 := fun n hn => hsz n (DataW.weights_mem_each (j := 1) rfl rfl n hn)
 obtain ⟨z0, rfl⟩ := okWide_int Try.underlying3 (hval 0 3 v0 rfl rfl)
 obtain ⟨rn0, h0⟩ := h0
 obtain ⟨ra0, re0, wf0⟩ := read_int h0
 obtain rfl : ra0 = z0 := by simpa [Value.cells] using re0.symm
 have fit2 : Fits Try.prog 23 d2 := fun n hn => hsz n (DataW.weights_mem_each (j := 2) rfl rfl n hn)
 have fit3 : Fits Try.prog 23 d3 := fun n hn => hsz n (DataW.weights_mem_each (j := 3) rfl rfl n hn)
 obtain ⟨sa1, sn1, sc1, rfl⟩ := okWide_slice Try.underlying22 (hval 1 22 v1 rfl rfl)
 obtain ⟨rn1, h1⟩ := h1
 obtain ⟨rv1, l1, re1, R1⟩ := read_qs fit1 h1
 obtain rfl : rv1 = _ := by simpa [Value.cells] using re1.symm
 obtain ⟨sa2, sn2, sc2, rfl⟩ := okWide_slice Try.underlying23 (hval 2 23 v2 rfl rfl)
 obtain ⟨rn2, h2⟩ := h2
 obtain ⟨rv2, l2, re2, R2⟩ := read_ints fit2 h2
 obtain rfl : rv2 = _ := by simpa [Value.cells] using re2.symm
 obtain ⟨sa3, sn3, sc3, rfl⟩ := okWide_slice Try.underlying23 (hval 3 23 v3 rfl rfl)
 obtain ⟨rn3, h3⟩ := h3
 obtain ⟨rv3, l3, re3, R3⟩ := read_ints fit3 h3
 obtain rfl : rv3 = _ := by simpa [Value.cells] using re3.symm
 refine (cok_true (vals := [_, _, _, _]) (lawEnds_ok ra0 l1 l2 l3 _) trivial (fun B => ⟨rv_int wf0, rv_qs R1, rv_ints R2, rv_ints R3, trivial⟩)).mono fun e W' ⟨he, bel⟩ => ?_
 subst he
 exact ⟨_, rfl, _, _, _, [], _, [], hW', trodAll_mk1 (shut_bool Try.underlying4 _), trodAll_cons_mk (Below.trod laidOut (by kernel_rfl) (of_decide_eq_true (by kernel_rfl)) k0 bel lt0) (trodAll_cons_mk (Below.trod laidOut (by kernel_rfl) (of_decide_eq_true (by kernel_rfl)) k1 bel lt1) (trodAll_cons_mk (Below.trod laidOut (by kernel_rfl) (of_decide_eq_true (by kernel_rfl)) k2 bel lt2) (trodAll_cons_mk (Below.trod laidOut (by kernel_rfl) (of_decide_eq_true (by kernel_rfl)) k3 bel lt3) trodAll_mk0))), rfl, bel.frame _, fun h => by cases h⟩
theorem flowEnds_holds : Rows.FlowEndsSaid :=
 OpenClaim.holds_of_wide 7 Try.f7 rfl rfl rfl rfl rfl rfl rfl ⟨rfl, rfl, rfl, rfl, rfl⟩ rfl rfl rfl rfl rfl (by kernel_rfl) Try.func7 (by kernel_rfl)
  (of_decide_eq_true (by kernel_rfl)) (by unfold Func.isWrapper; first | (rw [if_pos (by decide +kernel)]; kernel_rfl) | (rw [if_neg (by decide +kernel)]; exact ⟨rfl, rfl⟩))
  (fun os started H enc _ => flowEnds_lifted os started H enc)
end Go.Proofs.Ytmhchhmhpoldhaa
end
section
set_option linter.unusedVariables false
set_option linter.unusedSimpArgs false
namespace Go.Proofs.Ytmhchhmhpoldhaa
namespace V
open Go.RowKit G
set_option maxHeartbeats 8000000 in
theorem lawFits_ok (n : Int) (l : List Q) (ids : List Int) (m : Mem) : COk Try.prog 6 [.c (.int .i64 n), .c (.sl (l.map cS)), .c (.sl (ids.map cZ))] m (.c (.bool true)) := by
 refine (ok_pure tab_ok Try.func6 (by kernel_rfl) rfl rfl (by rfl) (by rfl) (by rfl) (fun R hkeep => ?_) m)
 repeat (first | refine W.seq ?_ | refine W.block ?_ | refine W.skip ?_ | refine W.exit ?_ | refine W.region tab_ok 0 (by decide) (exec_run (by simp only [exa, beq_self_eq_true, ByteArray.size, Nat.reduceAdd, Nat.reduceLeDiff, Nat.reduceEqDiff, Nat.reduceMul, Int.reduceToNat, reduceIte, Int.reduceLE, Int.reduceNeg]; rfl)) ?_)
 refine W.regionK tab_ok 0 (by decide) ?_
 refine runk_split 0 (by simp only [exa, beq_self_eq_true, ByteArray.size, Nat.reduceAdd, Nat.reduceLeDiff, Nat.reduceEqDiff, Nat.reduceMul, Int.reduceToNat, reduceIte, Int.reduceLE, Int.reduceNeg]; rfl) ?_
 refine runk_call rfl rfl rfl rfl rfl (by simp) cvs_nil (live_ok _) ?_
 refine runk_exec (by simp only [exa, beq_self_eq_true, ByteArray.size, Nat.reduceAdd, Nat.reduceLeDiff, Nat.reduceEqDiff, Nat.reduceMul, Int.reduceToNat, reduceIte, Int.reduceLE, Int.reduceNeg]; rfl) ?_
 (repeat (first | refine W.seq ?_ | refine W.block ?_ | refine W.skip ?_ | refine W.exit ?_))
 refine W.regionK tab_ok 0 (by decide) ?_
 refine runk_split 2 (by simp only [exa, beq_self_eq_true, ByteArray.size, Nat.reduceAdd, Nat.reduceLeDiff, Nat.reduceEqDiff, Nat.reduceMul, Int.reduceToNat, reduceIte, Int.reduceLE, Int.reduceNeg]; rfl) ?_
 refine runk_call rfl rfl rfl rfl rfl (by simp) (cvs_cons cv_refl (cvs_cons cv_refl cvs_nil)) (big_ok n l _) ?_
 by_cases hb : bigS n l = true
 ·rw [hb]
  refine runk_exec (by simp only [exa, beq_self_eq_true, ByteArray.size, Nat.reduceAdd, Nat.reduceLeDiff, Nat.reduceEqDiff, Nat.reduceMul, Int.reduceToNat, reduceIte, Int.reduceLE, Int.reduceNeg]; rfl) ?_
  refine W.cond rfl (fun _ => ?_) (fun h => absurd h (by simp))
  repeat (first | refine W.seq ?_ | refine W.block ?_ | refine W.skip ?_ | refine W.exit ?_ | refine W.region tab_ok 0 (by decide) (exec_run (by simp only [exa, beq_self_eq_true, ByteArray.size, Nat.reduceAdd, Nat.reduceLeDiff, Nat.reduceEqDiff, Nat.reduceMul, Int.reduceToNat, reduceIte, Int.reduceLE, Int.reduceNeg]; rfl)) ?_)
  refine W.ret ⟨.inr rfl, by rfl, ?_⟩
  simp only [Try.f6, resA, resOne, toT, fin, exa, beq_self_eq_true, ByteArray.size, Nat.reduceAdd, Nat.reduceLeDiff, Nat.reduceEqDiff, Nat.reduceMul, Int.reduceToNat, reduceIte, Int.reduceLE, Int.reduceNeg]
 rw [show bigS n l = false by simpa using hb]
 have hbb := big_bound (show bigS n l = false by simpa using hb)
 clear hb
 by_cases hm : (50 : Int) < (ids.length : Int)
 ·have p0 := eq_true hm
  refine runk_exec (by simp only [exa, beq_self_eq_true, ByteArray.size, Nat.reduceAdd, Nat.reduceLeDiff, Nat.reduceEqDiff, Nat.reduceMul, Int.reduceToNat, reduceIte, Int.reduceLE, Int.reduceNeg, p0, decide_true, List.length_map]; rfl) ?_
  refine W.cond rfl (fun _ => ?_) (fun h => absurd h (by simp))
  repeat (first | refine W.seq ?_ | refine W.block ?_ | refine W.skip ?_ | refine W.exit ?_ | refine W.region tab_ok 0 (by decide) (exec_run (by simp only [exa, beq_self_eq_true, ByteArray.size, Nat.reduceAdd, Nat.reduceLeDiff, Nat.reduceEqDiff, Nat.reduceMul, Int.reduceToNat, reduceIte, Int.reduceLE, Int.reduceNeg]; rfl)) ?_)
  refine W.ret ⟨.inr rfl, by rfl, ?_⟩
  simp only [Try.f6, resA, resOne, toT, fin, exa, beq_self_eq_true, ByteArray.size, Nat.reduceAdd, Nat.reduceLeDiff, Nat.reduceEqDiff, Nat.reduceMul, Int.reduceToNat, reduceIte, Int.reduceLE, Int.reduceNeg]
 have p0 := eq_false hm
 refine runk_exec (by simp only [exa, beq_self_eq_true, ByteArray.size, Nat.reduceAdd, Nat.reduceLeDiff, Nat.reduceEqDiff, Nat.reduceMul, Int.reduceToNat, reduceIte, Int.reduceLE, Int.reduceNeg, p0, decide_false, List.length_map]; rfl) ?_
 refine W.cond rfl (fun h => absurd h (by simp)) (fun _ => ?_)
 have hsm := small_len (n := n) (l := l) (by omega) hbb.2
 have hrr := fun m => reachZ_ok n l ids hsm (by omega) m
 by_cases he : errN n l ids = 0
 rotate_left
 ·have hro : reachO n l ids = ([], errN n l ids) := by unfold reachO; rw [if_neg he]
  rw [hro] at hrr
  simp only [List.map_nil] at hrr
  obtain ⟨e, hE⟩ : ∃ e, e = errN n l ids := ⟨_, rfl⟩
  rw [← hE] at he hrr
  (repeat (first | refine W.seq ?_ | refine W.block ?_ | refine W.skip ?_ | refine W.exit ?_))
  refine W.regionK tab_ok 0 (by decide) ?_
  refine runk_split 3 (by simp only [exa, beq_self_eq_true, ByteArray.size, Nat.reduceAdd, Nat.reduceLeDiff, Nat.reduceEqDiff, Nat.reduceMul, Int.reduceToNat, reduceIte, Int.reduceLE, Int.reduceNeg]; rfl) ?_
  refine runk_call rfl rfl rfl rfl rfl (by simp) (cvs_cons cv_refl (cvs_cons cv_refl (cvs_cons cv_refl cvs_nil))) (hrr _) ?_
  refine runk_exec (by simp only [exa, beq_self_eq_true, ByteArray.size, Nat.reduceAdd, Nat.reduceLeDiff, Nat.reduceEqDiff, Nat.reduceMul, Int.reduceToNat, reduceIte, Int.reduceLE, Int.reduceNeg]; rfl) ?_
  repeat (first | refine W.seq ?_ | refine W.block ?_ | refine W.skip ?_ | refine W.exit ?_ | refine W.region tab_ok 0 (by decide) (exec_run (by simp only [exa, beq_self_eq_true, ByteArray.size, Nat.reduceAdd, Nat.reduceLeDiff, Nat.reduceEqDiff, Nat.reduceMul, Int.reduceToNat, reduceIte, Int.reduceLE, Int.reduceNeg]; rfl)) ?_)
  refine W.cond rfl (fun _ => ?_) (fun h => absurd h (by simp [he]))
  repeat (first | refine W.seq ?_ | refine W.block ?_ | refine W.skip ?_ | refine W.exit ?_ | refine W.region tab_ok 0 (by decide) (exec_run (by simp only [exa, beq_self_eq_true, ByteArray.size, Nat.reduceAdd, Nat.reduceLeDiff, Nat.reduceEqDiff, Nat.reduceMul, Int.reduceToNat, reduceIte, Int.reduceLE, Int.reduceNeg, List.length_nil, eq_self, decide_true]; rfl)) ?_)
  refine W.ret ⟨.inr rfl, by rfl, ?_⟩
  simp only [Try.f6, resA, resOne, toT, fin, exa, beq_self_eq_true, ByteArray.size, Nat.reduceAdd, Nat.reduceLeDiff, Nat.reduceEqDiff, Nat.reduceMul, Int.reduceToNat, reduceIte, Int.reduceLE, Int.reduceNeg]
  rfl
 obtain ⟨hc, hz⟩ := errN_good he
 obtain ⟨n, rfl⟩ := good_n hc
 have hE := allS_lt hc
 have hsr := natI_lt hz
 rw [Int.toNat_natCast] at hsr
 have hro : reachO (n : Int) l ids = (reachB (Ms.farF (turnL (allS n l)) (twi (natI ids))) n, 0) := by unfold reachO; rw [if_pos he, Int.toNat_natCast]
 rw [hro] at hrr
 simp only at hrr
 have hZm : ∀ i, i ∈ reachB (Ms.farF (turnL (allS n l)) (twi (natI ids))) n ↔ i < n ∧ Reached (allS n l) (natI ids) i := fun i => mem_reachS
 have hZl := reachB_len (Ms.farF (turnL (allS n l)) (twi (natI ids))) n
 have hZn := reachB_nodup (Ms.farF (turnL (allS n l)) (twi (natI ids))) n
 have hn : n ≤ 100000 := by have := (natS_back hc).2.1; omega
 obtain ⟨Za, hZe⟩ : ∃ Za, Za = reachB (Ms.farF (turnL (allS n l)) (twi (natI ids))) n := ⟨_, rfl⟩
 rw [← hZe] at hrr hZm hZl hZn
 (repeat (first | refine W.seq ?_ | refine W.block ?_ | refine W.skip ?_ | refine W.exit ?_))
 refine W.regionK tab_ok 0 (by decide) ?_
 refine runk_split 3 (by simp only [exa, beq_self_eq_true, ByteArray.size, Nat.reduceAdd, Nat.reduceLeDiff, Nat.reduceEqDiff, Nat.reduceMul, Int.reduceToNat, reduceIte, Int.reduceLE, Int.reduceNeg]; rfl) ?_
 refine runk_call rfl rfl rfl rfl rfl (by simp) (cvs_cons cv_refl (cvs_cons cv_refl (cvs_cons cv_refl cvs_nil))) (hrr _) ?_
 refine runk_exec (by simp only [exa, beq_self_eq_true, ByteArray.size, Nat.reduceAdd, Nat.reduceLeDiff, Nat.reduceEqDiff, Nat.reduceMul, Int.reduceToNat, reduceIte, Int.reduceLE, Int.reduceNeg]; rfl) ?_
 repeat (first | refine W.seq ?_ | refine W.block ?_ | refine W.skip ?_ | refine W.exit ?_ | refine W.region tab_ok 0 (by decide) (exec_run (by simp only [exa, beq_self_eq_true, ByteArray.size, Nat.reduceAdd, Nat.reduceLeDiff, Nat.reduceEqDiff, Nat.reduceMul, Int.reduceToNat, reduceIte, Int.reduceLE, Int.reduceNeg]; rfl)) ?_)
 refine W.cond rfl (fun h => absurd h (by simp)) (fun _ => ?_)
 repeat (first | refine W.seq ?_ | refine W.block ?_ | refine W.skip ?_ | refine W.exit ?_ | refine W.region tab_ok 0 (by decide) (exec_run (by simp only [exa, beq_self_eq_true, ByteArray.size, Nat.reduceAdd, Nat.reduceLeDiff, Nat.reduceEqDiff, Nat.reduceMul, Int.reduceToNat, reduceIte, Int.reduceLE, Int.reduceNeg, List.length_map]; rfl)) ?_)
 refine W.loop (ι := Nat) (fun k => ⟨upd (upd (upd (upd (upd (upd (upd (upd (fun _ => .top) 0 (.c (.int .i64 (n : Int)))) 1 (.c (.sl (l.map cS)))) 2 (.c (.sl (ids.map cZ)))) 7 (.c (.bool true))) 10 (.map 41)) 42 (.c (.sl (Za.map cN)))) 43 (.c (.int .i64 Za.length))) 44 (.c (.int .i64 k)), upd Mem.nil 41 (some (.map (entsT (zN (Za.take k)))))⟩) (fun k => k ≤ Za.length) (fun k => Za.length - k) 0 ?start (Nat.zero_le _) ?round
 case start =>
  refine le_mk ?sle ?mle ?swf ?mwf (kept_not hkeep) (by rfl)
  case swf => repeat (first | exact swf_top _ | refine swf_upd ?_ (by simp [A.ids, upd_app, entsT, zN, List.take, List.map_nil]))
  case mwf => repeat (first | exact mwf_nil _ | refine mwf_upd ?_ (by simp [A.ids, O.ids, upd_app, entsT, zN, List.take, List.map_nil]))
  case mle => repeat (first | exact mle_nil _ | exact mle_refl _ | refine mle_upd ?_ (by first | rfl | (simp only [upd_app, killM_app, O.kill, A.kill, Nat.reduceEqDiff, reduceIte, Option.map_some, Option.map_none, List.map_cons, List.map_nil, entsT, zN, List.take, List.map_nil]; done)))
  case sle => repeat (first | exact sle_top _ | exact sle_refl _ | refine sle_upd ?_ (by first | rfl | (simp only [upd_app, killS_app, A.kill, entry_zero, entry_succ, Nat.reduceEqDiff, reduceIte, entsT, zN, List.take, List.map_nil]; done)))
 case round =>
  intro k hk
  repeat (first | refine W.seq ?_ | refine W.block ?_ | refine W.skip ?_ | refine W.exit ?_ | refine W.region tab_ok 0 (by decide) (exec_run (by simp only [exa, beq_self_eq_true, ByteArray.size, Nat.reduceAdd, Nat.reduceLeDiff, Nat.reduceEqDiff, Nat.reduceMul, Int.reduceToNat, reduceIte, Int.reduceLE, Int.reduceNeg]; rfl)) ?_)
  refine W.cond rfl ?_ ?_
  ·intro hlt
   simp only [decide_eq_true_eq, Int.ofNat_lt] at hlt
   obtain ⟨x, hx⟩ : ∃ x, Za[k]? = some x := ⟨_, List.getElem?_eq_getElem hlt⟩
   have hfind := findT_none (nodup_new hZn hx)
   have hput : putE (.c (.int .i64 (x : Int))) (.c (.bool true)) (entsT (zN (Za.take k))) none = entsT (zN (Za.take (k + 1))) := by
    rw [List.take_add_one, hx, Option.toList_some, show zN (Za.take k ++ [x]) = zN (Za.take k) ++ [(x : Int)] by simp [zN], entsT_push]; rfl
   repeat (first | refine W.seq ?_ | refine W.block ?_ | refine W.skip ?_ | refine W.exit ?_ | refine W.region tab_ok 0 (by decide) (exec_run (by simp only [exa, beq_self_eq_true, ByteArray.size, Nat.reduceAdd, Nat.reduceLeDiff, Nat.reduceEqDiff, Nat.reduceMul, Int.reduceToNat, reduceIte, Int.reduceLE, Int.reduceNeg, at_map hx, cN]; rfl)) ?_)
   refine W.regionK tab_ok 0 (by decide) ?_
   refine runk_split 2 (by simp only [exa, beq_self_eq_true, ByteArray.size, Nat.reduceAdd, Nat.reduceLeDiff, Nat.reduceEqDiff, Nat.reduceMul, Int.reduceToNat, reduceIte, Int.reduceLE, Int.reduceNeg]; rfl) ?_
   refine runk_put tab_ok (ents := (entsT (zN (Za.take k)))) rfl (.inl rfl) rfl rfl (by first | rfl | (simp only [exa, beq_self_eq_true, ByteArray.size, Nat.reduceAdd, Nat.reduceLeDiff, Nat.reduceEqDiff, Nat.reduceMul, Int.reduceToNat, reduceIte, Int.reduceLE, Int.reduceNeg]; done)) rfl (by first | rfl | (simp only [exa, beq_self_eq_true, ByteArray.size, Nat.reduceAdd, Nat.reduceLeDiff, Nat.reduceEqDiff, Nat.reduceMul, Int.reduceToNat, reduceIte, Int.reduceLE, Int.reduceNeg]; rfl)) (by rfl) (by first | rfl | (simp only [exa, beq_self_eq_true, ByteArray.size, Nat.reduceAdd, Nat.reduceLeDiff, Nat.reduceEqDiff, Nat.reduceMul, Int.reduceToNat, reduceIte, Int.reduceLE, Int.reduceNeg]; rfl)) hfind ?_
   refine runk_exec (by simp only [exa, beq_self_eq_true, ByteArray.size, Nat.reduceAdd, Nat.reduceLeDiff, Nat.reduceEqDiff, Nat.reduceMul, Int.reduceToNat, reduceIte, Int.reduceLE, Int.reduceNeg]; rfl) ?_
   repeat (first | refine W.seq ?_ | refine W.block ?_ | refine W.skip ?_ | refine W.exit ?_ | refine W.region tab_ok 0 (by decide) (exec_run (by simp only [exa, beq_self_eq_true, ByteArray.size, Nat.reduceAdd, Nat.reduceLeDiff, Nat.reduceEqDiff, Nat.reduceMul, Int.reduceToNat, reduceIte, Int.reduceLE, Int.reduceNeg]; rfl)) ?_)
   refine ⟨k + 1, hlt, by omega, ?_⟩
   refine le_mk ?sle ?mle ?swf ?mwf (kept_not hkeep) (by rfl)
   case swf => repeat (first | exact swf_top _ | refine swf_upd ?_ (by simp [A.ids, upd_app, entsT_flat, hput, wrap_succ (show k + 1 < 9223372036854775808 by omega)]))
   case mwf => repeat (first | exact mwf_nil _ | refine mwf_upd ?_ (by simp [A.ids, O.ids, upd_app, entsT_flat, hput, wrap_succ (show k + 1 < 9223372036854775808 by omega)]))
   case mle => repeat (first | exact mle_nil _ | exact mle_refl _ | refine mle_upd ?_ (by first | rfl | (simp only [upd_app, killM_app, O.kill, A.kill, Nat.reduceEqDiff, reduceIte, Option.map_some, Option.map_none, List.map_cons, List.map_nil, entsT_flat, hput, wrap_succ (show k + 1 < 9223372036854775808 by omega)]; done)))
   case sle => repeat (first | exact sle_top _ | exact sle_refl _ | refine sle_upd ?_ (by first | rfl | (simp only [upd_app, killS_app, A.kill, entry_zero, entry_succ, Nat.reduceEqDiff, reduceIte, entsT_flat, hput, wrap_succ (show k + 1 < 9223372036854775808 by omega)]; done)))
  ·intro hge
   simp only [decide_eq_false_iff_not, Int.ofNat_lt] at hge
   obtain rfl : k = Za.length := by omega
   rw [List.take_length]
   repeat (first | refine W.seq ?_ | refine W.block ?_ | refine W.skip ?_ | refine W.exit ?_ | refine W.region tab_ok 0 (by decide) (exec_run (by simp only [exa, beq_self_eq_true, ByteArray.size, Nat.reduceAdd, Nat.reduceLeDiff, Nat.reduceEqDiff, Nat.reduceMul, Int.reduceToNat, reduceIte, Int.reduceLE, Int.reduceNeg]; rfl)) ?_)
   refine W.loop (ι := Nat) (fun k => ⟨upd (upd (upd (upd (upd (upd (upd (fun _ => .top) 0 (.c (.int .i64 (n : Int)))) 1 (.c (.sl (l.map cS)))) 2 (.c (.sl (ids.map cZ)))) 7 (.c (.bool true))) 10 (.map 41)) 51 (.c (.int .i64 (n : Int)))) 52 (.c (.int .i64 (k : Nat))), upd Mem.nil 41 (some (.map (entsT (zN Za))))⟩) (fun k => k ≤ n) (fun k => n - k) 0 ?start2 (Nat.zero_le _) ?round2
   case start2 =>
    refine le_mk ?sle ?mle ?swf ?mwf (kept_not hkeep) (by rfl)
    case swf => repeat (first | exact swf_top _ | refine swf_upd ?_ (by simp [A.ids, upd_app, entsT_flat]))
    case mwf => repeat (first | exact mwf_nil _ | refine mwf_upd ?_ (by simp [A.ids, O.ids, upd_app, entsT_flat]))
    case mle => repeat (first | exact mle_nil _ | exact mle_refl _ | refine mle_upd ?_ (by first | rfl | (simp only [upd_app, killM_app, O.kill, A.kill, Nat.reduceEqDiff, reduceIte, Option.map_some, Option.map_none, List.map_cons, List.map_nil, entsT_flat]; done)))
    case sle => repeat (first | exact sle_top _ | exact sle_refl _ | refine sle_upd ?_ (by first | rfl | (simp only [upd_app, killS_app, A.kill, entry_zero, entry_succ, Nat.reduceEqDiff, reduceIte, entsT_flat]; done)))
   case round2 =>
    intro i hi
    repeat (first | refine W.seq ?_ | refine W.block ?_ | refine W.skip ?_ | refine W.exit ?_ | refine W.region tab_ok 0 (by decide) (exec_run (by simp only [exa, beq_self_eq_true, ByteArray.size, Nat.reduceAdd, Nat.reduceLeDiff, Nat.reduceEqDiff, Nat.reduceMul, Int.reduceToNat, reduceIte, Int.reduceLE, Int.reduceNeg]; rfl)) ?_)
    refine W.cond rfl ?_ ?_
    ·intro hlt
     have hlt : i < n := by simp only [decide_eq_true_eq] at hlt; omega
     obtain ⟨g1, g2⟩ := pathO_good (l := l) he hlt
     have hpz := fun m => pathZ_ok (n : Int) l ids (i : Int) hsm (by omega) m
     by_cases hre : Reached (allS n l) (natI ids) i
     ·obtain ⟨q, hq⟩ := findT_some (mem_zN.2 ((hZm i).2 ⟨hlt, hre⟩))
      have hpv := pathF_valid hre
      have hpl := pathF_len hE hlt hre
      rw [g1 hre] at hpz
      simp only at hpz
      obtain ⟨p, hpe⟩ : ∃ p, p = pathF (allS n l) (natI ids) i := ⟨_, rfl⟩
      rw [← hpe] at hpz hpv hpl
      have hval := fun m => validZ_ok (n : Int) l ids (zN p) hsm (by omega) (by rw [zN_len]; omega) m
      rw [validO_iff.2 ⟨he, by rw [Int.toNat_natCast]; exact hpv.1⟩, cZ_zN] at hval
      obtain ⟨v, hv⟩ : ∃ v, p.length = v + 1 := ⟨p.length - 1, by omega⟩
      obtain ⟨Lp, hLp⟩ : ∃ Lp, Lp = p.map cN := ⟨_, rfl⟩
      have hll : Lp.length = v + 1 := by rw [hLp, List.length_map, hv]
      have hLt : Lp[v]? = some [.int .i64 (i : Int)] := by
       have h := hpv.2
       rw [List.getLast?_eq_getElem?, hv] at h
       have h : p[v]? = some i := h
       rw [hLp, List.getElem?_map, h]; rfl
      rw [← hLp] at hpz hval
      have hl0 : (((v + 1 : Nat) : Int) = 0) = False := eq_false (by omega)
      have wl : IntKind.i64.wrap (((v + 1 : Nat) : Int) - 1) = (v : Int) := by rw [show (((v + 1 : Nat) : Int) - 1) = (v : Int) by omega]; exact wrap_nat (by omega)
      have r0 : ((0 : Int) ≤ (v : Int)) = True := eq_true (by omega)
      have r1 : (v < v + 1) = True := eq_true (by omega)
      repeat (first | refine W.seq ?_ | refine W.block ?_ | refine W.skip ?_ | refine W.exit ?_ | refine W.region tab_ok 0 (by decide) (exec_run (by simp only [exa, beq_self_eq_true, ByteArray.size, Nat.reduceAdd, Nat.reduceLeDiff, Nat.reduceEqDiff, Nat.reduceMul, Int.reduceToNat, reduceIte, Int.reduceLE, Int.reduceNeg]; rfl)) ?_)
      refine W.regionK tab_ok 0 (by decide) ?_
      refine runk_split 4 (by simp only [exa, beq_self_eq_true, ByteArray.size, Nat.reduceAdd, Nat.reduceLeDiff, Nat.reduceEqDiff, Nat.reduceMul, Int.reduceToNat, reduceIte, Int.reduceLE, Int.reduceNeg]; rfl) ?_
      refine runk_call rfl rfl rfl rfl rfl (by simp) (cvs_cons cv_refl (cvs_cons cv_refl (cvs_cons cv_refl (cvs_cons cv_refl cvs_nil)))) (hpz _) ?_
      refine runk_exec (by simp only [exa, beq_self_eq_true, ByteArray.size, Nat.reduceAdd, Nat.reduceLeDiff, Nat.reduceEqDiff, Nat.reduceMul, Int.reduceToNat, reduceIte, Int.reduceLE, Int.reduceNeg]; rfl) ?_
      repeat (first | refine W.seq ?_ | refine W.block ?_ | refine W.skip ?_ | refine W.exit ?_ | refine W.region tab_ok 0 (by decide) (exec_run (by simp only [exa, beq_self_eq_true, ByteArray.size, Nat.reduceAdd, Nat.reduceLeDiff, Nat.reduceEqDiff, Nat.reduceMul, Int.reduceToNat, reduceIte, Int.reduceLE, Int.reduceNeg, hq, eq_self, decide_true, Bool.not_true]; rfl)) ?_)
      refine W.cond rfl (fun h => absurd h (by simp)) (fun _ => ?_)
      (repeat (first | refine W.seq ?_ | refine W.block ?_ | refine W.skip ?_ | refine W.exit ?_))
      refine W.regionK tab_ok 0 (by decide) ?_
      refine runk_split 22 (by simp only [exa, beq_self_eq_true, ByteArray.size, Nat.reduceAdd, Nat.reduceLeDiff, Nat.reduceEqDiff, Nat.reduceMul, Int.reduceToNat, reduceIte, Int.reduceLE, Int.reduceNeg, Bool.false_eq_true, hq, hll, hl0, decide_false, wl, r0, r1, hLt, Int.toNat_natCast, eq_self, decide_true, Bool.not_true, and_self]; rfl) ?_
      refine runk_call rfl rfl rfl rfl rfl (by simp) (cvs_cons cv_refl (cvs_cons cv_refl (cvs_cons cv_refl (cvs_cons cv_refl cvs_nil)))) (hval _) ?_
      refine runk_exec (by simp only [exa, beq_self_eq_true, ByteArray.size, Nat.reduceAdd, Nat.reduceLeDiff, Nat.reduceEqDiff, Nat.reduceMul, Int.reduceToNat, reduceIte, Int.reduceLE, Int.reduceNeg, Bool.not_true]; rfl) ?_
      refine W.cond rfl (fun h => absurd h (by simp)) (fun _ => ?_)
      repeat (first | refine W.seq ?_ | refine W.block ?_ | refine W.skip ?_ | refine W.exit ?_ | refine W.region tab_ok 0 (by decide) (exec_run (by simp only [exa, beq_self_eq_true, ByteArray.size, Nat.reduceAdd, Nat.reduceLeDiff, Nat.reduceEqDiff, Nat.reduceMul, Int.reduceToNat, reduceIte, Int.reduceLE, Int.reduceNeg]; rfl)) ?_)
      refine ⟨i + 1, hlt, by omega, ?_⟩
      refine le_mk ?sle ?mle ?swf ?mwf (kept_not hkeep) (by rfl)
      case swf => repeat (first | exact swf_top _ | refine swf_upd ?_ (by simp [A.ids, upd_app, entsT_flat, wrap_succ (show i + 1 < 9223372036854775808 by omega)]))
      case mwf => repeat (first | exact mwf_nil _ | refine mwf_upd ?_ (by simp [A.ids, O.ids, upd_app, entsT_flat, wrap_succ (show i + 1 < 9223372036854775808 by omega)]))
      case mle => repeat (first | exact mle_nil _ | exact mle_refl _ | refine mle_upd ?_ (by first | rfl | (simp only [upd_app, killM_app, O.kill, A.kill, Nat.reduceEqDiff, reduceIte, Option.map_some, Option.map_none, List.map_cons, List.map_nil, entsT_flat, wrap_succ (show i + 1 < 9223372036854775808 by omega)]; done)))
      case sle => repeat (first | exact sle_top _ | exact sle_refl _ | refine sle_upd ?_ (by first | rfl | (simp only [upd_app, killS_app, A.kill, entry_zero, entry_succ, Nat.reduceEqDiff, reduceIte, entsT_flat, wrap_succ (show i + 1 < 9223372036854775808 by omega)]; done)))
     ·have hno : (i : Int) ∉ zN Za := fun h => hre ((hZm i).1 (mem_zN.1 h)).2
      have hq := findT_none hno
      rw [g2 hre] at hpz
      simp only [List.map_nil] at hpz
      repeat (first | refine W.seq ?_ | refine W.block ?_ | refine W.skip ?_ | refine W.exit ?_ | refine W.region tab_ok 0 (by decide) (exec_run (by simp only [exa, beq_self_eq_true, ByteArray.size, Nat.reduceAdd, Nat.reduceLeDiff, Nat.reduceEqDiff, Nat.reduceMul, Int.reduceToNat, reduceIte, Int.reduceLE, Int.reduceNeg]; rfl)) ?_)
      refine W.regionK tab_ok 0 (by decide) ?_
      refine runk_split 4 (by simp only [exa, beq_self_eq_true, ByteArray.size, Nat.reduceAdd, Nat.reduceLeDiff, Nat.reduceEqDiff, Nat.reduceMul, Int.reduceToNat, reduceIte, Int.reduceLE, Int.reduceNeg]; rfl) ?_
      refine runk_call rfl rfl rfl rfl rfl (by simp) (cvs_cons cv_refl (cvs_cons cv_refl (cvs_cons cv_refl (cvs_cons cv_refl cvs_nil)))) (hpz _) ?_
      refine runk_exec (by simp only [exa, beq_self_eq_true, ByteArray.size, Nat.reduceAdd, Nat.reduceLeDiff, Nat.reduceEqDiff, Nat.reduceMul, Int.reduceToNat, reduceIte, Int.reduceLE, Int.reduceNeg]; rfl) ?_
      repeat (first | refine W.seq ?_ | refine W.block ?_ | refine W.skip ?_ | refine W.exit ?_ | refine W.region tab_ok 0 (by decide) (exec_run (by simp only [exa, beq_self_eq_true, ByteArray.size, Nat.reduceAdd, Nat.reduceLeDiff, Nat.reduceEqDiff, Nat.reduceMul, Int.reduceToNat, reduceIte, Int.reduceLE, Int.reduceNeg, hq, Int.reduceEq, eq_self, decide_true, decide_false, Bool.not_true, Bool.not_false]; rfl)) ?_)
      refine W.cond rfl (fun h => absurd h (by simp)) (fun _ => ?_)
      repeat (first | refine W.seq ?_ | refine W.block ?_ | refine W.skip ?_ | refine W.exit ?_ | refine W.region tab_ok 0 (by decide) (exec_run (by simp only [exa, beq_self_eq_true, ByteArray.size, Nat.reduceAdd, Nat.reduceLeDiff, Nat.reduceEqDiff, Nat.reduceMul, Int.reduceToNat, reduceIte, Int.reduceLE, Int.reduceNeg, hq]; rfl)) ?_)
      refine W.cond rfl (fun h => absurd h (by simp)) (fun _ => ?_)
      repeat (first | refine W.seq ?_ | refine W.block ?_ | refine W.skip ?_ | refine W.exit ?_ | refine W.region tab_ok 0 (by decide) (exec_run (by simp only [exa, beq_self_eq_true, ByteArray.size, Nat.reduceAdd, Nat.reduceLeDiff, Nat.reduceEqDiff, Nat.reduceMul, Int.reduceToNat, reduceIte, Int.reduceLE, Int.reduceNeg]; rfl)) ?_)
      refine ⟨i + 1, hlt, by omega, ?_⟩
      refine le_mk ?sle ?mle ?swf ?mwf (kept_not hkeep) (by rfl)
      case swf => repeat (first | exact swf_top _ | refine swf_upd ?_ (by simp [A.ids, upd_app, entsT_flat, wrap_succ (show i + 1 < 9223372036854775808 by omega)]))
      case mwf => repeat (first | exact mwf_nil _ | refine mwf_upd ?_ (by simp [A.ids, O.ids, upd_app, entsT_flat, wrap_succ (show i + 1 < 9223372036854775808 by omega)]))
      case mle => repeat (first | exact mle_nil _ | exact mle_refl _ | refine mle_upd ?_ (by first | rfl | (simp only [upd_app, killM_app, O.kill, A.kill, Nat.reduceEqDiff, reduceIte, Option.map_some, Option.map_none, List.map_cons, List.map_nil, entsT_flat, wrap_succ (show i + 1 < 9223372036854775808 by omega)]; done)))
      case sle => repeat (first | exact sle_top _ | exact sle_refl _ | refine sle_upd ?_ (by first | rfl | (simp only [upd_app, killS_app, A.kill, entry_zero, entry_succ, Nat.reduceEqDiff, reduceIte, entsT_flat, wrap_succ (show i + 1 < 9223372036854775808 by omega)]; done)))
    ·intro hge
     repeat (first | refine W.seq ?_ | refine W.block ?_ | refine W.skip ?_ | refine W.exit ?_ | refine W.region tab_ok 0 (by decide) (exec_run (by simp only [exa, beq_self_eq_true, ByteArray.size, Nat.reduceAdd, Nat.reduceLeDiff, Nat.reduceEqDiff, Nat.reduceMul, Int.reduceToNat, reduceIte, Int.reduceLE, Int.reduceNeg]; rfl)) ?_)
     refine W.ret ⟨.inr rfl, by rfl, ?_⟩
     simp only [Try.f6, resA, resOne, toT, fin, exa, beq_self_eq_true, ByteArray.size, Nat.reduceAdd, Nat.reduceLeDiff, Nat.reduceEqDiff, Nat.reduceMul, Int.reduceToNat, reduceIte, Int.reduceLE, Int.reduceNeg]
end V
end Go.Proofs.Ytmhchhmhpoldhaa
end
section
set_option linter.unusedVariables false
set_option linter.unusedSimpArgs false
namespace Go.Proofs.Ytmhchhmhpoldhaa
open Go.ChangeShapes Go.WideShapes Go.ChangeAt Go.RowKit
open Go.ChangeMaps (open_string shut_string)
open V
set_option maxRecDepth 100000 in
theorem flowFits_lifted (os : Os) (started : os.Started) (H : Type) (enc : TypeId × Value → H) :
  ReturnsInHanded {} Try.checked os 6 .any (Rows.flowFitsSpec.pre6 enc Try.prog Try.f6 Rows.flowFitsRow.domain false) (Rows.flowFitsSpec.post enc Try.prog Try.f6 false true false false) := by
 refine returnsInHanded_of_change_shaped (C := Try.checked) own started (by kernel_rfl) Try.func6
  (ChangeSpec.witness6 (enc := enc) (C := Try.checked) false ⟨#[], #[.int .i64 0, .slice none 0 0, .slice none 0 0], []⟩ 8 (by kernel_rfl) (by kernel_rfl) (by kernel_rfl) (by kernel_rfl)) ?_
 intro W base args ds gs before hval0 hW hcnd hsz0 hsh _
 have hval : ∀ (j : Nat) t v, Try.f6.params[j]? = some t → args[j]? = some v → Value.okWide Try.prog W .any base t v := hval0
 have hW' := hW
 obtain ⟨p, q, hA0, hV, rfl, hfz, hnd⟩ := hW
 have hA : DataW.TrodAll enc Try.prog W 0 (fun _ => true) true Try.f6.params.toList args.toList ds p := hA0
 have hsz : ∀ n ∈ DataW.weightsEach Try.prog (Try.f6.params.toList ++ Rows.flowFitsSpec.plain.varTypes Try.prog) (ds ++ gs), n ≤ reachBytes := fun n hn => of_decide_eq_true (List.all_eq_true.1 hsz0 n hn)
 rw [Try.params6] at hA hval hsz
 clear hsz0
 obtain ⟨v0, vs0, d0, ds0, p0, q0, hargs, rfl, rfl, h0, r0⟩ := trodAll_cons hA
 obtain ⟨v1, vs1, d1, ds1, p1, q1, rfl, rfl, rfl, h1, r1⟩ := trodAll_cons r0
 obtain ⟨v2, vs2, d2, ds2, p2, q2, rfl, rfl, rfl, h2, r2⟩ := trodAll_cons r1
 obtain ⟨rfl, rfl, rfl⟩ := trodAll_nil r2
 obtain rfl : args = #[v0, v1, v2] := by cases args; simp_all
 obtain ⟨rfl, rfl⟩ := trodVars_none hV
 clear hA0 hval0
 simp only [List.append_nil] at hW'
 have k0 := h0
 have lt0 : ∀ x ∈ p0, x.block < W.heap.size := by obtain ⟨m, hm⟩ := k0; exact DataW.trod_lt m _ _ _ hm
 have k1 := h1
 have lt1 : ∀ x ∈ p1, x.block < W.heap.size := by obtain ⟨m, hm⟩ := k1; exact DataW.trod_lt m _ _ _ hm
 have k2 := h2
 have lt2 : ∀ x ∈ p2, x.block < W.heap.size := by obtain ⟨m, hm⟩ := k2; exact DataW.trod_lt m _ _ _ hm
 have fit0 : Fits Try.prog 3 d0 := fun n hn => hsz n (DataW.weights_mem_each (j := 0) rfl rfl n hn)
 have fit1 : Fits Try.prog 22 d1 := fun n hn => hsz n (DataW.weights_mem_each (j := 1) rfl rfl n hn)
 obtain ⟨z0, rfl⟩ := okWide_int Try.underlying3 (hval 0 3 v0 rfl rfl)
 obtain ⟨rn0, h0⟩ := h0
 obtain ⟨ra0, re0, wf0⟩ := read_int h0
 obtain rfl : ra0 = z0 := by simpa [Value.cells] using re0.symm
 have fit2 : Fits Try.prog 23 d2 := fun n hn => hsz n (DataW.weights_mem_each (j := 2) rfl rfl n hn)
 obtain ⟨sa1, sn1, sc1, rfl⟩ := okWide_slice Try.underlying22 (hval 1 22 v1 rfl rfl)
 obtain ⟨rn1, h1⟩ := h1
 obtain ⟨rv1, l1, re1, R1⟩ := read_qs fit1 h1
 obtain rfl : rv1 = _ := by simpa [Value.cells] using re1.symm
 obtain ⟨sa2, sn2, sc2, rfl⟩ := okWide_slice Try.underlying23 (hval 2 23 v2 rfl rfl)
 obtain ⟨rn2, h2⟩ := h2
 obtain ⟨rv2, l2, re2, R2⟩ := read_ints fit2 h2
 obtain rfl : rv2 = _ := by simpa [Value.cells] using re2.symm
 refine (cok_true (vals := [_, _, _]) (lawFits_ok ra0 l1 l2 _) trivial (fun B => ⟨rv_int wf0, rv_qs R1, rv_ints R2, trivial⟩)).mono fun e W' ⟨he, bel⟩ => ?_
 subst he
 exact ⟨_, rfl, _, _, _, [], _, [], hW', trodAll_mk1 (shut_bool Try.underlying4 _), trodAll_cons_mk (Below.trod laidOut (by kernel_rfl) (of_decide_eq_true (by kernel_rfl)) k0 bel lt0) (trodAll_cons_mk (Below.trod laidOut (by kernel_rfl) (of_decide_eq_true (by kernel_rfl)) k1 bel lt1) (trodAll_cons_mk (Below.trod laidOut (by kernel_rfl) (of_decide_eq_true (by kernel_rfl)) k2 bel lt2) trodAll_mk0)), rfl, bel.frame _, fun h => by cases h⟩
theorem flowFits_holds : Rows.FlowFitsSaid :=
 OpenClaim.holds_of_wide 6 Try.f6 rfl rfl rfl rfl rfl rfl rfl ⟨rfl, rfl, rfl, rfl, rfl⟩ rfl rfl rfl rfl rfl (by kernel_rfl) Try.func6 (by kernel_rfl)
  (of_decide_eq_true (by kernel_rfl)) (by unfold Func.isWrapper; first | (rw [if_pos (by decide +kernel)]; kernel_rfl) | (rw [if_neg (by decide +kernel)]; exact ⟨rfl, rfl⟩))
  (fun os started H enc _ => flowFits_lifted os started H enc)
end Go.Proofs.Ytmhchhmhpoldhaa
end
