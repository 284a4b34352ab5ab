/- Joined by my own program, in build order: Nx, Vu, Vw, Rng, Wys. -/
import Derived.Test.YtnmfbaahabcocaaDoorY40
import Derived.Test.YtnmfbaahabcocaaDoorY28
import Derived.Test.YtnmfbaahabcocaaDoorY41
set_option linter.unusedVariables false
set_option linter.unusedSimpArgs false
section
namespace Go.Proofs.YtnmfbaahabcocaaDoor
namespace V
open Go.RowKit C17
set_option maxHeartbeats 4000000 in
theorem irNext_ok (p : Prc) (i : Nat) (hp : p.code.length ≤ 1000000000000000) (hi : i ≤ p.code.length) (m : Mem) : COk Tryd.prog 29 [.agg (cP p), .c (.int .i64 i)] m (.c (.sl ((nx p.code i).map cZ))) := by
 obtain ⟨cls, name, params, regs, code⟩ := p
 simp only at hp hi ⊢
 have hcp : cP ⟨cls, name, params, regs, code⟩ = [.str cls, .str name, .int .i64 params, .int .i64 regs, .sl (code.map cIns)] := rfl
 rw [hcp]
 have n0 : ((i : Int) < 0) = False := eq_false (by omega)
 have i0 : ((0 : Int) ≤ (i : Int)) = True := eq_true (by omega)
 refine (ok_pure tab_ok Tryd.func29 (by kernel_rfl) rfl rfl (by rfl) (by rfl) (by rfl) (fun R hkeep => ?_) m)
 (repeat (first | refine W.seq ?_ | refine W.block ?_ | refine W.skip ?_ | refine W.exit ?_))
 refine W.region tab_ok 0 (by decide) (exec_run (by simp only [exa, beq_self_eq_true, ByteArray.size, Nat.reduceAdd, Nat.reduceLeDiff, Nat.reduceEqDiff, Nat.reduceMul, Int.reduceToNat, reduceIte, Int.reduceLE, Int.reduceNeg]; rfl)) ?_
 by_cases hlt : i < code.length
 ·have g0 : ((code.length : Int) ≤ (i : Int)) = False := eq_false (by omega)
  have l0 := eq_true hlt
  obtain ⟨x, hx⟩ : ∃ x, code[i]? = some x := ⟨_, List.getElem?_eq_getElem hlt⟩
  have hnx : nx code i = goesI i x := by unfold nx; rw [hx]
  rw [hnx]
  obtain ⟨k, d, a, b, c, t, e, nm, s, ar⟩ := x
  have hcx : cIns ⟨k, d, a, b, c, t, e, nm, s, ar⟩ = [.int .i64 k, .int .i64 d, .int .i64 a, .int .i64 b, .int .i64 c, .int .i64 t, .int .i64 e, .int .i64 nm, .str s, .sl (ar.map fun z => [C.int .i64 z])] := rfl
  repeat (first | refine W.seq ?_ | refine W.block ?_ | refine W.skip ?_ | refine W.exit ?_ | refine W.region tab_ok 0 (by decide) (exec_run (by simp only [exa, beq_self_eq_true, ByteArray.size, Nat.reduceAdd, Nat.reduceLeDiff, Nat.reduceEqDiff, Nat.reduceMul, Int.reduceToNat, reduceIte, Int.reduceLE, Int.reduceNeg, n0, g0, decide_false]; rfl)) ?_)
  refine W.cond rfl (fun h => absurd h (by simp)) (fun _ => ?_)
  (repeat (first | refine W.seq ?_ | refine W.block ?_ | refine W.skip ?_ | refine W.exit ?_))
  refine W.region tab_ok 0 (by decide) (exec_run (by simp only [exa, beq_self_eq_true, ByteArray.size, Nat.reduceAdd, Nat.reduceLeDiff, Nat.reduceEqDiff, Nat.reduceMul, Int.reduceToNat, reduceIte, Int.reduceLE, Int.reduceNeg, at_map hx, hcx, i0, l0, and_self, List.length_map, Int.toNat_natCast]; rfl)) ?_
  have key : (k = 18 ∨ k = 19) ∨ (¬ (k = 18 ∨ k = 19) ∧ (k = 17 ∨ (k = 16 ∧ t = e))) ∨ (k = 16 ∧ t ≠ e) ∨ (k ≠ 18 ∧ k ≠ 19 ∧ k ≠ 17 ∧ k ≠ 16) := by omega
  rcases key with hk | ⟨hk, hk2⟩ | ⟨rfl, hk2⟩ | ⟨h18, h19, h17, h16⟩
  ·have hg : goesI i ⟨k, d, a, b, c, t, e, nm, s, ar⟩ = [] := by unfold goesI; rw [if_pos hk]
   rw [hg]
   rcases hk with rfl | rfl
   ·skip
    (repeat (first | refine W.seq ?_ | refine W.block ?_ | refine W.skip ?_ | refine W.exit ?_))
    refine W.region tab_ok 0 (by decide) (exec_run (by simp only [exa, beq_self_eq_true, ByteArray.size, Nat.reduceAdd, Nat.reduceLeDiff, Nat.reduceEqDiff, Nat.reduceMul, Int.reduceToNat, reduceIte, Int.reduceLE, Int.reduceNeg, decide_true, decide_false, Int.reduceEq, eq_self]; rfl)) ?_
    refine W.cond rfl (fun _ => ?_) (fun h => absurd h (by simp))
    repeat (first | refine W.seq ?_ | refine W.block ?_ | refine W.skip ?_ | refine W.exit ?_ | refine W.region tab_ok 0 (by decide) (exec_run (by simp only [exa, beq_self_eq_true, ByteArray.size, Nat.reduceAdd, Nat.reduceLeDiff, Nat.reduceEqDiff, Nat.reduceMul, Int.reduceToNat, reduceIte, Int.reduceLE, Int.reduceNeg]; rfl)) ?_)
    refine W.ret ⟨.inr rfl, by rfl, ?_⟩
    simp only [Tryd.f29, resA, resOne, toT, fin, exa, beq_self_eq_true, ByteArray.size, Nat.reduceAdd, Nat.reduceLeDiff, Nat.reduceEqDiff, Nat.reduceMul, Int.reduceToNat, reduceIte, Int.reduceLE, Int.reduceNeg]
   ·skip
    (repeat (first | refine W.seq ?_ | refine W.block ?_ | refine W.skip ?_ | refine W.exit ?_))
    refine W.region tab_ok 0 (by decide) (exec_run (by simp only [exa, beq_self_eq_true, ByteArray.size, Nat.reduceAdd, Nat.reduceLeDiff, Nat.reduceEqDiff, Nat.reduceMul, Int.reduceToNat, reduceIte, Int.reduceLE, Int.reduceNeg, decide_true, decide_false, Int.reduceEq, eq_self]; rfl)) ?_
    refine W.cond rfl (fun _ => ?_) (fun h => absurd h (by simp))
    repeat (first | refine W.seq ?_ | refine W.block ?_ | refine W.skip ?_ | refine W.exit ?_ | refine W.region tab_ok 0 (by decide) (exec_run (by simp only [exa, beq_self_eq_true, ByteArray.size, Nat.reduceAdd, Nat.reduceLeDiff, Nat.reduceEqDiff, Nat.reduceMul, Int.reduceToNat, reduceIte, Int.reduceLE, Int.reduceNeg]; rfl)) ?_)
    refine W.ret ⟨.inr rfl, by rfl, ?_⟩
    simp only [Tryd.f29, resA, resOne, toT, fin, exa, beq_self_eq_true, ByteArray.size, Nat.reduceAdd, Nat.reduceLeDiff, Nat.reduceEqDiff, Nat.reduceMul, Int.reduceToNat, reduceIte, Int.reduceLE, Int.reduceNeg]
  ·have hg : goesI i ⟨k, d, a, b, c, t, e, nm, s, ar⟩ = [t] := by unfold goesI; rw [if_neg hk, if_pos hk2]
   rw [hg]
   have h18 : (k = 18) = False := eq_false fun h => hk (.inl h)
   have h19 : (k = 19) = False := eq_false fun h => hk (.inr h)
   rcases hk2 with rfl | ⟨rfl, rfl⟩
   ·skip
    (repeat (first | refine W.seq ?_ | refine W.block ?_ | refine W.skip ?_ | refine W.exit ?_))
    refine W.region tab_ok 0 (by decide) (exec_run (by simp only [exa, beq_self_eq_true, ByteArray.size, Nat.reduceAdd, Nat.reduceLeDiff, Nat.reduceEqDiff, Nat.reduceMul, Int.reduceToNat, reduceIte, Int.reduceLE, Int.reduceNeg, decide_true, decide_false, Int.reduceEq, eq_self]; rfl)) ?_
    refine W.cond rfl (fun h => absurd h (by simp)) (fun _ => ?_)
    (repeat (first | refine W.seq ?_ | refine W.block ?_ | refine W.skip ?_ | refine W.exit ?_))
    refine W.region tab_ok 0 (by decide) (exec_run (by simp only [exa, beq_self_eq_true, ByteArray.size, Nat.reduceAdd, Nat.reduceLeDiff, Nat.reduceEqDiff, Nat.reduceMul, Int.reduceToNat, reduceIte, Int.reduceLE, Int.reduceNeg, decide_true, decide_false, Int.reduceEq, eq_self]; rfl)) ?_
    refine W.cond rfl (fun _ => ?_) (fun h => absurd h (by simp))
    repeat (first | refine W.seq ?_ | refine W.block ?_ | refine W.skip ?_ | refine W.exit ?_ | refine W.region tab_ok 0 (by decide) (exec_run (by simp only [exa, beq_self_eq_true, ByteArray.size, Nat.reduceAdd, Nat.reduceLeDiff, Nat.reduceEqDiff, Nat.reduceMul, Int.reduceToNat, reduceIte, Int.reduceLE, Int.reduceNeg]; rfl)) ?_)
    refine W.ret ⟨.inr rfl, by rfl, ?_⟩
    simp only [Tryd.f29, resA, resOne, toT, fin, exa, beq_self_eq_true, ByteArray.size, Nat.reduceAdd, Nat.reduceLeDiff, Nat.reduceEqDiff, Nat.reduceMul, Int.reduceToNat, reduceIte, Int.reduceLE, Int.reduceNeg, cZ, List.map_cons, List.map_nil]
   ·skip
    (repeat (first | refine W.seq ?_ | refine W.block ?_ | refine W.skip ?_ | refine W.exit ?_))
    refine W.region tab_ok 0 (by decide) (exec_run (by simp only [exa, beq_self_eq_true, ByteArray.size, Nat.reduceAdd, Nat.reduceLeDiff, Nat.reduceEqDiff, Nat.reduceMul, Int.reduceToNat, reduceIte, Int.reduceLE, Int.reduceNeg, decide_true, decide_false, Int.reduceEq, eq_self]; rfl)) ?_
    refine W.cond rfl (fun h => absurd h (by simp)) (fun _ => ?_)
    (repeat (first | refine W.seq ?_ | refine W.block ?_ | refine W.skip ?_ | refine W.exit ?_))
    refine W.region tab_ok 0 (by decide) (exec_run (by simp only [exa, beq_self_eq_true, ByteArray.size, Nat.reduceAdd, Nat.reduceLeDiff, Nat.reduceEqDiff, Nat.reduceMul, Int.reduceToNat, reduceIte, Int.reduceLE, Int.reduceNeg, decide_true, decide_false, Int.reduceEq, eq_self]; rfl)) ?_
    refine W.cond rfl (fun _ => ?_) (fun h => absurd h (by simp))
    repeat (first | refine W.seq ?_ | refine W.block ?_ | refine W.skip ?_ | refine W.exit ?_ | refine W.region tab_ok 0 (by decide) (exec_run (by simp only [exa, beq_self_eq_true, ByteArray.size, Nat.reduceAdd, Nat.reduceLeDiff, Nat.reduceEqDiff, Nat.reduceMul, Int.reduceToNat, reduceIte, Int.reduceLE, Int.reduceNeg]; rfl)) ?_)
    refine W.ret ⟨.inr rfl, by rfl, ?_⟩
    simp only [Tryd.f29, resA, resOne, toT, fin, exa, beq_self_eq_true, ByteArray.size, Nat.reduceAdd, Nat.reduceLeDiff, Nat.reduceEqDiff, Nat.reduceMul, Int.reduceToNat, reduceIte, Int.reduceLE, Int.reduceNeg, cZ, List.map_cons, List.map_nil]
  ·have hg : goesI i ⟨16, d, a, b, c, t, e, nm, s, ar⟩ = [t, e] := by unfold goesI; rw [if_neg (by simp), if_neg (by simp [hk2]), if_pos rfl]
   rw [hg]
   have ht : (t = e) = False := eq_false hk2
   (repeat (first | refine W.seq ?_ | refine W.block ?_ | refine W.skip ?_ | refine W.exit ?_))
   refine W.region tab_ok 0 (by decide) (exec_run (by simp only [exa, beq_self_eq_true, ByteArray.size, Nat.reduceAdd, Nat.reduceLeDiff, Nat.reduceEqDiff, Nat.reduceMul, Int.reduceToNat, reduceIte, Int.reduceLE, Int.reduceNeg, decide_true, decide_false, Int.reduceEq, eq_self, ht]; rfl)) ?_
   refine W.cond rfl (fun h => absurd h (by simp)) (fun _ => ?_)
   (repeat (first | refine W.seq ?_ | refine W.block ?_ | refine W.skip ?_ | refine W.exit ?_))
   refine W.region tab_ok 0 (by decide) (exec_run (by simp only [exa, beq_self_eq_true, ByteArray.size, Nat.reduceAdd, Nat.reduceLeDiff, Nat.reduceEqDiff, Nat.reduceMul, Int.reduceToNat, reduceIte, Int.reduceLE, Int.reduceNeg, decide_true, decide_false, Int.reduceEq, eq_self, ht]; rfl)) ?_
   refine W.cond rfl (fun h => absurd h (by simp)) (fun _ => ?_)
   (repeat (first | refine W.seq ?_ | refine W.block ?_ | refine W.skip ?_ | refine W.exit ?_))
   refine W.region tab_ok 0 (by decide) (exec_run (by simp only [exa, beq_self_eq_true, ByteArray.size, Nat.reduceAdd, Nat.reduceLeDiff, Nat.reduceEqDiff, Nat.reduceMul, Int.reduceToNat, reduceIte, Int.reduceLE, Int.reduceNeg, decide_true, decide_false, Int.reduceEq, eq_self, ht]; rfl)) ?_
   refine W.cond rfl (fun _ => ?_) (fun h => absurd h (by simp))
   repeat (first | refine W.seq ?_ | refine W.block ?_ | refine W.skip ?_ | refine W.exit ?_ | refine W.region tab_ok 0 (by decide) (exec_run (by simp only [exa, beq_self_eq_true, ByteArray.size, Nat.reduceAdd, Nat.reduceLeDiff, Nat.reduceEqDiff, Nat.reduceMul, Int.reduceToNat, reduceIte, Int.reduceLE, Int.reduceNeg]; rfl)) ?_)
   refine W.ret ⟨.inr rfl, by rfl, ?_⟩
   simp only [Tryd.f29, resA, resOne, toT, fin, exa, beq_self_eq_true, ByteArray.size, Nat.reduceAdd, Nat.reduceLeDiff, Nat.reduceEqDiff, Nat.reduceMul, Int.reduceToNat, reduceIte, Int.reduceLE, Int.reduceNeg, cZ, List.map_cons, List.map_nil]
  ·have hg : goesI i ⟨k, d, a, b, c, t, e, nm, s, ar⟩ = [((i + 1 : Nat) : Int)] := by unfold goesI; rw [if_neg (by simp [h18, h19]), if_neg (by simp [h16, h17]), if_neg h16]
   rw [hg]
   have e18 := eq_false h18
   have e19 := eq_false h19
   have e17 := eq_false h17
   have e16 := eq_false h16
   (repeat (first | refine W.seq ?_ | refine W.block ?_ | refine W.skip ?_ | refine W.exit ?_))
   refine W.region tab_ok 0 (by decide) (exec_run (by simp only [exa, beq_self_eq_true, ByteArray.size, Nat.reduceAdd, Nat.reduceLeDiff, Nat.reduceEqDiff, Nat.reduceMul, Int.reduceToNat, reduceIte, Int.reduceLE, Int.reduceNeg, decide_true, decide_false, e18, e19]; rfl)) ?_
   refine W.cond rfl (fun h => absurd h (by simp)) (fun _ => ?_)
   (repeat (first | refine W.seq ?_ | refine W.block ?_ | refine W.skip ?_ | refine W.exit ?_))
   refine W.region tab_ok 0 (by decide) (exec_run (by simp only [exa, beq_self_eq_true, ByteArray.size, Nat.reduceAdd, Nat.reduceLeDiff, Nat.reduceEqDiff, Nat.reduceMul, Int.reduceToNat, reduceIte, Int.reduceLE, Int.reduceNeg, decide_true, decide_false, e17, e16]; rfl)) ?_
   refine W.cond rfl (fun h => absurd h (by simp)) (fun _ => ?_)
   (repeat (first | refine W.seq ?_ | refine W.block ?_ | refine W.skip ?_ | refine W.exit ?_))
   refine W.region tab_ok 0 (by decide) (exec_run (by simp only [exa, beq_self_eq_true, ByteArray.size, Nat.reduceAdd, Nat.reduceLeDiff, Nat.reduceEqDiff, Nat.reduceMul, Int.reduceToNat, reduceIte, Int.reduceLE, Int.reduceNeg, decide_true, decide_false, e16]; rfl)) ?_
   refine W.cond rfl (fun h => absurd h (by simp)) (fun _ => ?_)
   repeat (first | refine W.seq ?_ | refine W.block ?_ | refine W.skip ?_ | refine W.exit ?_ | refine W.region tab_ok 0 (by decide) (exec_run (by simp only [exa, beq_self_eq_true, ByteArray.size, Nat.reduceAdd, Nat.reduceLeDiff, Nat.reduceEqDiff, Nat.reduceMul, Int.reduceToNat, reduceIte, Int.reduceLE, Int.reduceNeg, wrap_succ (show i + 1 < 9223372036854775808 by omega)]; rfl)) ?_)
   refine W.ret ⟨.inr rfl, by rfl, ?_⟩
   simp only [Tryd.f29, resA, resOne, toT, fin, exa, beq_self_eq_true, ByteArray.size, Nat.reduceAdd, Nat.reduceLeDiff, Nat.reduceEqDiff, Nat.reduceMul, Int.reduceToNat, reduceIte, Int.reduceLE, Int.reduceNeg, cZ, List.map_cons, List.map_nil]
 ·have g0 : ((code.length : Int) ≤ (i : Int)) = True := eq_true (by omega)
  have hnx : nx code i = [] := by unfold nx; rw [List.getElem?_eq_none (by omega)]
  rw [hnx]
  repeat (first | refine W.seq ?_ | refine W.block ?_ | refine W.skip ?_ | refine W.exit ?_ | refine W.region tab_ok 0 (by decide) (exec_run (by simp only [exa, beq_self_eq_true, ByteArray.size, Nat.reduceAdd, Nat.reduceLeDiff, Nat.reduceEqDiff, Nat.reduceMul, Int.reduceToNat, reduceIte, Int.reduceLE, Int.reduceNeg, n0, g0, decide_false, decide_true, List.length_map]; rfl)) ?_)
  refine W.cond rfl (fun _ => ?_) (fun h => absurd h (by simp))
  repeat (first | refine W.seq ?_ | refine W.block ?_ | refine W.skip ?_ | refine W.exit ?_ | refine W.region tab_ok 0 (by decide) (exec_run (by simp only [exa, beq_self_eq_true, ByteArray.size, Nat.reduceAdd, Nat.reduceLeDiff, Nat.reduceEqDiff, Nat.reduceMul, Int.reduceToNat, reduceIte, Int.reduceLE, Int.reduceNeg]; rfl)) ?_)
  refine W.ret ⟨.inr rfl, by rfl, ?_⟩
  simp only [Tryd.f29, resA, resOne, toT, fin, exa, beq_self_eq_true, ByteArray.size, Nat.reduceAdd, Nat.reduceLeDiff, Nat.reduceEqDiff, Nat.reduceMul, Int.reduceToNat, reduceIte, Int.reduceLE, Int.reduceNeg]
set_option maxHeartbeats 4000000 in
theorem refNext_ok (p : Prc) (i : Nat) (hp : p.code.length ≤ 1000000000000000) (hi : i ≤ p.code.length) (m : Mem) : COk Tryd.prog 26 [.agg (cP p), .c (.int .i64 i)] m (.c (.sl ((nx p.code i).map cZ))) := by
 obtain ⟨cls, name, params, regs, code⟩ := p
 simp only at hp hi ⊢
 have hcp : cP ⟨cls, name, params, regs, code⟩ = [.str cls, .str name, .int .i64 params, .int .i64 regs, .sl (code.map cIns)] := rfl
 rw [hcp]
 have n0 : ((i : Int) < 0) = False := eq_false (by omega)
 have i0 : ((0 : Int) ≤ (i : Int)) = True := eq_true (by omega)
 refine (ok_pure tab_ok Tryd.func26 (by kernel_rfl) rfl rfl (by rfl) (by rfl) (by rfl) (fun R hkeep => ?_) m)
 (repeat (first | refine W.seq ?_ | refine W.block ?_ | refine W.skip ?_ | refine W.exit ?_))
 refine W.region tab_ok 0 (by decide) (exec_run (by simp only [exa, beq_self_eq_true, ByteArray.size, Nat.reduceAdd, Nat.reduceLeDiff, Nat.reduceEqDiff, Nat.reduceMul, Int.reduceToNat, reduceIte, Int.reduceLE, Int.reduceNeg]; rfl)) ?_
 by_cases hlt : i < code.length
 ·have g0 : ((code.length : Int) ≤ (i : Int)) = False := eq_false (by omega)
  have l0 := eq_true hlt
  obtain ⟨x, hx⟩ : ∃ x, code[i]? = some x := ⟨_, List.getElem?_eq_getElem hlt⟩
  have hnx : nx code i = goesI i x := by unfold nx; rw [hx]
  rw [hnx]
  obtain ⟨k, d, a, b, c, t, e, nm, s, ar⟩ := x
  have hcx : cIns ⟨k, d, a, b, c, t, e, nm, s, ar⟩ = [.int .i64 k, .int .i64 d, .int .i64 a, .int .i64 b, .int .i64 c, .int .i64 t, .int .i64 e, .int .i64 nm, .str s, .sl (ar.map fun z => [C.int .i64 z])] := rfl
  repeat (first | refine W.seq ?_ | refine W.block ?_ | refine W.skip ?_ | refine W.exit ?_ | refine W.region tab_ok 0 (by decide) (exec_run (by simp only [exa, beq_self_eq_true, ByteArray.size, Nat.reduceAdd, Nat.reduceLeDiff, Nat.reduceEqDiff, Nat.reduceMul, Int.reduceToNat, reduceIte, Int.reduceLE, Int.reduceNeg, n0, g0, decide_false]; rfl)) ?_)
  refine W.cond rfl (fun h => absurd h (by simp)) (fun _ => ?_)
  (repeat (first | refine W.seq ?_ | refine W.block ?_ | refine W.skip ?_ | refine W.exit ?_))
  refine W.region tab_ok 0 (by decide) (exec_run (by simp only [exa, beq_self_eq_true, ByteArray.size, Nat.reduceAdd, Nat.reduceLeDiff, Nat.reduceEqDiff, Nat.reduceMul, Int.reduceToNat, reduceIte, Int.reduceLE, Int.reduceNeg, at_map hx, hcx, i0, l0, and_self, List.length_map, Int.toNat_natCast]; rfl)) ?_
  (repeat (first | refine W.seq ?_ | refine W.block ?_ | refine W.skip ?_ | refine W.exit ?_))
  refine W.region tab_ok 0 (by decide) (exec_run (by simp only [exa, beq_self_eq_true, ByteArray.size, Nat.reduceAdd, Nat.reduceLeDiff, Nat.reduceEqDiff, Nat.reduceMul, Int.reduceToNat, reduceIte, Int.reduceLE, Int.reduceNeg]; rfl)) ?_
  have key : (k = 18 ∨ k = 19) ∨ k = 17 ∨ k = 16 ∨ (k ≠ 18 ∧ k ≠ 19 ∧ k ≠ 17 ∧ k ≠ 16) := by omega
  rcases key with hk | rfl | rfl | ⟨h18, h19, h17, h16⟩
  ·have hg : goesI i ⟨k, d, a, b, c, t, e, nm, s, ar⟩ = [] := by unfold goesI; rw [if_pos hk]
   rw [hg]
   rcases hk with rfl | rfl
   ·skip
    (repeat (first | refine W.seq ?_ | refine W.block ?_ | refine W.skip ?_ | refine W.exit ?_))
    refine W.region tab_ok 0 (by decide) (exec_run (by simp only [exa, beq_self_eq_true, ByteArray.size, Nat.reduceAdd, Nat.reduceLeDiff, Nat.reduceEqDiff, Nat.reduceMul, Int.reduceToNat, reduceIte, Int.reduceLE, Int.reduceNeg, decide_true, decide_false, Int.reduceEq, eq_self]; rfl)) ?_
    refine W.cond rfl (fun h => absurd h (by simp)) (fun _ => ?_)
    repeat (first | refine W.seq ?_ | refine W.block ?_ | refine W.skip ?_ | refine W.exit ?_ | refine W.region tab_ok 0 (by decide) (exec_run (by simp only [exa, beq_self_eq_true, ByteArray.size, Nat.reduceAdd, Nat.reduceLeDiff, Nat.reduceEqDiff, Nat.reduceMul, Int.reduceToNat, reduceIte, Int.reduceLE, Int.reduceNeg, decide_true, decide_false, Int.reduceEq, eq_self]; rfl)) ?_)
    refine W.cond rfl (fun h => absurd h (by simp)) (fun _ => ?_)
    repeat (first | refine W.seq ?_ | refine W.block ?_ | refine W.skip ?_ | refine W.exit ?_ | refine W.region tab_ok 0 (by decide) (exec_run (by simp only [exa, beq_self_eq_true, ByteArray.size, Nat.reduceAdd, Nat.reduceLeDiff, Nat.reduceEqDiff, Nat.reduceMul, Int.reduceToNat, reduceIte, Int.reduceLE, Int.reduceNeg, decide_true, decide_false, Int.reduceEq, eq_self]; rfl)) ?_)
    refine W.cond rfl (fun _ => ?_) (fun h => absurd h (by simp))
    repeat (first | refine W.seq ?_ | refine W.block ?_ | refine W.skip ?_ | refine W.exit ?_ | refine W.region tab_ok 0 (by decide) (exec_run (by simp only [exa, beq_self_eq_true, ByteArray.size, Nat.reduceAdd, Nat.reduceLeDiff, Nat.reduceEqDiff, Nat.reduceMul, Int.reduceToNat, reduceIte, Int.reduceLE, Int.reduceNeg]; rfl)) ?_)
    refine W.cond rfl (fun _ => ?_) (fun h => absurd h (by simp))
    repeat (first | refine W.seq ?_ | refine W.block ?_ | refine W.skip ?_ | refine W.exit ?_ | refine W.region tab_ok 0 (by decide) (exec_run (by simp only [exa, beq_self_eq_true, ByteArray.size, Nat.reduceAdd, Nat.reduceLeDiff, Nat.reduceEqDiff, Nat.reduceMul, Int.reduceToNat, reduceIte, Int.reduceLE, Int.reduceNeg]; rfl)) ?_)
    refine W.ret ⟨.inr rfl, by rfl, ?_⟩
    simp only [Tryd.f26, resA, resOne, toT, fin, exa, beq_self_eq_true, ByteArray.size, Nat.reduceAdd, Nat.reduceLeDiff, Nat.reduceEqDiff, Nat.reduceMul, Int.reduceToNat, reduceIte, Int.reduceLE, Int.reduceNeg]
   ·skip
    (repeat (first | refine W.seq ?_ | refine W.block ?_ | refine W.skip ?_ | refine W.exit ?_))
    refine W.region tab_ok 0 (by decide) (exec_run (by simp only [exa, beq_self_eq_true, ByteArray.size, Nat.reduceAdd, Nat.reduceLeDiff, Nat.reduceEqDiff, Nat.reduceMul, Int.reduceToNat, reduceIte, Int.reduceLE, Int.reduceNeg, decide_true, decide_false, Int.reduceEq, eq_self]; rfl)) ?_
    refine W.cond rfl (fun h => absurd h (by simp)) (fun _ => ?_)
    repeat (first | refine W.seq ?_ | refine W.block ?_ | refine W.skip ?_ | refine W.exit ?_ | refine W.region tab_ok 0 (by decide) (exec_run (by simp only [exa, beq_self_eq_true, ByteArray.size, Nat.reduceAdd, Nat.reduceLeDiff, Nat.reduceEqDiff, Nat.reduceMul, Int.reduceToNat, reduceIte, Int.reduceLE, Int.reduceNeg, decide_true, decide_false, Int.reduceEq, eq_self]; rfl)) ?_)
    refine W.cond rfl (fun h => absurd h (by simp)) (fun _ => ?_)
    repeat (first | refine W.seq ?_ | refine W.block ?_ | refine W.skip ?_ | refine W.exit ?_ | refine W.region tab_ok 0 (by decide) (exec_run (by simp only [exa, beq_self_eq_true, ByteArray.size, Nat.reduceAdd, Nat.reduceLeDiff, Nat.reduceEqDiff, Nat.reduceMul, Int.reduceToNat, reduceIte, Int.reduceLE, Int.reduceNeg, decide_true, decide_false, Int.reduceEq, eq_self]; rfl)) ?_)
    refine W.cond rfl (fun h => absurd h (by simp)) (fun _ => ?_)
    repeat (first | refine W.seq ?_ | refine W.block ?_ | refine W.skip ?_ | refine W.exit ?_ | refine W.region tab_ok 0 (by decide) (exec_run (by simp only [exa, beq_self_eq_true, ByteArray.size, Nat.reduceAdd, Nat.reduceLeDiff, Nat.reduceEqDiff, Nat.reduceMul, Int.reduceToNat, reduceIte, Int.reduceLE, Int.reduceNeg, decide_true, decide_false, Int.reduceEq, eq_self]; rfl)) ?_)
    refine W.cond rfl (fun _ => ?_) (fun h => absurd h (by simp))
    repeat (first | refine W.seq ?_ | refine W.block ?_ | refine W.skip ?_ | refine W.exit ?_ | refine W.region tab_ok 0 (by decide) (exec_run (by simp only [exa, beq_self_eq_true, ByteArray.size, Nat.reduceAdd, Nat.reduceLeDiff, Nat.reduceEqDiff, Nat.reduceMul, Int.reduceToNat, reduceIte, Int.reduceLE, Int.reduceNeg]; rfl)) ?_)
    refine W.ret ⟨.inr rfl, by rfl, ?_⟩
    simp only [Tryd.f26, resA, resOne, toT, fin, exa, beq_self_eq_true, ByteArray.size, Nat.reduceAdd, Nat.reduceLeDiff, Nat.reduceEqDiff, Nat.reduceMul, Int.reduceToNat, reduceIte, Int.reduceLE, Int.reduceNeg]
  ·have hg : goesI i ⟨17, d, a, b, c, t, e, nm, s, ar⟩ = [t] := by unfold goesI; rw [if_neg (by simp), if_pos (.inl rfl)]
   rw [hg]
   (repeat (first | refine W.seq ?_ | refine W.block ?_ | refine W.skip ?_ | refine W.exit ?_))
   refine W.region tab_ok 0 (by decide) (exec_run (by simp only [exa, beq_self_eq_true, ByteArray.size, Nat.reduceAdd, Nat.reduceLeDiff, Nat.reduceEqDiff, Nat.reduceMul, Int.reduceToNat, reduceIte, Int.reduceLE, Int.reduceNeg, decide_true, decide_false, Int.reduceEq, eq_self]; rfl)) ?_
   refine W.cond rfl (fun h => absurd h (by simp)) (fun _ => ?_)
   repeat (first | refine W.seq ?_ | refine W.block ?_ | refine W.skip ?_ | refine W.exit ?_ | refine W.region tab_ok 0 (by decide) (exec_run (by simp only [exa, beq_self_eq_true, ByteArray.size, Nat.reduceAdd, Nat.reduceLeDiff, Nat.reduceEqDiff, Nat.reduceMul, Int.reduceToNat, reduceIte, Int.reduceLE, Int.reduceNeg, decide_true, decide_false, Int.reduceEq, eq_self]; rfl)) ?_)
   refine W.cond rfl (fun _ => ?_) (fun h => absurd h (by simp))
   repeat (first | refine W.seq ?_ | refine W.block ?_ | refine W.skip ?_ | refine W.exit ?_ | refine W.region tab_ok 0 (by decide) (exec_run (by simp only [exa, beq_self_eq_true, ByteArray.size, Nat.reduceAdd, Nat.reduceLeDiff, Nat.reduceEqDiff, Nat.reduceMul, Int.reduceToNat, reduceIte, Int.reduceLE, Int.reduceNeg]; rfl)) ?_)
   refine W.ret ⟨.inr rfl, by rfl, ?_⟩
   simp only [Tryd.f26, resA, resOne, toT, fin, exa, beq_self_eq_true, ByteArray.size, Nat.reduceAdd, Nat.reduceLeDiff, Nat.reduceEqDiff, Nat.reduceMul, Int.reduceToNat, reduceIte, Int.reduceLE, Int.reduceNeg, cZ, List.map_cons, List.map_nil]
  ·skip
   (repeat (first | refine W.seq ?_ | refine W.block ?_ | refine W.skip ?_ | refine W.exit ?_))
   refine W.region tab_ok 0 (by decide) (exec_run (by simp only [exa, beq_self_eq_true, ByteArray.size, Nat.reduceAdd, Nat.reduceLeDiff, Nat.reduceEqDiff, Nat.reduceMul, Int.reduceToNat, reduceIte, Int.reduceLE, Int.reduceNeg, decide_true, decide_false, Int.reduceEq, eq_self]; rfl)) ?_
   refine W.cond rfl (fun _ => ?_) (fun h => absurd h (by simp))
   by_cases ht : t = e
   ·have hg : goesI i ⟨16, d, a, b, c, t, e, nm, s, ar⟩ = [t] := by unfold goesI; rw [if_neg (by simp), if_pos (.inr ⟨rfl, ht⟩)]
    rw [hg]
    have ht := eq_true ht
    repeat (first | refine W.seq ?_ | refine W.block ?_ | refine W.skip ?_ | refine W.exit ?_ | refine W.region tab_ok 0 (by decide) (exec_run (by simp only [exa, beq_self_eq_true, ByteArray.size, Nat.reduceAdd, Nat.reduceLeDiff, Nat.reduceEqDiff, Nat.reduceMul, Int.reduceToNat, reduceIte, Int.reduceLE, Int.reduceNeg, ht, decide_true]; rfl)) ?_)
    refine W.cond rfl (fun _ => ?_) (fun h => absurd h (by simp))
    repeat (first | refine W.seq ?_ | refine W.block ?_ | refine W.skip ?_ | refine W.exit ?_ | refine W.region tab_ok 0 (by decide) (exec_run (by simp only [exa, beq_self_eq_true, ByteArray.size, Nat.reduceAdd, Nat.reduceLeDiff, Nat.reduceEqDiff, Nat.reduceMul, Int.reduceToNat, reduceIte, Int.reduceLE, Int.reduceNeg]; rfl)) ?_)
    refine W.ret ⟨.inr rfl, by rfl, ?_⟩
    simp only [Tryd.f26, resA, resOne, toT, fin, exa, beq_self_eq_true, ByteArray.size, Nat.reduceAdd, Nat.reduceLeDiff, Nat.reduceEqDiff, Nat.reduceMul, Int.reduceToNat, reduceIte, Int.reduceLE, Int.reduceNeg, cZ, List.map_cons, List.map_nil]
   ·have hg : goesI i ⟨16, d, a, b, c, t, e, nm, s, ar⟩ = [t, e] := by unfold goesI; rw [if_neg (by simp), if_neg (by simp [ht]), if_pos rfl]
    rw [hg]
    have ht := eq_false ht
    repeat (first | refine W.seq ?_ | refine W.block ?_ | refine W.skip ?_ | refine W.exit ?_ | refine W.region tab_ok 0 (by decide) (exec_run (by simp only [exa, beq_self_eq_true, ByteArray.size, Nat.reduceAdd, Nat.reduceLeDiff, Nat.reduceEqDiff, Nat.reduceMul, Int.reduceToNat, reduceIte, Int.reduceLE, Int.reduceNeg, ht, decide_false]; rfl)) ?_)
    refine W.cond rfl (fun h => absurd h (by simp)) (fun _ => ?_)
    repeat (first | refine W.seq ?_ | refine W.block ?_ | refine W.skip ?_ | refine W.exit ?_ | refine W.region tab_ok 0 (by decide) (exec_run (by simp only [exa, beq_self_eq_true, ByteArray.size, Nat.reduceAdd, Nat.reduceLeDiff, Nat.reduceEqDiff, Nat.reduceMul, Int.reduceToNat, reduceIte, Int.reduceLE, Int.reduceNeg]; rfl)) ?_)
    refine W.ret ⟨.inr rfl, by rfl, ?_⟩
    simp only [Tryd.f26, resA, resOne, toT, fin, exa, beq_self_eq_true, ByteArray.size, Nat.reduceAdd, Nat.reduceLeDiff, Nat.reduceEqDiff, Nat.reduceMul, Int.reduceToNat, reduceIte, Int.reduceLE, Int.reduceNeg, cZ, List.map_cons, List.map_nil]
  ·have hg : goesI i ⟨k, d, a, b, c, t, e, nm, s, ar⟩ = [((i + 1 : Nat) : Int)] := by unfold goesI; rw [if_neg (by simp [h18, h19]), if_neg (by simp [h16, h17]), if_neg h16]
   rw [hg]
   have e18 := eq_false h18
   have e19 := eq_false h19
   have e17 := eq_false h17
   have e16 := eq_false h16
   (repeat (first | refine W.seq ?_ | refine W.block ?_ | refine W.skip ?_ | refine W.exit ?_))
   refine W.region tab_ok 0 (by decide) (exec_run (by simp only [exa, beq_self_eq_true, ByteArray.size, Nat.reduceAdd, Nat.reduceLeDiff, Nat.reduceEqDiff, Nat.reduceMul, Int.reduceToNat, reduceIte, Int.reduceLE, Int.reduceNeg, decide_true, decide_false, e16]; rfl)) ?_
   refine W.cond rfl (fun h => absurd h (by simp)) (fun _ => ?_)
   repeat (first | refine W.seq ?_ | refine W.block ?_ | refine W.skip ?_ | refine W.exit ?_ | refine W.region tab_ok 0 (by decide) (exec_run (by simp only [exa, beq_self_eq_true, ByteArray.size, Nat.reduceAdd, Nat.reduceLeDiff, Nat.reduceEqDiff, Nat.reduceMul, Int.reduceToNat, reduceIte, Int.reduceLE, Int.reduceNeg, decide_true, decide_false, e17, e16]; rfl)) ?_)
   refine W.cond rfl (fun h => absurd h (by simp)) (fun _ => ?_)
   repeat (first | refine W.seq ?_ | refine W.block ?_ | refine W.skip ?_ | refine W.exit ?_ | refine W.region tab_ok 0 (by decide) (exec_run (by simp only [exa, beq_self_eq_true, ByteArray.size, Nat.reduceAdd, Nat.reduceLeDiff, Nat.reduceEqDiff, Nat.reduceMul, Int.reduceToNat, reduceIte, Int.reduceLE, Int.reduceNeg, decide_true, decide_false, e18]; rfl)) ?_)
   refine W.cond rfl (fun h => absurd h (by simp)) (fun _ => ?_)
   repeat (first | refine W.seq ?_ | refine W.block ?_ | refine W.skip ?_ | refine W.exit ?_ | refine W.region tab_ok 0 (by decide) (exec_run (by simp only [exa, beq_self_eq_true, ByteArray.size, Nat.reduceAdd, Nat.reduceLeDiff, Nat.reduceEqDiff, Nat.reduceMul, Int.reduceToNat, reduceIte, Int.reduceLE, Int.reduceNeg, decide_true, decide_false, e19]; rfl)) ?_)
   refine W.cond rfl (fun h => absurd h (by simp)) (fun _ => ?_)
   repeat (first | refine W.seq ?_ | refine W.block ?_ | refine W.skip ?_ | refine W.exit ?_ | refine W.region tab_ok 0 (by decide) (exec_run (by simp only [exa, beq_self_eq_true, ByteArray.size, Nat.reduceAdd, Nat.reduceLeDiff, Nat.reduceEqDiff, Nat.reduceMul, Int.reduceToNat, reduceIte, Int.reduceLE, Int.reduceNeg, wrap_succ (show i + 1 < 9223372036854775808 by omega)]; rfl)) ?_)
   refine W.ret ⟨.inr rfl, by rfl, ?_⟩
   simp only [Tryd.f26, resA, resOne, toT, fin, exa, beq_self_eq_true, ByteArray.size, Nat.reduceAdd, Nat.reduceLeDiff, Nat.reduceEqDiff, Nat.reduceMul, Int.reduceToNat, reduceIte, Int.reduceLE, Int.reduceNeg, cZ, List.map_cons, List.map_nil]
 ·have g0 : ((code.length : Int) ≤ (i : Int)) = True := eq_true (by omega)
  have hnx : nx code i = [] := by unfold nx; rw [List.getElem?_eq_none (by omega)]
  rw [hnx]
  repeat (first | refine W.seq ?_ | refine W.block ?_ | refine W.skip ?_ | refine W.exit ?_ | refine W.region tab_ok 0 (by decide) (exec_run (by simp only [exa, beq_self_eq_true, ByteArray.size, Nat.reduceAdd, Nat.reduceLeDiff, Nat.reduceEqDiff, Nat.reduceMul, Int.reduceToNat, reduceIte, Int.reduceLE, Int.reduceNeg, n0, g0, decide_false, decide_true, List.length_map]; rfl)) ?_)
  refine W.cond rfl (fun _ => ?_) (fun h => absurd h (by simp))
  repeat (first | refine W.seq ?_ | refine W.block ?_ | refine W.skip ?_ | refine W.exit ?_ | refine W.region tab_ok 0 (by decide) (exec_run (by simp only [exa, beq_self_eq_true, ByteArray.size, Nat.reduceAdd, Nat.reduceLeDiff, Nat.reduceEqDiff, Nat.reduceMul, Int.reduceToNat, reduceIte, Int.reduceLE, Int.reduceNeg]; rfl)) ?_)
  refine W.ret ⟨.inr rfl, by rfl, ?_⟩
  simp only [Tryd.f26, resA, resOne, toT, fin, exa, beq_self_eq_true, ByteArray.size, Nat.reduceAdd, Nat.reduceLeDiff, Nat.reduceEqDiff, Nat.reduceMul, Int.reduceToNat, reduceIte, Int.reduceLE, Int.reduceNeg]
end V
end Go.Proofs.YtnmfbaahabcocaaDoor
end
section
namespace Go.Proofs.YtnmfbaahabcocaaDoor
namespace V
open Go.RowKit
section
variable {w0 w w' : World} {I0 I : Nat → Nat → Prop} {B : Nat → Value} {mem : Mem}
theorem MR.newRaw (h : MR w0 I0 B I mem w) {id : Nat} (hid : mem id = none) (x : Obj) :
  MR w0 I0 (upd B id (.pointer (some ⟨w.heap.size, 0, none⟩))) I (upd mem id (some (.raw x))) (w.alloc x) :=
 h.alloc hid ⟨w.heap.size, upd_same .., heap_alloc_new _ _, fun p hp => by have := h.there _ _ hp; omega⟩ (fun k hk => by
  obtain ⟨off, hk⟩ := hk
  rw [upd_same] at hk
  cases hk; rfl) (fun j hj => by simp [O.ids] at hj)
theorem MR.putRaw (h : MR w0 I0 B I mem w) {id b : Nat} {x : Obj} (hid : mem id = some (.raw x)) (hB : B id = .pointer (some ⟨b, 0, none⟩)) (y : Obj) :
  MR w0 I0 B I (upd mem id (some (.raw y))) (w.putObj b y) ∧ Ext w (w.putObj b y) I I := by
 have hf : foot B id (.raw x) b := ⟨0, hB⟩
 obtain ⟨l0, l1⟩ := h.low id _ hid b hf
 obtain ⟨b', e1, hx, hI⟩ := h.objs id _ hid
 rw [hB] at e1; cases e1
 refine h.turn hid hf (fun k hk => ?_) hI rfl rfl rfl ?_ (fun k hk => World.putObj_heap_other hk) (fun i hi => by simp [O.ids] at hi) (fun _ => ⟨b, hB, World.putObj_heap_same l1, hI⟩)
 ·obtain ⟨off, hk⟩ := hk
  rw [hB] at hk; cases hk; rfl
 ·show (w.heap.setIfInBounds _ _).size = _
  simp
theorem MR.toHole (h : MR w0 I0 B I mem w) {id : Nat} {o : O} (hid : mem id = some o) (hb : ∃ b, B id = .pointer (some ⟨b, 0, none⟩) ∧ (∀ p, ¬ I b p) ∧ ∀ k, foot B id o k ↔ k = b) : MR w0 I0 B I (upd mem id (some .hole)) w := by
 obtain ⟨b, hB, hI, hf⟩ := hb
 exact (h.turn (o' := .hole) hid ((hf b).2 rfl) (fun k hk => by obtain ⟨off, hk⟩ := hk; rw [hB] at hk; cases hk; rfl) hI rfl rfl rfl rfl (fun _ _ => rfl) (fun i hi => by simp [O.ids] at hi) (fun _ => ⟨b, hB, hI⟩)).1
theorem MR.ofHole (h : MR w0 I0 B I mem w) {id b : Nat} {x : Obj} (hid : mem id = some .hole) (hB : B id = .pointer (some ⟨b, 0, none⟩)) (hx : w.heap[b]? = some x) : MR w0 I0 B I (upd mem id (some (.raw x))) w := by
 obtain ⟨b', e1, hI⟩ := h.objs id _ hid
 rw [hB] at e1; cases e1
 exact (h.turn (o' := .raw x) hid ⟨0, hB⟩ (fun k hk => by obtain ⟨off, hk⟩ := hk; rw [hB] at hk; cases hk; rfl) hI rfl rfl rfl rfl (fun _ _ => rfl) (fun i hi => by simp [O.ids] at hi) (fun _ => ⟨b, hB, hx, hI⟩)).1
end
end V
end Go.Proofs.YtnmfbaahabcocaaDoor
end
section
namespace Go.Proofs.YtnmfbaahabcocaaDoor
namespace V
open Go.RowKit
def loopRec (fn : FuncId) (tmps : Array Value) (ps : Array Tmp) (assign body : Code) (D : Nat) (st : LoopState) (pe : Option Code) : Obj :=
 .loop { state := st, pending := pe, fn, tmps, params := ps, assign, body, defers := D }
end V
end Go.Proofs.YtnmfbaahabcocaaDoor
end
section
namespace Go.Proofs.YtnmfbaahabcocaaDoor
namespace V
open Go.RowKit
section
variable {w0 w w' : World} {I0 I : Nat → Nat → Prop} {B : Nat → Value} {m : Mem}
theorem MR.sub (h : MR w0 I0 B I m w) {m' : Mem} (hs : ∀ j o, m' j = some o → m j = some o) (hw : WFm m') : MR w0 I0 B I m' w :=
 ⟨h.below, h.glob, h.base, h.old, h.there, fun id o ho => h.objs id o (hs _ _ ho), fun id o ho => h.low id o (hs _ _ ho), fun id o id' o' ho ho' => h.apart id o id' o' (hs _ _ ho) (hs _ _ ho'), hw⟩
end
def AbidesG (J : Nat → (Nat → Nat → Prop) → World → Prop) : Prop := ∀ k I I' W W', J k I W → Below W.heap.size W W' → (∀ b o, I b o → I' b o) → (∀ b o, I' b o → I b o ∨ (W.heap.size ≤ b ∧ b < W'.heap.size)) → J k I' W'
def fullM (m : Mem) (i1 iD iL : Nat) (x1 xL : Obj) : Mem := upd (upd (upd m i1 (some (.raw x1))) iD (some (.raw (.deferred (some []))))) iL (some (.raw xL))
def doneS (s : Nat → A) (b iD : Nat) : Nat → A := upd (upd s DID (.defs [{ target := .collected b, args := #[] }])) (DID + 1) (.pinP (.pointer (some ⟨b, 0, none⟩)) iD 0)
def doneM (m : Mem) (iD : Nat) : Mem := upd m iD (some (.raw (.deferred (some []))))
def keepR (kp : Nat → Prop) (s0 : Nat → A) (i1 iD iL : Nat) : Nat → Prop := fun j => kp j ∨ (∃ t, j ∈ (s0 t).ids) ∨ j = i1 ∨ j = iD ∨ j = iL
structure GoodM (kp : Nat → Prop) (s0 : Nat → A) (i1 iD iL : Nat) (m : Mem) : Prop where
 wf : WFm m
 i1 : m i1 = none
 iD : m iD = none
 iL : m iL = none
 ids : ∀ t, ∀ j ∈ (s0 t).ids, (m j).isSome = true
 kept : ∀ j, kp j → (m j).isSome = true
theorem upd_two {α : Type} (f : Nat → α) (i : Nat) (x y : α) : upd (upd f i x) i y = upd f i y := by
 funext t; unfold upd; split <;> rfl
def RoundK (kp : Nat → Prop) (K : Exit → St → Prop) (Inv : Nat → Prop) (s0 : Nat → A) (M : Nat → Mem) (i1 iD iL k : Nat) (x1 xL : Obj) : Exit → St → Prop
 | .normal, st => Inv (k + 1) ∧ ∃ τ, LeT τ (keepR kp s0 i1 iD iL) st ⟨fun _ => .top, fullM (M (k + 1)) i1 iD iL x1 xL⟩
 | .ret, st => ∃ τ m2, LeT τ (keepR kp s0 i1 iD iL) st ⟨fun _ => .top, fullM m2 i1 iD iL x1 xL⟩ ∧ GoodM kp s0 i1 iD iL m2 ∧ ∀ b, K .ret ⟨doneS s0 b iD, doneM m2 iD⟩
 | .exit id, st => ∃ τ m2, LeT τ (keepR kp s0 i1 iD iL) st ⟨fun _ => .top, fullM m2 i1 iD iL x1 xL⟩ ∧ GoodM kp s0 i1 iD iL m2 ∧ ∀ b, K (.exit id) ⟨doneS s0 b iD, doneM m2 iD⟩
 | _, _ => False
section
variable {kp : Nat → Prop} {s0 : Nat → A} {i1 iD iL : Nat} {m : Mem} {x1 xL : Obj}
theorem full_cases {j : Nat} {o : O} (h : fullM m i1 iD iL x1 xL j = some o) : (j = iL ∧ o = .raw xL) ∨ (j = iD ∧ j ≠ iL ∧ o = .raw (.deferred (some []))) ∨ (j = i1 ∧ j ≠ iL ∧ j ≠ iD ∧ o = .raw x1) ∨ (j ≠ iL ∧ j ≠ iD ∧ j ≠ i1 ∧ m j = some o) := by
 unfold fullM upd at h
 split at h
 ·rename_i e; exact .inl ⟨e, (Option.some.inj h).symm⟩
 ·rename_i e1
  split at h
  ·rename_i e; exact .inr (.inl ⟨e, e1, (Option.some.inj h).symm⟩)
  ·rename_i e2
   split at h
   ·rename_i e; exact .inr (.inr (.inl ⟨e, e1, e2, (Option.some.inj h).symm⟩))
   ·rename_i e4; exact .inr (.inr (.inr ⟨e1, e2, e4, h⟩))
theorem full_live {j : Nat} (h : (m j).isSome = true) : (fullM m i1 iD iL x1 xL j).isSome = true := by
 unfold fullM upd
 split
 ·rfl
 ·split
  ·rfl
  ·split
   ·rfl
   ·exact h
theorem fullM_wf (hw : WFm m) : WFm (fullM m i1 iD iL x1 xL) := fun j o ho i hi => by
 rcases full_cases ho with ⟨-, rfl⟩ | ⟨-, -, rfl⟩ | ⟨-, -, -, rfl⟩ | ⟨-, -, -, ho⟩
 ·simp [O.ids] at hi
 ·simp [O.ids] at hi
 ·simp [O.ids] at hi
 ·exact full_live (hw j o ho i hi)
theorem fullM_keep (h : GoodM kp s0 i1 iD iL m) {j : Nat} (hj : keepR kp s0 i1 iD iL j) : (fullM m i1 iD iL x1 xL j).isSome = true := by
 rcases hj with hj | ⟨t, hj⟩ | hj
 ·exact full_live (h.kept j hj)
 ·exact full_live (h.ids t j hj)
 ·unfold fullM upd
  split
  ·rfl
  ·split
   ·rfl
   ·split
    ·rfl
    ·omega
theorem fullM_L (y : Obj) : upd (fullM m i1 iD iL x1 xL) iL (some (.raw y)) = fullM m i1 iD iL x1 y := upd_two _ _ _ _
end
theorem SR.putRaw {R : Ref} {n : Nat} {ds : List Deferred} {st : St} {a : Act} {w : World} (h : SR R n ds st a w) {id b : Nat} {x : Obj} (hid : st.m id = some (.raw x)) (hk : R.keep id) (hB : R.B id = .pointer (some ⟨b, 0, none⟩)) (y : Obj) :
  w.heap[b]? = some x ∧ SR R n ds ⟨st.s, upd st.m id (some (.raw y))⟩ a (w.putObj b y) := by
 obtain ⟨⟨B, I, hm, hx0, hkp, hs⟩, hids, hsz, hnn, hdf, hkept⟩ := h
 have hB' : B id = .pointer (some ⟨b, 0, none⟩) := (hkp id hk).trans hB
 obtain ⟨hm', hE⟩ := hm.putRaw hid hB' y
 have liv : ∀ i, (st.m i).isSome = true → (upd st.m id (some (.raw y)) i).isSome = true := fun i hi => by
  unfold upd; split
  ·rfl
  ·exact hi
 obtain ⟨b', e1, hx, -⟩ := hm.objs id _ hid
 rw [hB'] at e1; cases e1
 exact ⟨hx, ⟨B, I, hm', hx0.trans hE, hkp, fun t => (hs t).mono hE fun _ _ => rfl⟩, fun t j hj => liv j (hids t j hj), hsz, hnn, hdf, fun j hj => liv j (hkept j hj)⟩
def IterOk (P : Go.Program) (gf : FuncId) (ty : TypeId) (xs1 : List C) (xs : List (List C)) : Prop :=
 (∀ args w, (callFunc gf args).run P w = .ok (.enter gf args) w) ∧
 ∀ (n : Nat), 4 ≤ n → ∀ (l b1 : Nat) (us1 : List Value) (J : Nat → (Nat → Nat → Prop) → World → Prop) (Jx : World → Prop), AbidesG J →
  (∀ k I W, J k I W → (∀ b o, I b o → b < W.heap.size) ∧ GlobOk W ∧ RCs W I us1 xs1 ∧ W.heap[b1]? = some (.cells us1.toArray ty (0, 0))) →
  (∀ k I W x vs, J k I W → xs[k]? = some x → RCs W I vs x → YieldAt Fence.wide (n - 1) P l #[.agg vs.toArray] W fun e W' => (e = .returned (.bool true) ∧ ∃ I', Ext W W' I I' ∧ J (k + 1) I' W') ∨ (e = .returned (.bool false) ∧ Jx W')) →
  ∀ (W : World) (I0 : Nat → Nat → Prop), J 0 I0 W → CallsIn Fence.wide n P gf #[.func (.yield l) #[] #[], .pointer (some ⟨b1, 0, none⟩)] W fun e W' => (∃ v, e = .returned v) ∧ ((∃ I, J xs.length I W') ∨ Jx W')
set_option maxHeartbeats 1000000 in
theorem W.rangeSeq {P : Go.Program} {R : Ref} {n : Nat} {ds : List Deferred} {st : St} {K : Exit → St → Prop} {g : Operand} {assign body : Code} {p0 : Tmp} {gf : FuncId} {ty : TypeId} {xs1 : List C}
  (xs : List (List C)) (i1 iD iL : Nat) (s0 : Nat → A) (M : Nat → Mem) (Inv : Nat → Prop) (hit : IterOk P gf ty xs1 xs)
  (hg : ev st.s g = .fn gf [i1]) (h1 : st.m i1 = some (.box ty (xs1.map A.c)))
  (hne : [i1, iD, iL].Nodup) (hD : st.m iD = none) (hL : st.m iL = none) (hpn : p0 < n) (hI0 : Inv 0) (hdd : dfs (st.s DID) = [])
  (hs0 : SLe st.s s0) (hsn : ∀ t, n ≤ t → s0 t = .top) (hM0 : ∀ j o, M 0 j = some o → st.m j = some o)
  (hM : ∀ k, k ≤ xs.length → GoodM R.keep s0 i1 iD iL (M k))
  (hround : ∀ (R' : Ref) (l : Nat), R'.keep = keepR R.keep s0 i1 iD iL → ∀ (k : Nat) (x : List C) (x1 xL : Obj), Inv k → xs[k]? = some x →
   WI l 3 P R' n [] ⟨upd s0 p0 (.agg x), fullM (M k) i1 iD iL x1 xL⟩ assign
    (thenK (fun st1 => st1.m iL = some (.raw xL) ∧ ∀ xL', WI l 3 P R' n [] ⟨st1.s, upd st1.m iL (some (.raw xL'))⟩ body (RoundK R.keep K Inv s0 M i1 iD iL k x1 xL')) (fun _ _ => False)))
  (hdone : Inv xs.length → ∀ b, K .normal ⟨doneS s0 b iD, doneM (M xs.length) iD⟩) :
  W P R n ds st (.rangeFunc g #[p0] assign body) K := by
 intro a w hr
 obtain ⟨⟨B, I, hm, hx0, hkp, hs⟩, hids, hsz, hnn, hdf, hkept⟩ := hr
 simp only [List.nodup_cons, List.mem_cons, List.not_mem_nil, or_false, not_or, List.nodup_nil, and_true, not_false_eq_true] at hne
 obtain ⟨⟨n1D, n1L⟩, nDL⟩ := hne
 obtain ⟨b1, us1, hB1, hh1, hv1, hI1⟩ := hm.objs i1 _ h1
 have hcv : RCs w I us1 xs1 := by
  have key : ∀ (us : List Value) (ys : List C), RVs B w I (ys.map A.c) us → RCs w I us ys := fun us ys => by
   induction us generalizing ys with
   | nil => intro h; cases ys with | nil => trivial | cons _ _ => exact h.elim
   | cons u us ih => intro h; cases ys with | nil => exact h.elim | cons y ys => exact ⟨h.1.1, ih ys h.2⟩
  exact key _ _ hv1
 have hfv : a.eval g = .func (.func gf) #[] #[.pointer (some ⟨b1, 0, none⟩)] := by
  have := ev_rv hs g
  rw [hg] at this
  have h := show a.eval g = .func (.func gf) #[] (([i1].map B).toArray) from this
  rw [h]; simp [hB1]
 have had : a.defers = ds := by rw [hdf, show dfs (st.s DID) = [] from hdd]; rfl
 refine (wpIn_wide (n := 5)).1 (wpIn_rangeFunc fun fn hfn => ?_)
 -- the loop's book-keeping
 generalize hrec : (fun s pe => loopRec fn a.tmps #[p0] assign body w.heap.size s pe) = rec'
 have recL : ∀ s pe, rec' s pe = loopRec fn a.tmps #[p0] assign body w.heap.size s pe := fun s pe => by rw [← hrec]
 generalize hws : (w.alloc (.deferred (some []))).alloc (rec' .ready none) = ws
 have size0 : (w.alloc (.deferred (some []))).heap.size = w.heap.size + 1 := World.size_alloc _ _
 generalize hBsd : upd (upd B iD (.pointer (some ⟨w.heap.size, 0, none⟩))) iL (.pointer (some ⟨w.heap.size + 1, 0, none⟩)) = Bs
 have hm1 := hm.newRaw hD (.deferred (some []))
 have hb1 : Below w.heap.size w (w.alloc (.deferred (some []))) := (Below.refl _ _).alloc (Nat.le_refl _) _
 have hL' : upd st.m iD (some (O.raw (.deferred (some [])))) iL = none := by rw [upd_ne _ _ (Ne.symm nDL)]; exact hL
 have hm2 := hm1.newRaw hL' (rec' .ready none)
 rw [size0, hBsd, hws] at hm2
 have hb2 : Below w.heap.size w ws := by rw [← hws]; exact hb1.alloc (by rw [size0]; omega) _
 have hE2 : Ext w ws I I := hm.ext hb2 (fun _ _ k => k)
 have hBs : ∀ j, (st.m j).isSome = true → Bs j = B j := fun j hj => by
  rw [← hBsd, upd_ne _ _ (fun e => by subst e; simp [hL] at hj), upd_ne _ _ (fun e => by subst e; simp [hD] at hj)]
 have hB1s : Bs i1 = .pointer (some ⟨b1, 0, none⟩) := (hBs i1 (by simp [h1])).trans hB1
 have hBDs : Bs iD = .pointer (some ⟨w.heap.size, 0, none⟩) := by rw [← hBsd, upd_ne _ _ nDL, upd_same]
 have hBLs : Bs iL = .pointer (some ⟨w.heap.size + 1, 0, none⟩) := by rw [← hBsd, upd_same]
 have hl1 : b1 < w.heap.size := (Array.getElem?_eq_some_iff.1 hh1).1
 -- the frame, as it was at the loop's start
 have hframe : ∀ t, RV Bs ws I (s0 t) (a.tmps.getD t undef) := fun t => by
  rcases hs0 t with e | e
  ·rw [e]; trivial
  ·rw [e]; exact (hs t).mono hE2 fun j hj => hBs j (hids t j hj)
 let x1 : Obj := .cells us1.toArray ty (0, 0)
 let kp' := keepR R.keep s0 i1 iD iL
 have keep1 : kp' i1 := .inr (.inr (.inl rfl))
 have keepD : kp' iD := .inr (.inr (.inr (.inl rfl)))
 have keepL : kp' iL := .inr (.inr (.inr (.inr rfl)))
 let R' : World → (Nat → Nat → Prop) → Ref := fun W I1 => ⟨R.w0, R.I0, W, I1, Bs, kp'⟩
 let J : Nat → (Nat → Nat → Prop) → World → Prop := fun k I1 W => ∃ B1, MR R.w0 R.I0 B1 I1 (fullM (M k) i1 iD iL x1 (rec' .ready none)) W ∧ Ext ws W I I1 ∧ (∀ j, kp' j → B1 j = Bs j) ∧ k ≤ xs.length ∧ Inv k
 let Jx : World → Prop := fun W => ∃ c B1 I1 m2, MR R.w0 R.I0 B1 I1 (fullM m2 i1 iD iL x1 (rec' .done (some c))) W ∧ Ext ws W I I1 ∧ (∀ j, kp' j → B1 j = Bs j) ∧ GoodM R.keep s0 i1 iD iL m2 ∧
  ((c = .ret ∧ ∀ b, K .ret ⟨doneS s0 b iD, doneM m2 iD⟩) ∨ ∃ id, c = .exit id ∧ ∀ b, K (.exit id) ⟨doneS s0 b iD, doneM m2 iD⟩)
 have fullL : ∀ (m : Mem) (x : Obj), fullM m i1 iD iL x1 x iL = some (.raw x) := fun _ _ => upd_same _ _ _
 have full1 : ∀ (m : Mem) (x : Obj), fullM m i1 iD iL x1 x i1 = some (.raw x1) := fun _ _ => by unfold fullM; rw [upd_ne _ _ n1L, upd_ne _ _ n1D, upd_same]
 -- behind the loop
 have finish : ∀ {W : World} {B1 : Nat → Value} {I1 : Nat → Nat → Prop} {m2 : Mem} {y : Obj}, MR R.w0 R.I0 B1 I1 (fullM m2 i1 iD iL x1 y) W → Ext ws W I I1 → (∀ j, kp' j → B1 j = Bs j) → GoodM R.keep s0 i1 iD iL m2 →
   SR R n ds ⟨doneS s0 w.heap.size iD, doneM m2 iD⟩ { a with defers := { target := .collected w.heap.size, args := #[] } :: a.defers } W := fun {W B1 I1 m2 y} hmW hxW hkW hgd => by
  have liv : ∀ j, (m2 j).isSome = true → (doneM m2 iD j).isSome = true := fun j hj => by
   unfold doneM upd; split
   ·rfl
   ·exact hj
  have hsub : MR R.w0 R.I0 B1 I1 (doneM m2 iD) W := hmW.sub (fun j o ho => by
   unfold doneM upd at ho
   split at ho
   ·rename_i e; subst e; cases ho
    unfold fullM; rw [upd_ne _ _ nDL, upd_same]
   ·rename_i e
    have e1 : j ≠ iL := fun q => by subst q; rw [hgd.iL] at ho; cases ho
    have e3 : j ≠ i1 := fun q => by subst q; rw [hgd.i1] at ho; cases ho
    unfold fullM; rw [upd_ne _ _ e1, upd_ne _ _ e, upd_ne _ _ e3]; exact ho) (fun j o ho i hi => by
   unfold doneM upd at ho
   split at ho
   ·cases ho; simp [O.ids] at hi
   ·exact liv i (hgd.wf j o ho i hi))
  have sl : ∀ t, t ≠ DID → t ≠ DID + 1 → doneS s0 w.heap.size iD t = s0 t := fun t e1 e2 => by
   unfold doneS; rw [upd_ne _ _ e2, upd_ne _ _ e1]
  refine ⟨⟨B1, I1, hsub, (hx0.trans hE2).trans hxW, fun j hj => ((hkW j (.inl hj)).trans (hBs j (hkept j hj))).trans (hkp j hj), fun t => ?_⟩, fun t j hj => ?_, hsz, hnn, ?_, fun j hj => liv j (hgd.kept j hj)⟩
  ·by_cases e2 : t = DID + 1
   ·subst e2
    show RV B1 W I1 (doneS s0 w.heap.size iD (DID + 1)) _
    unfold doneS; rw [upd_same]
    exact ⟨w.heap.size, (hkW iD keepD).trans hBDs, rfl⟩
   ·by_cases e1 : t = DID
    ·subst e1
     show RV B1 W I1 (doneS s0 w.heap.size iD DID) _
     unfold doneS; rw [upd_ne _ _ (by decide), upd_same]
     trivial
    ·show RV B1 W I1 (doneS s0 w.heap.size iD t) _
     rw [sl t e1 e2]
     exact (hframe t).mono hxW fun j hj => hkW j (.inr (.inl ⟨t, hj⟩))
  ·replace hj : j ∈ (doneS s0 w.heap.size iD t).ids := hj
   by_cases e2 : t = DID + 1
   ·subst e2
    unfold doneS at hj; rw [upd_same] at hj
    simp [A.ids] at hj; subst hj
    show (doneM m2 j j).isSome = true
    unfold doneM; rw [upd_same]; rfl
   ·by_cases e1 : t = DID
    ·subst e1
     unfold doneS at hj; rw [upd_ne _ _ (by decide), upd_same] at hj
     simp [A.ids] at hj
    ·rw [sl t e1 e2] at hj
     exact liv j (hgd.ids t j hj)
  ·show _ :: a.defers = dfs (doneS s0 w.heap.size iD DID) ++ ds
   unfold doneS; rw [upd_ne _ _ (by decide), upd_same, had]; rfl
 have hJ0 : J 0 I ws := by
  have hi1 : upd (upd st.m iD (some (O.raw (.deferred (some []))))) iL (some (.raw (rec' .ready none))) i1 = some (.box ty (xs1.map A.c)) := by rw [upd_ne _ _ n1L, upd_ne _ _ n1D]; exact h1
  have hb := hm2.toHole hi1 ⟨b1, hB1s, hI1, fun k => ⟨fun ⟨off, hk⟩ => by rw [hB1s] at hk; cases hk; rfl, fun e => ⟨0, e ▸ hB1s⟩⟩⟩
  have hc := hb.ofHole (id := i1) (b := b1) (x := x1) (upd_same _ _ _) hB1s ((hb2.block b1 hl1).trans hh1)
  refine ⟨Bs, hc.sub (fun j o ho => ?_) (fullM_wf (hM 0 (Nat.zero_le _)).wf), Ext.refl _ _, fun _ _ => rfl, Nat.zero_le _, hI0⟩
  rw [upd_two]
  rcases full_cases ho with ⟨rfl, rfl⟩ | ⟨rfl, e1, rfl⟩ | ⟨rfl, e1, e2, rfl⟩ | ⟨e1, e2, e4, ho⟩
  ·rw [upd_ne _ _ (Ne.symm n1L), upd_same]
  ·rw [upd_ne _ _ (Ne.symm n1D), upd_ne _ _ nDL, upd_same]
  ·rw [upd_same]
  ·rw [upd_ne _ _ e4, upd_ne _ _ e1, upd_ne _ _ e2]; exact hM0 j o ho
 have hJA : AbidesG J := fun k I1 I2 W W' hj hb hs1 hs2 => by
  obtain ⟨B1, q1, q2, q3, q4⟩ := hj
  exact ⟨B1, q1.grow hb hs1 hs2, q2.trans (q1.ext hb hs1), q3, q4⟩
 have hJR : ∀ k I1 W, J k I1 W → (∀ b o, I1 b o → b < W.heap.size) ∧ GlobOk W ∧ RCs W I1 us1 xs1 ∧ W.heap[b1]? = some (.cells us1.toArray ty (0, 0)) := fun k I1 W hj => by
  obtain ⟨B1, q1, q2, q3, q4⟩ := hj
  refine ⟨q1.there, q1.glob.keep q1.below, (hcv.mono hE2).mono q2, ?_⟩
  obtain ⟨b, e1, e2, -⟩ := q1.objs i1 _ (full1 _ _)
  rw [(q3 i1 keep1).trans hB1s] at e1; cases e1
  exact e2
 refine ⟨w.heap.size + 1, [{ target := .collected w.heap.size, args := #[] }], ws, { target := .fn (.func gf) #[.pointer (some ⟨b1, 0, none⟩)], args := #[.func (.yield (w.heap.size + 1)) #[] #[]] }, ws, gf,
  #[.func (.yield (w.heap.size + 1)) #[] #[], .pointer (some ⟨b1, 0, none⟩)], ws, ?_, by simp only [resolve, hfv]; simp [go_sem, Deferred.ofValue], ?_, ?_, fun _ => by decide, ?_⟩
 ·rw [← hws, recL]; exact run_enterLoop_outer _ _ _ _ _
 ·intro f' hf'
  simp [Target.leads] at hf'
  subst hf'; trivial
 ·have := hit.1 #[.func (.yield (w.heap.size + 1)) #[] #[], .pointer (some ⟨b1, 0, none⟩)] ws
  simp [invoke, go_sem, this]
 refine (hit.2 4 (by decide) (w.heap.size + 1) b1 us1 J Jx hJA hJR ?_ ws I hJ0).mono ?_
 ·intro k I1 W x vs hj hitem hvs
  obtain ⟨B1, q1, q2, q3, q4, qI⟩ := hj
  have hk : k < xs.length := (List.getElem?_eq_some_iff.1 hitem).1
  have hL1 : W.heap[w.heap.size + 1]? = some (rec' .ready none) := by
   obtain ⟨b, e1, e2, -⟩ := q1.objs iL _ (fullL _ _)
   rw [(q3 iL keepL).trans hBLs] at e1; cases e1
   exact e2
  have hL2 := hL1
  rw [recL] at hL2
  have hgk := hM k q4
  have hfold : (((#[p0] : Array Tmp).zip (#[.agg vs.toArray] : Array Value)).foldl (fun tmps (p : Tmp × Value) => tmps.setIfInBounds p.1 p.2) a.tmps) = a.tmps.setIfInBounds p0 (.agg vs.toArray) := by simp
  have htm : ∀ t, ((((#[p0] : Array Tmp).zip (#[.agg vs.toArray] : Array Value)).foldl (fun tmps (p : Tmp × Value) => tmps.setIfInBounds p.1 p.2) a.tmps).getD t undef) = if t = p0 then .agg vs.toArray else a.tmps.getD t undef := fun t => by
   rw [hfold, Array.getD_eq_getD_getElem?, Array.getElem?_setIfInBounds]
   by_cases e0 : p0 = t
   ·subst e0
    rw [if_pos rfl, if_pos (by rw [hsz]; exact hpn), if_pos rfl]; rfl
   ·rw [if_neg e0, if_neg (Ne.symm e0), Array.getD_eq_getD_getElem?]
  have hsr : SR (R' W I1) n [] ⟨upd s0 p0 (.agg x), fullM (M k) i1 iD iL x1 (rec' .ready none)⟩ { tmps := ((#[p0] : Array Tmp).zip (#[.agg vs.toArray] : Array Value)).foldl (fun tmps (p : Tmp × Value) => tmps.setIfInBounds p.1 p.2) a.tmps, defers := [] } W := by
   refine ⟨⟨B1, I1, q1, Ext.refl _ _, q3, fun t => ?_⟩, fun t q hq => ?_, ?_, hnn, ?_, fun q hq => fullM_keep hgk hq⟩
   ·rw [htm]
    show RV B1 W I1 (upd s0 p0 (.agg x) t) _
    by_cases e0 : t = p0
    ·subst e0; rw [upd_same, if_pos rfl]; exact ⟨vs, rfl, hvs⟩
    ·rw [upd_ne _ _ e0, if_neg e0]
     exact (hframe t).mono q2 fun q hq => q3 q (.inr (.inl ⟨t, hq⟩))
   ·replace hq : q ∈ (upd s0 p0 (A.agg x) t).ids := hq
    by_cases e0 : t = p0
    ·subst e0; rw [upd_same] at hq; simp [A.ids] at hq
    ·rw [upd_ne _ _ e0] at hq
     exact full_live (hgk.ids t q hq)
   ·show (((#[p0] : Array Tmp).zip (#[.agg vs.toArray] : Array Value)).foldl (fun tmps (p : Tmp × Value) => tmps.setIfInBounds p.1 p.2) a.tmps).size = n
    rw [hfold]; simp [hsz]
   ·show [] = dfs (upd s0 p0 (A.agg x) DID) ++ []
    have hn0 : DID ≠ p0 := fun e => by have h := hpn; rw [← e] at h; exact absurd h (Nat.not_lt.2 hnn)
    rw [upd_ne _ _ hn0, hsn DID hnn]; rfl
  refine ⟨fn, _, assign, body, run_yield (P := P) (args := #[.agg vs.toArray]) hL2 rfl, roundIn_of_wpIn hfn (wpIn_mono (hround (R' W I1) (w.heap.size + 1) rfl k x x1 (rec' .ready none) qI hitem _ W hsr) ?_)⟩
  rintro e a1 W1 ⟨st1, hk1, hsr1⟩
  cases e with
  | normal =>
   obtain ⟨hi1, hbody⟩ := hk1
   obtain ⟨hx1, hsr2⟩ := hsr1.putRaw hi1 keepL hBLs (rec' .busy none)
   rw [recL] at hx1
   refine ⟨_, run_beginRound hx1 rfl, ?_⟩
   have hb := hbody (rec' .busy none) a1 _ hsr2
   rw [recL] at hb
   refine wpIn_mono hb ?_
   rintro e a3 V ⟨st2, hk2, hsr3⟩
   rw [← recL .busy none] at hk2
   -- a round has ended
   have fin : ∀ {τ : Nat → Nat} {m2 : Mem} (s' : LoopState) (pe : Option Code), GoodM R.keep s0 i1 iD iL m2 → LeT τ kp' st2 ⟨fun _ => .top, fullM m2 i1 iD iL x1 (rec' .busy none)⟩ → V.heap[w.heap.size + 1]? = some (rec' .busy none) ∧
     ∃ B3 I3, MR R.w0 R.I0 B3 I3 (fullM m2 i1 iD iL x1 (rec' s' pe)) (V.putObj (w.heap.size + 1) (rec' s' pe)) ∧ Ext W (V.putObj (w.heap.size + 1) (rec' s' pe)) I1 I3 ∧ (∀ j, kp' j → B3 j = Bs j) := fun {τ m2} s' pe hgd hle => by
    have h5 := hsr3.leT (R := R' W I1) hle
    obtain ⟨h6, h7⟩ := h5.putRaw (fullL _ _) keepL hBLs (rec' s' pe)
    rw [show (⟨fun _ => .top, fullM m2 i1 iD iL x1 (rec' .busy none)⟩ : St).m = fullM m2 i1 iD iL x1 (rec' .busy none) from rfl, fullM_L] at h7
    obtain ⟨⟨B3, I3, r1, r2, r3, -⟩, -⟩ := h7
    exact ⟨h6, B3, I3, r1, r2, r3⟩
   match e, hk2 with
   | .normal, ⟨hIn, τ, hle⟩ =>
    obtain ⟨h6, B3, I3, r1, r2, r3⟩ := fin .ready none (hM (k + 1) hk) hle
    rw [recL] at h6
    refine ⟨_, _, run_endRound (P := P) none h6, .inl ⟨rfl, ⟨I3, ?_, B3, ?_, ?_, r3, hk, hIn⟩⟩⟩
    ·rw [recL] at r2; exact r2
    ·rw [recL] at r1 ⊢; exact r1
    ·rw [recL] at r2; exact q2.trans r2
   | .ret, ⟨τ, m2, hle, hgd, hK⟩ =>
    obtain ⟨h6, B3, I3, r1, r2, r3⟩ := fin .done (some .ret) hgd hle
    rw [recL] at h6
    refine ⟨_, _, run_endRound (P := P) (some .ret) h6, .inr ⟨rfl, .ret, B3, I3, m2, ?_, ?_, r3, hgd, .inl ⟨rfl, hK⟩⟩⟩
    ·rw [recL] at r1 ⊢; exact r1
    ·rw [recL] at r2; exact q2.trans r2
   | .exit id, ⟨τ, m2, hle, hgd, hK⟩ =>
    obtain ⟨h6, B3, I3, r1, r2, r3⟩ := fin .done (some (.exit id)) hgd hle
    rw [recL] at h6
    refine ⟨_, _, run_endRound (P := P) (some (.exit id)) h6, .inr ⟨rfl, .exit id, B3, I3, m2, ?_, ?_, r3, hgd, .inr ⟨id, rfl, hK⟩⟩⟩
    ·rw [recL] at r1 ⊢; exact r1
    ·rw [recL] at r2; exact q2.trans r2
  | _ => exact hk1.elim
 ·-- the loop has ended
  have over : ∀ {W : World} {B1 : Nat → Value} {I1 : Nat → Nat → Prop} {m2 : Mem} {s' : LoopState} {pe : Option Code} (y : Obj), MR R.w0 R.I0 B1 I1 (fullM m2 i1 iD iL x1 (rec' s' pe)) W → Ext ws W I I1 → (∀ j, kp' j → B1 j = Bs j) → GoodM R.keep s0 i1 iD iL m2 →
    W.heap[w.heap.size + 1]? = some (rec' s' pe) ∧ SR R n ds ⟨doneS s0 w.heap.size iD, doneM m2 iD⟩ { a with defers := { target := .collected w.heap.size, args := #[] } :: a.defers } (W.putObj (w.heap.size + 1) y) := fun {W B1 I1 m2 s' pe} y r1 r2 r3 hgd => by
   have hBL := (r3 iL keepL).trans hBLs
   obtain ⟨b, e1, e2, -⟩ := r1.objs iL _ (fullL _ _)
   rw [hBL] at e1; cases e1
   obtain ⟨r4, r5⟩ := r1.putRaw (fullL _ _) hBL y
   rw [fullM_L] at r4
   exact ⟨e2, finish r4 (r2.trans r5) r3 hgd⟩
  rintro e V ⟨⟨v, rfl⟩, (⟨I1, B1, r1, r2, r3, r4, rI⟩ | ⟨c, B1, I1, m2, r1, r2, r3, hgd, hc⟩)⟩
  ·obtain ⟨h6, h7⟩ := over (loopRec fn a.tmps #[p0] assign body w.heap.size .exhausted none) r1 r2 r3 (hM _ (Nat.le_refl _))
   rw [recL] at h6
   exact ⟨none, _, run_endLoop (P := P) h6 (by simp), ⟨_, hdone rI _, h7⟩⟩
  ·obtain ⟨h6, h7⟩ := over (loopRec fn a.tmps #[p0] assign body w.heap.size .exhausted (some c)) r1 r2 r3 hgd
   rw [recL] at h6
   refine ⟨some c, _, run_endLoop (P := P) h6 (by simp), ?_⟩
   rcases hc with ⟨rfl, hK⟩ | ⟨id, rfl, hK⟩
   ·exact wpIn_ret ⟨_, hK _, h7⟩
   ·exact wpIn_exit ⟨_, hK _, h7⟩
theorem A1.ren_id (a : A1) : a.ren (fun j => j) = a := by cases a <;> rfl
theorem A.ren_id (a : A) : a.ren (fun j => j) = a := by
 have h1 : ∀ l : List A1, l.map (A1.ren fun j => j) = l := fun l => by
  rw [show (A1.ren fun j => j) = (fun a => a) from funext A1.ren_id]; simp
 cases a <;> simp [A.ren, h1]
theorem O.ren_id (o : O) : o.ren (fun j => j) = o := by
 cases o with
 | box ty cells => simp only [O.ren]; rw [show (A.ren fun j => j) = (fun a => a) from funext A.ren_id]; simp
 | rows ty xs => simp only [O.ren]; rw [show (A1.ren fun j => j) = (fun a => a) from funext A1.ren_id]; simp
 | map ents => simp only [O.ren]; simp [A1.ren_id]
 | _ => rfl
theorem Le.toT {kp : Nat → Prop} {st st' : St} (h : Le kp st st') : LeT (fun j => j) kp st st' := by
 refine ⟨fun t => ?_, fun j o ho => ?_, fun i j _ _ e => e, h.wf, fun j hj => ⟨rfl, h.kept j hj⟩, h.dd⟩
 ·rw [A.ren_id]; exact h.s t
 ·rw [O.ren_id]
  rcases h.m j with e | e
  ·rw [e] at ho; cases ho
  ·rw [← e]; exact ho
theorem ok_pureM {P : Go.Program} {T : Tab} (hT : T.Ok P) {f : FuncId} {fn : Func} {c : Code} {l : List ResultVar} {args : List A} {r : A} (hf : P.funcs[f]? = some fn) (hn : (fn.name == "runtime.NumGoroutine") = false) (hb : fn.body = some c) (hl : fn.results.toList = l) (hd : args.all (fun a => a.ids.isEmpty && !(match a with | .defs _ => true | _ => false)) = true) (hr : r.ids = []) (hle : decide (args.length ≤ fn.ntmps ∧ fn.ntmps ≤ DID) = true)
  (hW : ∀ R : Ref, R.keep = (fun _ => False) → W P R fn.ntmps [] ⟨entry args, Mem.nil⟩ c (fun e st => (e = .normal ∨ e = .ret) ∧ ((dfs (st.s DID) = [] ∧ resA T st l = some r) ∨
   ∃ b iD, dfs (st.s DID) = [{ target := .collected b, args := #[] }] ∧ st.s (DID + 1) = .pinP (.pointer (some ⟨b, 0, none⟩)) iD 0 ∧ st.m iD = some (.raw (.deferred (some []))) ∧ resA T ⟨st.s, upd st.m iD (some (.raw (.deferred none)))⟩ l = some r))) (m : Mem) : COk P f args m r := by
 refine ⟨enters_of hf hn hb, hr, fun m' _ => ?_⟩
 intro w0 I0 B I w vals hm hv
 have hlen := rvl_len hv
 have hids : ∀ a ∈ args, a.ids = [] := fun a ha => by have := List.all_eq_true.1 hd a ha; simp only [Bool.and_eq_true] at this; simpa using this.1
 have hdf : ∀ a ∈ args, ∀ l, a ≠ .defs l := fun a ha l e => by have := List.all_eq_true.1 hd a ha; subst e; simp at this
 obtain ⟨hle1, hle2⟩ := of_decide_eq_true hle
 refine (callsIn_wide (n := 5)).1 (callsIn_of_wp_marks hf hb trivial ?_ rfl)
 have h0 : SR ⟨w, I, w, I, B, fun _ => False⟩ fn.ntmps [] ⟨entry args, Mem.nil⟩ { tmps := vals.toArray ++ Array.replicate (fn.ntmps - vals.toArray.size) undef, defers := [] } w := by
  refine ⟨⟨B, I, ⟨Below.refl _ _, hm.globNow, fun _ _ h => h, fun _ _ h => .inl h, hm.there, fun _ _ h => absurd h (noneSome _), fun _ _ h => absurd h (noneSome _), fun _ _ _ _ h => absurd h (noneSome _), fun _ _ h => absurd h (noneSome _)⟩, Ext.refl _ _, fun _ _ => rfl, rvl_entry hv⟩, fun t j hj => ?_, by simp [hlen]; omega, hle2, by rw [show dfs ((⟨entry args, Mem.nil⟩ : St).s DID) = [] from entry_dfs hdf]; rfl, fun j hj => hj.elim⟩
  simp only [entry, List.getD_eq_getElem?_getD] at hj
  cases hx : args[t]? with
  | none => rw [hx] at hj; simp [A.ids] at hj
  | some a => rw [hx] at hj; simp [hids a (List.mem_of_getElem? hx)] at hj
 refine wpIn_mono (wpIn_wide.2 (hW _ rfl _ w h0)) ?_
 rintro e a' w' ⟨st', ⟨he, hres⟩, hsr⟩
 have post : LeavesInM Fence.wide 5 P fn a'.tmps (fun e w' => ∃ v I', e = .returned v ∧ Below w.heap.size w w' ∧ (∀ b o, I b o → I' b o) ∧ (∀ b o, I' b o → I b o ∨ (w.heap.size ≤ b ∧ b < w'.heap.size)) ∧ RV B w' I' r v) a'.defers .returning w' := by
  rcases hres with ⟨hdn, hres⟩ | ⟨b, iD, hdn, hpin, hiD, hres⟩
  ·obtain ⟨⟨B', I', hm', hx', -, hs'⟩, -, -, -, hds, -⟩ := hsr
   obtain ⟨v, h1, h2, h3⟩ := resA_snd hT hm' hs' hl hres
   rw [hds, hdn]
   exact ⟨v, h1, v, I', rfl, hm'.below, hm'.base, fun b o h => (hm'.old b o h).imp id fun k => ⟨k, hm'.there b o h⟩, h2.mono (Ext.refl _ _) fun j hj => by rw [h3] at hj; simp at hj⟩
  ·obtain ⟨⟨B', I', hm', hx', -, hs'⟩, -, -, -, hds, -⟩ := hsr
   rw [hds, hdn]
   have hp := hs' (DID + 1)
   rw [hpin] at hp
   obtain ⟨b0, hp1, hp2⟩ := hp
   cases hp2
   obtain ⟨hm2, hE2⟩ := hm'.putRaw hiD hp1 (.deferred none)
   obtain ⟨b1, e1, e2, -⟩ := hm'.objs iD _ hiD
   rw [hp1] at e1; cases e1
   obtain ⟨v, h1, h2, h3⟩ := resA_snd (st := ⟨st'.s, upd st'.m iD (some (.raw (.deferred none)))⟩) hT hm2 (fun t => (hs' t).mono hE2 fun _ _ => rfl) hl hres
   refine ⟨by simp, .inl ⟨_, _, rfl, run_takeDeferred e2, ?_⟩⟩
   exact ⟨v, h1, v, I', rfl, hm2.below, hm2.base, fun b o h => (hm2.old b o h).imp id fun k => ⟨k, hm2.there b o h⟩, h2.mono (Ext.refl _ _) fun j hj => by rw [h3] at hj; simp at hj⟩
 rcases he with rfl | rfl
 ·exact post
 ·exact post
end V
end Go.Proofs.YtnmfbaahabcocaaDoor
end
section
namespace Go.Proofs.YtnmfbaahabcocaaDoor
namespace V
open Go.RowKit C17
attribute [local go_sem] Oper.semAt_some
theorem cok_world {P : Go.Program} {f : FuncId} {args : List A} {r : A} (h : COk P f args Mem.nil r) {W : World} (hg : GlobOk W) {I : Nat → Nat → Prop} (hI : ∀ b o, I b o → b < W.heap.size) {vals : List Value} (hv : ∀ B, RVl B W I args vals) :
  Calls P f vals.toArray W fun e W' => ∃ v I', e = .returned v ∧ Below W.heap.size W W' ∧ (∀ b o, I b o → I' b o) ∧ (∀ b o, I' b o → I b o ∨ (W.heap.size ≤ b ∧ b < W'.heap.size)) ∧ ∃ B, RV B W' I' r v := by
 obtain ⟨-, -, h⟩ := h
 have hm : MR W I (fun _ => undef) I Mem.nil W :=
  ⟨Below.refl _ _, hg, fun _ _ h => h, fun _ _ h => .inl h, hI, (fun _ _ h => by simp [Mem.nil] at h), (fun _ _ h => by simp [Mem.nil] at h), (fun _ _ _ _ h => by simp [Mem.nil] at h), (fun _ _ h => by simp [Mem.nil] at h)⟩
 refine (h Mem.nil (fun _ _ => rfl) W _ _ _ W vals hm (hv _)).mono ?_
 rintro e w' ⟨v, I', rfl, hb, h1, h2, hr⟩
 exact ⟨v, I', rfl, hb, h1, h2, _, hr⟩
theorem prc_cells {w : World} {I : Nat → Nat → Prop} {us : List Value} {p : Prc} (h : RCs w I us (cP p)) : ∃ cv, us = [.string p.cls, .string p.name, .int .i64 p.params, .int .i64 p.regs, cv] ∧ RC w I cv (.sl (p.code.map cIns)) := by
 match us, h with
 | [u1, u2, u3, u4, u5], ⟨h1, h2, h3, h4, h5, _⟩ =>
  have h1 := (RC.toStr h1).1
  have h2 := (RC.toStr h2).1
  have h3 := (RC.toInt h3).1
  have h4 := (RC.toInt h4).1
  subst h1 h2 h3 h4
  exact ⟨u5, rfl, h5⟩
theorem rc_len {w : World} {I : Nat → Nat → Prop} {v : Value} {xs : List (List C)} (h : RC w I v (.sl xs)) : ∃ a cap, v = .slice a xs.length cap ∧ xs.length ≤ maxLen := by
 cases h with
 | @sl a n cap e _ f hn hc hm hl ha hr => subst hn; exact ⟨a, cap, rfl, Nat.le_trans hc hm⟩
theorem rc_zat {w : World} {I : Nat → Nat → Prop} {a : Option Addr} {n cap : Nat} {L : List Int} (h : RC w I (.slice a n cap) (.sl (L.map cZ))) {i : Nat} {z : Int} (hz : L[i]? = some z) : ∃ g o, a = some ⟨g, o, none⟩ ∧ w.cell? ⟨g, o + i, none⟩ = some (.int .i64 z) ∧ (Lit.int .i64 z).wf = true := by
 cases h with
 | @sl _ _ _ e _ f hn hc hm hl ha hr =>
  have hx : (L.map cZ)[i]? = some [.int .i64 z] := by rw [List.getElem?_map, hz]; rfl
  have he : e = 1 := (hl _ (List.mem_of_getElem? hx)).symm
  subst he
  obtain ⟨g, o, ha, hc⟩ := ha i _ hx
  have h0 := RC.toInt (hr i 0 _ _ hx rfl)
  have := (hc 0 (by decide)).2
  rw [h0.1] at this
  exact ⟨g, o, ha, by simpa using this, h0.2⟩
def goL (code : List Ins) (i : Nat) : List Int := match nx code i with
 | [] => [(code.length : Int)]
 | k :: r => k :: r
theorem edI_goL (code : List Ins) (i : Nat) : edI code i = (goL code i).map fun z => (i, z.toNat) := by
 unfold edI goL
 cases nx code i <;> simp
theorem goL_nil {code : List Ins} {i : Nat} (h : nx code i = []) : goL code i = [(code.length : Int)] := by unfold goL; rw [h]
theorem goL_cons {code : List Ins} {i : Nat} (h : nx code i ≠ []) : goL code i = nx code i := by
 unfold goL; split
 ·rename_i e; exact absurd e h
 ·rename_i e; exact e.symm
theorem goL_pos {code : List Ins} (hok : okC code = true) {i : Nat} {z : Int} (h : z ∈ goL code i) : 0 ≤ z ∧ z ≤ code.length := by
 by_cases e : nx code i = []
 ·rw [goL_nil e] at h; simp at h; omega
 ·rw [goL_cons e] at h; have := okC_in hok h; omega
theorem e1_at {code : List Ins} {m j : Nat} (hm : m < code.length) {z : Int} (hz : (goL code m)[j]? = some z) : (e1 code code.length)[(e1 code m).length + j]? = some (m, z.toNat) := by
 have key : ∀ d, m + 1 + d ≤ code.length → (e1 code (m + 1 + d))[(e1 code m).length + j]? = some (m, z.toNat) := fun d => by
  induction d with
  | zero =>
   intro _
   rw [Nat.add_zero, e1_succ, List.getElem?_append_right (by omega), show (e1 code m).length + j - (e1 code m).length = j by omega, edI_goL, List.getElem?_map, hz]
   rfl
  | succ d ih =>
   intro h
   have ih := ih (by omega)
   rw [show m + 1 + (d + 1) = (m + 1 + d) + 1 by omega, e1_succ, List.getElem?_append_left (List.getElem?_eq_some_iff.1 ih).1]
   exact ih
 have := key (code.length - (m + 1)) (by omega)
 rwa [show m + 1 + (code.length - (m + 1)) = code.length by omega] at this
theorem e1_next (code : List Ins) (m : Nat) : (e1 code (m + 1)).length = (e1 code m).length + (goL code m).length := by rw [e1_succ, edI_goL]; simp
theorem rc_fresh {w : World} {I : Nat → Nat → Prop} {z : Int} (hz : (Lit.int .i64 z).wf = true) {t : TypeId} : RC (w.alloc (.cells #[.int .i64 z] t)) (fun b o => I b o ∨ b = w.heap.size) (.slice (some ⟨w.heap.size, 0, none⟩) 1 1) (.sl ([z].map cZ)) := by
 refine RC.sl (e := 1) (fun _ _ => .int .i64 z) rfl (Nat.le_refl _) (by decide) (fun x hx => by simp at hx; subst hx; rfl) (fun i x hx => ⟨w.heap.size, 0, rfl, fun j hj => ⟨.inr rfl, ?_⟩⟩) (fun i j x c hx hc => ?_)
 ·have hi : i = 0 := by have := (List.getElem?_eq_some_iff.1 hx).1; simpa using this
  have hj : j = 0 := by omega
  subst hi hj
  have e := heap_alloc_new w (.cells #[.int .i64 z] t)
  unfold World.cell?
  simp only [Nat.zero_add, Nat.zero_mul, Nat.add_zero]
  rw [e]; rfl
 ·have hi : i = 0 := by have := (List.getElem?_eq_some_iff.1 hx).1; simpa using this
  subst hi
  simp at hx; subst hx
  cases j with
  | zero => simp [cZ] at hc; subst hc; exact .int hz
  | succ j => simp [cZ] at hc
set_option maxRecDepth 100000 in
set_option maxHeartbeats 4000000 in
theorem ways1_v (p : Prc) (hok : okC p.code = true) : IterOk Tryd.prog 42 24 (cP p) ((e1 p.code p.code.length).map cEd) := by
 refine ⟨enters_of Tryd.func42 (by kernel_rfl) rfl, ?_⟩
 intro n hn l b1 us1 J Jx hJ hJR hY W I0 h0
 obtain ⟨cls, name, params, regs, code⟩ := p
 simp only at hok hY ⊢
 obtain ⟨hIW, hgl, hRW, hb1⟩ := hJR _ _ _ h0
 obtain ⟨cv, rfl, hcv⟩ := prc_cells hRW
 simp only at hcv
 obtain ⟨a, cap, rfl, hmx⟩ := rc_len hcv
 rw [List.length_map] at hmx
 generalize hN : code.length = N at *
 have hN2 : N ≤ 2000 := by
  have := hok
  unfold okC at this
  simp only [Bool.and_eq_true, decide_eq_true_eq] at this
  omega
 have HN := Lib.hid hN
 have HOK := Lib.hid hok
 have HY := Lib.hid hY
 have HJ := Lib.hid hJ
 have HJR := Lib.hid hJR
 have HB1 := Lib.hid hb1
 rw [List.length_map, hN] at HB1 HJR
 have c4 : W.cell? ⟨b1, 4, none⟩ = some (.slice a N cap) := by have := HB1.out; simp [World.cell?, this]
 clear hN hok hJ hJR hY hb1 hIW hgl hRW hcv
 refine callsIn_of_wp Tryd.func42 rfl trivial ?_ rfl
 simp only [Tryd.ntmps42, List.size_toArray, List.length_cons, List.length_nil, Nat.reduceAdd, Nat.reduceSub, Array.replicate_succ, Array.replicate_zero, List.push_toArray, List.append_toArray, List.nil_append, List.cons_append]
 gi_wp2
 gi_loopw [10] (fun v10 wr => ∃ (m : Nat) (I : Nat → Nat → Prop), m ≤ N ∧ v10 = .int .i64 m ∧ Hid (J (e1 code m).length I wr)) (fun v10 _ => N - (intOf v10).toNat)
 case atStart => exact ⟨0, I0, by omega, rfl, h0⟩
 case round =>
  obtain ⟨m, I, hm, rfl, HJP⟩ := hrel
  have HC1 := Lib.hid (HJR.out _ _ _ HJP.out).2.2.2
  have d0 : wr.cell? ⟨b1, 0, none⟩ = some (.string cls) := by have := HC1.out; simp [World.cell?, this]
  have d1 : wr.cell? ⟨b1, 1, none⟩ = some (.string name) := by have := HC1.out; simp [World.cell?, this]
  have d2 : wr.cell? ⟨b1, 2, none⟩ = some (.int .i64 params) := by have := HC1.out; simp [World.cell?, this]
  have d3 : wr.cell? ⟨b1, 3, none⟩ = some (.int .i64 regs) := by have := HC1.out; simp [World.cell?, this]
  have d4 : wr.cell? ⟨b1, 4, none⟩ = some (.slice a N cap) := by have := HC1.out; simp [World.cell?, this]
  by_cases hmN : m < N
  ·gi_wp2_with fail
   have hvs : ∀ B, RVl B wr I [.agg (cP ⟨cls, name, params, regs, code⟩), .c (.int .i64 m)] [.agg #[.string cls, .string name, .int .i64 params, .int .i64 regs, .slice a N cap], .int .i64 m] := fun B =>
    ⟨⟨[.string cls, .string name, .int .i64 params, .int .i64 regs, .slice a N cap], rfl, (HJR.out _ _ _ HJP.out).2.2.1⟩, .int (by rw [lit_wf]; show -9223372036854775808 ≤ (m : Int) ∧ (m : Int) ≤ 9223372036854775807; omega), trivial⟩
   refine ⟨trivial, fun h => (by cases h), (callsIn_wide.2 (cok_world (irNext_ok ⟨cls, name, params, regs, code⟩ m (by show code.length ≤ _; rw [HN.out]; omega) (by show m ≤ code.length; rw [HN.out]; omega) Mem.nil) (HJR.out _ _ _ HJP.out).2.1 (HJR.out _ _ _ HJP.out).1 hvs)).mono ?_⟩
   rintro e w2 ⟨v, I2, rfl, hb, h1, h2, B, hrv⟩
   have hrv : RC w2 I2 v (.sl ((nx code m).map cZ)) := hrv
   have HJ2 : Hid (J (e1 code m).length I2 w2) := HJ.out _ _ _ _ _ HJP.out hb h1 h2
   have HC2 := Lib.hid (HJR.out _ _ _ HJ2.out).2.2.2
   have e4 : w2.cell? ⟨b1, 4, none⟩ = some (.slice a N cap) := by have := HC2.out; simp [World.cell?, this]
   clear d0 d1 d2 d3 d4 hb h1 h2 hvs HJP HC1
   by_cases hnil : nx code m = []
   ·rw [hnil] at hrv
    obtain ⟨a2, cap2, rfl, -⟩ := rc_len hrv
    clear hrv
    gi_wp2_with fail
    have hwN : (Lit.int .i64 (N : Int)).wf = true := by rw [lit_wf]; show -9223372036854775808 ≤ (N : Int) ∧ (N : Int) ≤ 9223372036854775807; omega
    have hb := (Below.refl w2.heap.size w2).alloc (Nat.le_refl _) (.cells #[.int .i64 N] 3)
    have hlt : w2.heap.size < (w2.alloc (.cells #[.int .i64 N] 3)).heap.size := by rw [World.size_alloc]; omega
    have HJ3 : Hid (J (e1 code m).length (fun b o => I2 b o ∨ b = w2.heap.size) (w2.alloc (.cells #[.int .i64 N] 3))) := HJ.out _ _ _ _ _ HJ2.out hb (fun _ _ h => .inl h) (fun b o h => h.imp id fun e => by subst e; exact ⟨Nat.le_refl _, hlt⟩)
    have HRC : Hid (RC (w2.alloc (.cells #[.int .i64 N] 3)) (fun b o => I2 b o ∨ b = w2.heap.size) (.slice (some ⟨w2.heap.size, 0, none⟩) 1 1) (.sl ((goL code m).map cZ))) := by
     show RC _ _ _ _
     rw [goL_nil hnil, HN.out]; exact rc_fresh hwN
    have HL : Hid ((goL code m).length = 1) := by show _ = 1; rw [goL_nil hnil]; rfl
    generalize (fun b o => I2 b o ∨ b = w2.heap.size) = I3 at *
    generalize w2.alloc (.cells #[.int .i64 N] 3) = w3 at *
    generalize (some ⟨w2.heap.size, 0, none⟩ : Option Addr) = a3 at *
    clear hb hlt hwN HJ2 HC2 e4
    gi_loopw [25] (fun v25 wr => ∃ (j : Nat) (I : Nat → Nat → Prop), j ≤ 1 ∧ v25 = .int .i64 j ∧ Hid (J ((e1 code m).length + j) I wr) ∧ Hid (RC wr I (.slice a3 1 1) (.sl ((goL code m).map cZ)))) (fun v25 _ => 1 - (intOf v25).toNat)
    case atStart => exact ⟨0, _, Nat.zero_le _, rfl, HJ3.out, HRC.out⟩
    case round =>
     obtain ⟨j, I, hj, rfl, HJP, HRP⟩ := hrel
     by_cases hjN : j < 1
     ·obtain ⟨z, hz⟩ : ∃ z, (goL code m)[j]? = some z := ⟨_, List.getElem?_eq_getElem (by rw [HL.out]; exact hjN)⟩
      obtain ⟨g, o, ea, hcell, hwf⟩ := rc_zat HRP.out hz
      have hz0 := goL_pos HOK.out (List.mem_of_getElem? hz)
      have hat : ((e1 code N).map cEd)[(e1 code m).length + j]? = some (cEd (m, z.toNat)) := by
       have := e1_at (show m < code.length by rw [HN.out]; exact hmN) hz
       rw [HN.out] at this
       rw [List.getElem?_map, this]; rfl
      have hvs : RCs wr I [.int .i64 m, .int .i64 z] (cEd (m, z.toNat)) := by
       refine ⟨.int (by rw [lit_wf]; show -9223372036854775808 ≤ (m : Int) ∧ (m : Int) ≤ 9223372036854775807; omega), ?_, trivial⟩
       show RC wr I (.int .i64 z) (.int .i64 (z.toNat : Int))
       rw [show (z.toNat : Int) = z by omega]
       exact .int hwf
      obtain ⟨fn, tmps, assign, body, hy, hR⟩ := HY.out _ I wr _ _ HJP.out hat hvs
      subst ea
      clear hvs hat hz0 hwf
      gi_wp2
      refine ⟨fun h => (by cases h), hR.mono ?_⟩
      rintro e W3 (⟨rfl, I4, hE4, hJ4⟩ | ⟨rfl, hJx4⟩)
      ·have HJ4 : Hid (J ((e1 code m).length + (j + 1)) I4 W3) := hJ4
       have HR4 : Hid (RC W3 I4 (.slice (some ⟨g, o, none⟩) 1 1) (.sl ((goL code m).map cZ))) := HRP.out.mono hE4
       clear hE4 hJ4 hcell
       gi_wp2
       go_roundw
       case rel => exact ⟨j + 1, I4, by omega, by go_num, HJ4, HR4⟩
       case measure => simp [intOf]; omega
      ·gi_wp2
       refine bodyPost_ret (results_none rfl _ _ _) rfl ?_
       exact ⟨⟨_, rfl⟩, .inr hJx4⟩
     ·obtain rfl : j = 1 := by omega
      have HJ5 : Hid (J (e1 code (m + 1)).length I wr) := by
       show J _ _ _
       rw [e1_next, HL.out]; exact HJP.out
      gi_wp2
      go_roundw
      case rel => exact ⟨m + 1, I, by omega, by go_num, HJ5⟩
      case measure => simp [intOf]; omega
   ·obtain ⟨a3, cap3, rfl, hmx2⟩ := rc_len hrv
    rw [List.length_map] at hrv hmx2 ⊢
    have hpos : 0 < (nx code m).length := List.length_pos_iff.2 hnil
    have HRC : Hid (RC w2 I2 (.slice a3 (nx code m).length cap3) (.sl ((goL code m).map cZ))) := by
     show RC _ _ _ _
     rw [goL_cons hnil]; exact hrv
    have HL : Hid ((goL code m).length = (nx code m).length) := by show _ = _; rw [goL_cons hnil]
    have hl2 := nx_len code m
    generalize hNL : (nx code m).length = NL at *
    have HJ3 := HJ2
    clear hrv
    gi_wp2_with fail
    rw [show ((NL : Int) == 0) = false from by rw [beq_eq_false_iff_ne]; omega]
    gi_loopw [25] (fun v25 wr => ∃ (j : Nat) (I : Nat → Nat → Prop), j ≤ NL ∧ v25 = .int .i64 j ∧ Hid (J ((e1 code m).length + j) I wr) ∧ Hid (RC wr I (.slice a3 NL cap3) (.sl ((goL code m).map cZ)))) (fun v25 _ => NL - (intOf v25).toNat)
    case atStart => exact ⟨0, _, Nat.zero_le _, rfl, HJ3.out, HRC.out⟩
    case round =>
     obtain ⟨j, I, hj, rfl, HJP, HRP⟩ := hrel
     by_cases hjN : j < NL
     ·obtain ⟨z, hz⟩ : ∃ z, (goL code m)[j]? = some z := ⟨_, List.getElem?_eq_getElem (by rw [HL.out]; exact hjN)⟩
      obtain ⟨g, o, ea, hcell, hwf⟩ := rc_zat HRP.out hz
      have hz0 := goL_pos HOK.out (List.mem_of_getElem? hz)
      have hat : ((e1 code N).map cEd)[(e1 code m).length + j]? = some (cEd (m, z.toNat)) := by
       have := e1_at (show m < code.length by rw [HN.out]; exact hmN) hz
       rw [HN.out] at this
       rw [List.getElem?_map, this]; rfl
      have hvs : RCs wr I [.int .i64 m, .int .i64 z] (cEd (m, z.toNat)) := by
       refine ⟨.int (by rw [lit_wf]; show -9223372036854775808 ≤ (m : Int) ∧ (m : Int) ≤ 9223372036854775807; omega), ?_, trivial⟩
       show RC wr I (.int .i64 z) (.int .i64 (z.toNat : Int))
       rw [show (z.toNat : Int) = z by omega]
       exact .int hwf
      obtain ⟨fn, tmps, assign, body, hy, hR⟩ := HY.out _ I wr _ _ HJP.out hat hvs
      subst ea
      clear hvs hat hz0 hwf
      gi_wp2
      refine ⟨fun h => (by cases h), hR.mono ?_⟩
      rintro e W3 (⟨rfl, I4, hE4, hJ4⟩ | ⟨rfl, hJx4⟩)
      ·have HJ4 : Hid (J ((e1 code m).length + (j + 1)) I4 W3) := hJ4
       have HR4 : Hid (RC W3 I4 (.slice (some ⟨g, o, none⟩) NL cap3) (.sl ((goL code m).map cZ))) := HRP.out.mono hE4
       clear hE4 hJ4 hcell
       gi_wp2
       go_roundw
       case rel => exact ⟨j + 1, I4, by omega, by go_num, HJ4, HR4⟩
       case measure => simp [intOf]; omega
      ·gi_wp2
       refine bodyPost_ret (results_none rfl _ _ _) rfl ?_
       exact ⟨⟨_, rfl⟩, .inr hJx4⟩
     ·obtain rfl : j = NL := by omega
      have HJ5 : Hid (J (e1 code (m + 1)).length I wr) := by
       show J _ _ _
       rw [e1_next, HL.out]; exact HJP.out
      gi_wp2
      go_roundw
      case rel => exact ⟨m + 1, I, by omega, by go_num, HJ5⟩
      case measure => simp [intOf]; omega
  ·obtain rfl : m = N := by omega
   gi_wp2
   go_end0
   exact ⟨⟨_, rfl⟩, .inl ⟨I, by rw [List.length_map]; exact HJP.out⟩⟩
end V
end Go.Proofs.YtnmfbaahabcocaaDoor
end
