/- Joined by my own program, in build order: Rtx, La3, LawEx3. -/
import Derived.Test.YtbmbmcdaabhgnaaDoorE17
import Derived.Test.YtbmbmcdaabhgnaaDoorE14
import Derived.Test.YtbmbmcdaabhgnaaDoorCards
import Derived.Test.YtbmbmcdaabhgnaaDoorTie
set_option linter.unusedVariables false
set_option linter.unusedSimpArgs false
section
set_option linter.unusedVariables false
set_option linter.unusedSimpArgs false
namespace Go.Proofs.YtbmbmcdaabhgnaaDoor
namespace V
open Go.RowKit
theorem one_of {kids : List Expr} (h1 : (1 : Int) ≤ (kids.length : Int)) (h2 : (kids.length : Int) ≤ 1) : ∃ y, kids = [y] := by
  match kids, (by omega : kids.length = 1) with
  | [y], _ => exact ⟨y, rfl⟩
theorem two_of {kids : List Expr} (h1 : (2 : Int) ≤ (kids.length : Int)) (h2 : (kids.length : Int) ≤ 2) : ∃ y y2, kids = [y, y2] := by
  match kids, (by omega : kids.length = 2) with
  | [y, y2], _ => exact ⟨y, y2, rfl⟩
theorem rowsE : ∀ (l : List Expr), ∀ x ∈ cExprs l, x.length = 4
  | [], x, h => by simp [cExprs] at h
  | y :: l, x, h => by
    simp only [cExprs, List.mem_cons] at h
    rcases h with rfl | h
    · cases y; rfl
    · exact rowsE l x h
theorem five_of {kids : List Expr} (h1 : (1 : Int) ≤ (kids.length : Int)) (h2 : (kids.length : Int) ≤ 5) : ∃ y r, kids = y :: r ∧ r.length ≤ 100 := by
  match kids, h1 with
  | y :: r, _ => exact ⟨y, r, rfl, by simp at h2; omega⟩
theorem cntE_mem : ∀ {l : List Expr} {y : Expr}, y ∈ l → cntE y ≤ cntEs l
  | x :: l, y, h => by
    simp only [cntEs]
    rcases List.mem_cons.1 h with rfl | h
    · omega
    · have := cntE_mem h; omega
set_option maxHeartbeats 8000000 in
theorem text_ok : ∀ (z : Nat) (x : Expr), SizeOf.sizeOf x ≤ z → exprB x = true → cntE x ≤ 1048576 → ∀ m, COk Tryd.prog 19 [.agg (cExpr x)] m (.c (.str (strX (textX x)))) := by
  intro z
  induction z using Nat.strongRecOn with
  | ind z ih =>
  intro x hz hx hc m
  have hfit := textX_len x hx
  obtain ⟨k, n, nm, kids⟩ := x
  obtain ⟨nl, rfl⟩ : ∃ nl, nm = strX nl := ⟨_, strX_of nm⟩
  rw [exprB_eq] at hx
  obtain ⟨htop, hkids⟩ := Bool.and_eq_true_iff.1 hx
  have hA : ∀ y ∈ kids, ∀ (want : Int) (m : Mem), COk Tryd.prog 46 [.agg (cExpr y), .c (.int .i64 want)] m (.c (.str (strX (exprX y want)))) := fun y hy => by
    have hb := List.all_eq_true.1 hkids y hy
    have hcy : cntE y ≤ 1048576 := by
      have := cntE_mem hy
      simp only [cntE] at hc
      omega
    exact at_ok hb hcy (ih (SizeOf.sizeOf y) (by
      have h1 := List.sizeOf_lt_of_mem hy
      have h2 := Expr.mk.sizeOf_spec k n (strX nl) kids
      omega) y (Nat.le_refl _) hb hcy)
  rw [exprTop_eq] at htop
  simp only [Bool.and_eq_true, decide_eq_true_eq] at htop
  obtain ⟨⟨⟨⟨⟨hkk, hlo⟩, hhi⟩, hn0⟩, hn1⟩, hnm⟩ := htop
  have hk : 1 ≤ k ∧ k ≤ 18 := by
    by_cases hk : 1 ≤ k ∧ k ≤ 18
    · exact hk
    · unfold shapeOf at hkk; rw [if_neg hk] at hkk; cases hkk
  have hfit : (textX ⟨k, n, strX nl, kids⟩).length ≤ 100000000 := by omega
  clear hnm hx hkids ih hz hc hkk
  simp only [cExpr]
  have hcase : k = 1 ∨ k = 2 ∨ k = 3 ∨ k = 4 ∨ k = 5 ∨ k = 6 ∨ k = 7 ∨ k = 8 ∨ k = 9 ∨ k = 10 ∨ k = 11 ∨ k = 12 ∨ k = 13 ∨ k = 14 ∨ k = 15 ∨ k = 16 ∨ k = 17 ∨ k = 18 := by omega
  rcases hcase with rfl | rfl | rfl | rfl | rfl | rfl | rfl | rfl | rfl | rfl | rfl | rfl | rfl | rfl | rfl | rfl | rfl | rfl
  · have hT : textX ⟨1, n, strX nl, kids⟩ = Lib.itoa n := by simp [textX, bodyX]
    rw [hT]
    refine (ok_pure tab_ok Tryd.func19 (by kernel_rfl) rfl rfl (by rfl) (by rfl) (by rfl) (fun R hkeep => ?_) m)
    repeat (first | refine W.seq ?_ | refine W.block ?_ | refine W.skip ?_ | refine W.exit ?_ | refine W.region tab_ok 0 (by decide) (exec_run (by simp only [exa, beq_self_eq_true, ByteArray.size, Nat.reduceAdd, Nat.reduceLeDiff, Nat.reduceEqDiff, Nat.reduceMul, Int.reduceToNat, reduceIte, Int.reduceLE, Int.reduceNeg]; rfl)) ?_)
    refine W.cond rfl (fun _ => ?_) (fun h => absurd h (by decide))
    (repeat (first | refine W.seq ?_ | refine W.block ?_ | refine W.skip ?_ | refine W.exit ?_))
    refine W.regionK tab_ok 0 (by decide) ?_
    refine runk_split 2 (by simp only [exa, beq_self_eq_true, ByteArray.size, Nat.reduceAdd, Nat.reduceLeDiff, Nat.reduceEqDiff, Nat.reduceMul, Int.reduceToNat, reduceIte, Int.reduceLE, Int.reduceNeg]; rfl) ?_
    refine runk_call rfl rfl rfl rfl rfl (by simp) (cvs_cons cv_refl cvs_nil) (num01_ok n hn0 (Int.le_trans hn1 (by decide)) _) ?_
    refine runk_exec (by simp only [exa, beq_self_eq_true, ByteArray.size, Nat.reduceAdd, Nat.reduceLeDiff, Nat.reduceEqDiff, Nat.reduceMul, Int.reduceToNat, reduceIte, Int.reduceLE, Int.reduceNeg]; rfl) ?_
    refine W.ret ⟨.inr rfl, by rfl, ?_⟩
    simp only [Tryd.f19, resA, resOne, toT, fin, exa, beq_self_eq_true, ByteArray.size, Nat.reduceAdd, Nat.reduceLeDiff, Nat.reduceEqDiff, Nat.reduceMul, Int.reduceToNat, reduceIte, Int.reduceLE, Int.reduceNeg]
  · have hT : textX ⟨2, n, strX nl, kids⟩ = [110, 117, 108, 108] := by simp [textX, bodyX]
    rw [hT]
    refine (ok_pure tab_ok Tryd.func19 (by kernel_rfl) rfl rfl (by rfl) (by rfl) (by rfl) (fun R hkeep => ?_) m)
    repeat (first | refine W.seq ?_ | refine W.block ?_ | refine W.skip ?_ | refine W.exit ?_ | refine W.region tab_ok 0 (by decide) (exec_run (by simp only [exa, beq_self_eq_true, ByteArray.size, Nat.reduceAdd, Nat.reduceLeDiff, Nat.reduceEqDiff, Nat.reduceMul, Int.reduceToNat, reduceIte, Int.reduceLE, Int.reduceNeg]; rfl)) ?_)
    iterate 1 (refine W.cond rfl (fun h => absurd h (by decide)) (fun _ => ?_); repeat (first | refine W.seq ?_ | refine W.block ?_ | refine W.skip ?_ | refine W.exit ?_ | refine W.region tab_ok 0 (by decide) (exec_run (by simp only [exa, beq_self_eq_true, ByteArray.size, Nat.reduceAdd, Nat.reduceLeDiff, Nat.reduceEqDiff, Nat.reduceMul, Int.reduceToNat, reduceIte, Int.reduceLE, Int.reduceNeg]; rfl)) ?_))
    refine W.cond rfl (fun _ => ?_) (fun h => absurd h (by decide))
    (repeat (first | refine W.seq ?_ | refine W.block ?_ | refine W.skip ?_ | refine W.exit ?_))
    repeat (first | refine W.seq ?_ | refine W.block ?_ | refine W.skip ?_ | refine W.exit ?_ | refine W.region tab_ok 0 (by decide) (exec_run (by simp only [exa, beq_self_eq_true, ByteArray.size, Nat.reduceAdd, Nat.reduceLeDiff, Nat.reduceEqDiff, Nat.reduceMul, Int.reduceToNat, reduceIte, Int.reduceLE, Int.reduceNeg]; rfl)) ?_)
    refine W.ret ⟨.inr rfl, by rfl, ?_⟩
    simp only [Tryd.f19, resA, resOne, toT, fin, exa, beq_self_eq_true, ByteArray.size, Nat.reduceAdd, Nat.reduceLeDiff, Nat.reduceEqDiff, Nat.reduceMul, Int.reduceToNat, reduceIte, Int.reduceLE, Int.reduceNeg]
  · have hT : textX ⟨3, n, strX nl, kids⟩ = [116, 104, 105, 115] := by simp [textX, bodyX]
    rw [hT]
    refine (ok_pure tab_ok Tryd.func19 (by kernel_rfl) rfl rfl (by rfl) (by rfl) (by rfl) (fun R hkeep => ?_) m)
    repeat (first | refine W.seq ?_ | refine W.block ?_ | refine W.skip ?_ | refine W.exit ?_ | refine W.region tab_ok 0 (by decide) (exec_run (by simp only [exa, beq_self_eq_true, ByteArray.size, Nat.reduceAdd, Nat.reduceLeDiff, Nat.reduceEqDiff, Nat.reduceMul, Int.reduceToNat, reduceIte, Int.reduceLE, Int.reduceNeg]; rfl)) ?_)
    iterate 2 (refine W.cond rfl (fun h => absurd h (by decide)) (fun _ => ?_); repeat (first | refine W.seq ?_ | refine W.block ?_ | refine W.skip ?_ | refine W.exit ?_ | refine W.region tab_ok 0 (by decide) (exec_run (by simp only [exa, beq_self_eq_true, ByteArray.size, Nat.reduceAdd, Nat.reduceLeDiff, Nat.reduceEqDiff, Nat.reduceMul, Int.reduceToNat, reduceIte, Int.reduceLE, Int.reduceNeg]; rfl)) ?_))
    refine W.cond rfl (fun _ => ?_) (fun h => absurd h (by decide))
    (repeat (first | refine W.seq ?_ | refine W.block ?_ | refine W.skip ?_ | refine W.exit ?_))
    repeat (first | refine W.seq ?_ | refine W.block ?_ | refine W.skip ?_ | refine W.exit ?_ | refine W.region tab_ok 0 (by decide) (exec_run (by simp only [exa, beq_self_eq_true, ByteArray.size, Nat.reduceAdd, Nat.reduceLeDiff, Nat.reduceEqDiff, Nat.reduceMul, Int.reduceToNat, reduceIte, Int.reduceLE, Int.reduceNeg]; rfl)) ?_)
    refine W.ret ⟨.inr rfl, by rfl, ?_⟩
    simp only [Tryd.f19, resA, resOne, toT, fin, exa, beq_self_eq_true, ByteArray.size, Nat.reduceAdd, Nat.reduceLeDiff, Nat.reduceEqDiff, Nat.reduceMul, Int.reduceToNat, reduceIte, Int.reduceLE, Int.reduceNeg]
  · have hT : textX ⟨4, n, strX nl, kids⟩ = nl := by simp [textX, bodyX, strX]
    rw [hT]
    refine (ok_pure tab_ok Tryd.func19 (by kernel_rfl) rfl rfl (by rfl) (by rfl) (by rfl) (fun R hkeep => ?_) m)
    repeat (first | refine W.seq ?_ | refine W.block ?_ | refine W.skip ?_ | refine W.exit ?_ | refine W.region tab_ok 0 (by decide) (exec_run (by simp only [exa, beq_self_eq_true, ByteArray.size, Nat.reduceAdd, Nat.reduceLeDiff, Nat.reduceEqDiff, Nat.reduceMul, Int.reduceToNat, reduceIte, Int.reduceLE, Int.reduceNeg]; rfl)) ?_)
    iterate 3 (refine W.cond rfl (fun h => absurd h (by decide)) (fun _ => ?_); repeat (first | refine W.seq ?_ | refine W.block ?_ | refine W.skip ?_ | refine W.exit ?_ | refine W.region tab_ok 0 (by decide) (exec_run (by simp only [exa, beq_self_eq_true, ByteArray.size, Nat.reduceAdd, Nat.reduceLeDiff, Nat.reduceEqDiff, Nat.reduceMul, Int.reduceToNat, reduceIte, Int.reduceLE, Int.reduceNeg]; rfl)) ?_))
    refine W.cond rfl (fun _ => ?_) (fun h => absurd h (by decide))
    (repeat (first | refine W.seq ?_ | refine W.block ?_ | refine W.skip ?_ | refine W.exit ?_))
    repeat (first | refine W.seq ?_ | refine W.block ?_ | refine W.skip ?_ | refine W.exit ?_ | refine W.region tab_ok 0 (by decide) (exec_run (by simp only [exa, beq_self_eq_true, ByteArray.size, Nat.reduceAdd, Nat.reduceLeDiff, Nat.reduceEqDiff, Nat.reduceMul, Int.reduceToNat, reduceIte, Int.reduceLE, Int.reduceNeg]; rfl)) ?_)
    refine W.ret ⟨.inr rfl, by rfl, ?_⟩
    simp only [Tryd.f19, resA, resOne, toT, fin, exa, beq_self_eq_true, ByteArray.size, Nat.reduceAdd, Nat.reduceLeDiff, Nat.reduceEqDiff, Nat.reduceMul, Int.reduceToNat, reduceIte, Int.reduceLE, Int.reduceNeg]
  · have hT : textX ⟨5, n, strX nl, kids⟩ = [110, 101, 119, 32] ++ nl ++ [40, 41] := by simp [textX, bodyX, strX]
    rw [hT] at hfit ⊢
    simp only [List.length_append, List.length_cons, List.length_nil] at hfit
    refine (ok_pure tab_ok Tryd.func19 (by kernel_rfl) rfl rfl (by rfl) (by rfl) (by rfl) (fun R hkeep => ?_) m)
    repeat (first | refine W.seq ?_ | refine W.block ?_ | refine W.skip ?_ | refine W.exit ?_ | refine W.region tab_ok 0 (by decide) (exec_run (by simp only [exa, beq_self_eq_true, ByteArray.size, Nat.reduceAdd, Nat.reduceLeDiff, Nat.reduceEqDiff, Nat.reduceMul, Int.reduceToNat, reduceIte, Int.reduceLE, Int.reduceNeg]; rfl)) ?_)
    iterate 4 (refine W.cond rfl (fun h => absurd h (by decide)) (fun _ => ?_); repeat (first | refine W.seq ?_ | refine W.block ?_ | refine W.skip ?_ | refine W.exit ?_ | refine W.region tab_ok 0 (by decide) (exec_run (by simp only [exa, beq_self_eq_true, ByteArray.size, Nat.reduceAdd, Nat.reduceLeDiff, Nat.reduceEqDiff, Nat.reduceMul, Int.reduceToNat, reduceIte, Int.reduceLE, Int.reduceNeg]; rfl)) ?_))
    refine W.cond rfl (fun _ => ?_) (fun h => absurd h (by decide))
    (repeat (first | refine W.seq ?_ | refine W.block ?_ | refine W.skip ?_ | refine W.exit ?_))
    refine W.regionK tab_ok 0 (by decide) ?_
    refine runk_exec (by simp (disch := omega) only [exa, beq_self_eq_true, ByteArray.size, Nat.reduceAdd, Nat.reduceLeDiff, Nat.reduceEqDiff, Nat.reduceMul, Int.reduceToNat, reduceIte, Int.reduceLE, Int.reduceNeg, app_bytes, if_le, List.length_append, List.length_cons, List.length_nil]; rfl) ?_
    refine W.ret ⟨.inr rfl, by rfl, ?_⟩
    simp only [Tryd.f19, resA, resOne, toT, fin, exa, beq_self_eq_true, ByteArray.size, Nat.reduceAdd, Nat.reduceLeDiff, Nat.reduceEqDiff, Nat.reduceMul, Int.reduceToNat, reduceIte, Int.reduceLE, Int.reduceNeg]
  · obtain ⟨⟨yk, yn, ym, ys⟩, rfl⟩ : ∃ y, kids = [y] := one_of hlo hhi
    have hT : textX ⟨6, n, strX nl, [⟨yk, yn, ym, ys⟩]⟩ = [110, 101, 119, 32, 105, 110, 116, 91] ++ exprX ⟨yk, yn, ym, ys⟩ 1 ++ [93] := by rw [textX_eq]; rfl
    have hy := hA ⟨yk, yn, ym, ys⟩ (by simp) 1
    rw [hT] at hfit ⊢
    simp only [List.length_append, List.length_cons, List.length_nil] at hfit
    obtain ⟨Y, hY⟩ : ∃ Y, exprX ⟨yk, yn, ym, ys⟩ 1 = Y := ⟨_, rfl⟩
    rw [hY] at hy hfit ⊢
    clear hY hT hA
    simp only [cExpr, cExprs] at hy ⊢
    refine (ok_pure tab_ok Tryd.func19 (by kernel_rfl) rfl rfl (by rfl) (by rfl) (by rfl) (fun R hkeep => ?_) m)
    repeat (first | refine W.seq ?_ | refine W.block ?_ | refine W.skip ?_ | refine W.exit ?_ | refine W.region tab_ok 0 (by decide) (exec_run (by simp only [exa, beq_self_eq_true, ByteArray.size, Nat.reduceAdd, Nat.reduceLeDiff, Nat.reduceEqDiff, Nat.reduceMul, Int.reduceToNat, reduceIte, Int.reduceLE, Int.reduceNeg]; rfl)) ?_)
    iterate 5 (refine W.cond rfl (fun h => absurd h (by decide)) (fun _ => ?_); repeat (first | refine W.seq ?_ | refine W.block ?_ | refine W.skip ?_ | refine W.exit ?_ | refine W.region tab_ok 0 (by decide) (exec_run (by simp only [exa, beq_self_eq_true, ByteArray.size, Nat.reduceAdd, Nat.reduceLeDiff, Nat.reduceEqDiff, Nat.reduceMul, Int.reduceToNat, reduceIte, Int.reduceLE, Int.reduceNeg]; rfl)) ?_))
    refine W.cond rfl (fun _ => ?_) (fun h => absurd h (by decide))
    (repeat (first | refine W.seq ?_ | refine W.block ?_ | refine W.skip ?_ | refine W.exit ?_))
    refine W.regionK tab_ok 0 (by decide) ?_
    refine runk_split 4 (by simp only [exa, beq_self_eq_true, ByteArray.size, Nat.reduceAdd, Nat.reduceLeDiff, Nat.reduceEqDiff, Nat.reduceMul, Int.reduceToNat, reduceIte, Int.reduceLE, Int.reduceNeg]; rfl) ?_
    refine runk_call rfl rfl rfl rfl rfl (by simp) (cvs_cons cv_refl (cvs_cons cv_refl cvs_nil)) (hy _) ?_
    refine runk_exec (by simp (disch := omega) only [exa, beq_self_eq_true, ByteArray.size, Nat.reduceAdd, Nat.reduceLeDiff, Nat.reduceEqDiff, Nat.reduceMul, Int.reduceToNat, reduceIte, Int.reduceLE, Int.reduceNeg, app_bytes, if_le, List.length_append, List.length_cons, List.length_nil]; rfl) ?_
    refine W.ret ⟨.inr rfl, by rfl, ?_⟩
    simp only [Tryd.f19, resA, resOne, toT, fin, exa, beq_self_eq_true, ByteArray.size, Nat.reduceAdd, Nat.reduceLeDiff, Nat.reduceEqDiff, Nat.reduceMul, Int.reduceToNat, reduceIte, Int.reduceLE, Int.reduceNeg]
    all_goals (try simp [List.append_assoc])
  · obtain ⟨⟨yk, yn, ym, ys⟩, rfl⟩ : ∃ y, kids = [y] := one_of hlo hhi
    have hT : textX ⟨7, n, strX nl, [⟨yk, yn, ym, ys⟩]⟩ = exprX ⟨yk, yn, ym, ys⟩ 4 ++ [46] ++ nl := by rw [textX_eq]; rfl
    have hy := hA ⟨yk, yn, ym, ys⟩ (by simp) 4
    rw [hT] at hfit ⊢
    simp only [List.length_append, List.length_cons, List.length_nil] at hfit
    obtain ⟨Y, hY⟩ : ∃ Y, exprX ⟨yk, yn, ym, ys⟩ 4 = Y := ⟨_, rfl⟩
    rw [hY] at hy hfit ⊢
    clear hY hT hA
    simp only [cExpr, cExprs] at hy ⊢
    refine (ok_pure tab_ok Tryd.func19 (by kernel_rfl) rfl rfl (by rfl) (by rfl) (by rfl) (fun R hkeep => ?_) m)
    repeat (first | refine W.seq ?_ | refine W.block ?_ | refine W.skip ?_ | refine W.exit ?_ | refine W.region tab_ok 0 (by decide) (exec_run (by simp only [exa, beq_self_eq_true, ByteArray.size, Nat.reduceAdd, Nat.reduceLeDiff, Nat.reduceEqDiff, Nat.reduceMul, Int.reduceToNat, reduceIte, Int.reduceLE, Int.reduceNeg]; rfl)) ?_)
    iterate 6 (refine W.cond rfl (fun h => absurd h (by decide)) (fun _ => ?_); repeat (first | refine W.seq ?_ | refine W.block ?_ | refine W.skip ?_ | refine W.exit ?_ | refine W.region tab_ok 0 (by decide) (exec_run (by simp only [exa, beq_self_eq_true, ByteArray.size, Nat.reduceAdd, Nat.reduceLeDiff, Nat.reduceEqDiff, Nat.reduceMul, Int.reduceToNat, reduceIte, Int.reduceLE, Int.reduceNeg]; rfl)) ?_))
    refine W.cond rfl (fun _ => ?_) (fun h => absurd h (by decide))
    (repeat (first | refine W.seq ?_ | refine W.block ?_ | refine W.skip ?_ | refine W.exit ?_))
    refine W.regionDK tab_ok 0 follows_mixed (by kernel_rfl) (by decide) ?_
    refine runk_split 4 (by simp only [exa, beq_self_eq_true, ByteArray.size, Nat.reduceAdd, Nat.reduceLeDiff, Nat.reduceEqDiff, Nat.reduceMul, Int.reduceToNat, reduceIte, Int.reduceLE, Int.reduceNeg]; rfl) ?_
    refine runk_call rfl rfl rfl rfl rfl (by simp) (cvs_cons cv_refl (cvs_cons cv_refl cvs_nil)) (hy _) ?_
    refine runk_exec (by simp (disch := omega) only [exa, beq_self_eq_true, ByteArray.size, Nat.reduceAdd, Nat.reduceLeDiff, Nat.reduceEqDiff, Nat.reduceMul, Int.reduceToNat, reduceIte, Int.reduceLE, Int.reduceNeg, app_bytes, if_le, List.length_append, List.length_cons, List.length_nil]; rfl) ?_
    refine W.ret ⟨.inr rfl, by rfl, ?_⟩
    simp only [Tryd.f19, resA, resOne, toT, fin, exa, beq_self_eq_true, ByteArray.size, Nat.reduceAdd, Nat.reduceLeDiff, Nat.reduceEqDiff, Nat.reduceMul, Int.reduceToNat, reduceIte, Int.reduceLE, Int.reduceNeg]
    all_goals (try simp [List.append_assoc])
  · obtain ⟨⟨yk, yn, ym, ys⟩, ⟨zk, zn, zm, zs⟩, rfl⟩ : ∃ y y2, kids = [y, y2] := two_of hlo hhi
    have hT : textX ⟨8, n, strX nl, [⟨yk, yn, ym, ys⟩, ⟨zk, zn, zm, zs⟩]⟩ = exprX ⟨yk, yn, ym, ys⟩ 4 ++ [91] ++ exprX ⟨zk, zn, zm, zs⟩ 1 ++ [93] := by rw [textX_eq]; rfl
    have hy := hA ⟨yk, yn, ym, ys⟩ (by simp) 4
    have hz := hA ⟨zk, zn, zm, zs⟩ (by simp) 1
    rw [hT] at hfit ⊢
    simp only [List.length_append, List.length_cons, List.length_nil] at hfit
    obtain ⟨Y, hY⟩ : ∃ Y, exprX ⟨yk, yn, ym, ys⟩ 4 = Y := ⟨_, rfl⟩
    obtain ⟨Z, hZ⟩ : ∃ Z, exprX ⟨zk, zn, zm, zs⟩ 1 = Z := ⟨_, rfl⟩
    rw [hY] at hy hfit ⊢
    rw [hZ] at hz hfit ⊢
    clear hY hZ hT hA
    simp only [cExpr, cExprs] at hy hz ⊢
    refine (ok_pure tab_ok Tryd.func19 (by kernel_rfl) rfl rfl (by rfl) (by rfl) (by rfl) (fun R hkeep => ?_) m)
    repeat (first | refine W.seq ?_ | refine W.block ?_ | refine W.skip ?_ | refine W.exit ?_ | refine W.region tab_ok 0 (by decide) (exec_run (by simp only [exa, beq_self_eq_true, ByteArray.size, Nat.reduceAdd, Nat.reduceLeDiff, Nat.reduceEqDiff, Nat.reduceMul, Int.reduceToNat, reduceIte, Int.reduceLE, Int.reduceNeg]; rfl)) ?_)
    iterate 7 (refine W.cond rfl (fun h => absurd h (by decide)) (fun _ => ?_); repeat (first | refine W.seq ?_ | refine W.block ?_ | refine W.skip ?_ | refine W.exit ?_ | refine W.region tab_ok 0 (by decide) (exec_run (by simp only [exa, beq_self_eq_true, ByteArray.size, Nat.reduceAdd, Nat.reduceLeDiff, Nat.reduceEqDiff, Nat.reduceMul, Int.reduceToNat, reduceIte, Int.reduceLE, Int.reduceNeg]; rfl)) ?_))
    refine W.cond rfl (fun _ => ?_) (fun h => absurd h (by decide))
    (repeat (first | refine W.seq ?_ | refine W.block ?_ | refine W.skip ?_ | refine W.exit ?_))
    refine W.regionDK tab_ok 0 follows_mixed (by kernel_rfl) (by decide) ?_
    refine runk_split 4 (by simp only [exa, beq_self_eq_true, ByteArray.size, Nat.reduceAdd, Nat.reduceLeDiff, Nat.reduceEqDiff, Nat.reduceMul, Int.reduceToNat, reduceIte, Int.reduceLE, Int.reduceNeg]; rfl) ?_
    refine runk_call rfl rfl rfl rfl rfl (by simp) (cvs_cons cv_refl (cvs_cons cv_refl cvs_nil)) (hy _) ?_
    refine runk_split 5 (by simp (disch := omega) only [exa, beq_self_eq_true, ByteArray.size, Nat.reduceAdd, Nat.reduceLeDiff, Nat.reduceEqDiff, Nat.reduceMul, Int.reduceToNat, reduceIte, Int.reduceLE, Int.reduceNeg, app_bytes, if_le, List.length_append, List.length_cons, List.length_nil]; rfl) ?_
    refine runk_call rfl rfl rfl rfl rfl (by simp) (cvs_cons cv_refl (cvs_cons cv_refl cvs_nil)) (hz _) ?_
    refine runk_exec (by simp (disch := omega) only [exa, beq_self_eq_true, ByteArray.size, Nat.reduceAdd, Nat.reduceLeDiff, Nat.reduceEqDiff, Nat.reduceMul, Int.reduceToNat, reduceIte, Int.reduceLE, Int.reduceNeg, app_bytes, if_le, List.length_append, List.length_cons, List.length_nil]; rfl) ?_
    refine W.ret ⟨.inr rfl, by rfl, ?_⟩
    simp only [Tryd.f19, resA, resOne, toT, fin, exa, beq_self_eq_true, ByteArray.size, Nat.reduceAdd, Nat.reduceLeDiff, Nat.reduceEqDiff, Nat.reduceMul, Int.reduceToNat, reduceIte, Int.reduceLE, Int.reduceNeg]
    all_goals (try simp [List.append_assoc])
  · obtain ⟨⟨yk, yn, ym, ys⟩, rfl⟩ : ∃ y, kids = [y] := one_of hlo hhi
    have hT : textX ⟨9, n, strX nl, [⟨yk, yn, ym, ys⟩]⟩ = exprX ⟨yk, yn, ym, ys⟩ 4 ++ [46, 108, 101, 110, 103, 116, 104] := by rw [textX_eq]; rfl
    have hy := hA ⟨yk, yn, ym, ys⟩ (by simp) 4
    rw [hT] at hfit ⊢
    simp only [List.length_append, List.length_cons, List.length_nil] at hfit
    obtain ⟨Y, hY⟩ : ∃ Y, exprX ⟨yk, yn, ym, ys⟩ 4 = Y := ⟨_, rfl⟩
    rw [hY] at hy hfit ⊢
    clear hY hT hA
    simp only [cExpr, cExprs] at hy ⊢
    refine (ok_pure tab_ok Tryd.func19 (by kernel_rfl) rfl rfl (by rfl) (by rfl) (by rfl) (fun R hkeep => ?_) m)
    repeat (first | refine W.seq ?_ | refine W.block ?_ | refine W.skip ?_ | refine W.exit ?_ | refine W.region tab_ok 0 (by decide) (exec_run (by simp only [exa, beq_self_eq_true, ByteArray.size, Nat.reduceAdd, Nat.reduceLeDiff, Nat.reduceEqDiff, Nat.reduceMul, Int.reduceToNat, reduceIte, Int.reduceLE, Int.reduceNeg]; rfl)) ?_)
    iterate 8 (refine W.cond rfl (fun h => absurd h (by decide)) (fun _ => ?_); repeat (first | refine W.seq ?_ | refine W.block ?_ | refine W.skip ?_ | refine W.exit ?_ | refine W.region tab_ok 0 (by decide) (exec_run (by simp only [exa, beq_self_eq_true, ByteArray.size, Nat.reduceAdd, Nat.reduceLeDiff, Nat.reduceEqDiff, Nat.reduceMul, Int.reduceToNat, reduceIte, Int.reduceLE, Int.reduceNeg]; rfl)) ?_))
    refine W.cond rfl (fun _ => ?_) (fun h => absurd h (by decide))
    (repeat (first | refine W.seq ?_ | refine W.block ?_ | refine W.skip ?_ | refine W.exit ?_))
    refine W.regionK tab_ok 0 (by decide) ?_
    refine runk_split 4 (by simp only [exa, beq_self_eq_true, ByteArray.size, Nat.reduceAdd, Nat.reduceLeDiff, Nat.reduceEqDiff, Nat.reduceMul, Int.reduceToNat, reduceIte, Int.reduceLE, Int.reduceNeg]; rfl) ?_
    refine runk_call rfl rfl rfl rfl rfl (by simp) (cvs_cons cv_refl (cvs_cons cv_refl cvs_nil)) (hy _) ?_
    refine runk_exec (by simp (disch := omega) only [exa, beq_self_eq_true, ByteArray.size, Nat.reduceAdd, Nat.reduceLeDiff, Nat.reduceEqDiff, Nat.reduceMul, Int.reduceToNat, reduceIte, Int.reduceLE, Int.reduceNeg, app_bytes, if_le, List.length_append, List.length_cons, List.length_nil]; rfl) ?_
    refine W.ret ⟨.inr rfl, by rfl, ?_⟩
    simp only [Tryd.f19, resA, resOne, toT, fin, exa, beq_self_eq_true, ByteArray.size, Nat.reduceAdd, Nat.reduceLeDiff, Nat.reduceEqDiff, Nat.reduceMul, Int.reduceToNat, reduceIte, Int.reduceLE, Int.reduceNeg]
    all_goals (try simp [List.append_assoc])
  · obtain ⟨⟨yk, yn, ym, ys⟩, r, rfl, hlen⟩ : ∃ y r, kids = y :: r ∧ r.length ≤ 100 := five_of hlo hhi
    have hT : textX ⟨10, n, strX nl, ⟨yk, yn, ym, ys⟩ :: r⟩ = exprX ⟨yk, yn, ym, ys⟩ 4 ++ [46] ++ nl ++ [40] ++ listE r ++ [41] := by rw [textX_eq, ← listX_eq]; rfl
    have hy := hA ⟨yk, yn, ym, ys⟩ (by simp) 4
    have hr : ∀ y ∈ r, ∀ (want : Int) (m : Mem), COk Tryd.prog 46 [.agg (cExpr y), .c (.int .i64 want)] m (.c (.str (strX (exprX y want)))) := fun y hy => hA y (List.mem_cons_of_mem _ hy)
    rw [hT] at hfit ⊢
    obtain ⟨Y, hY⟩ : ∃ Y, exprX ⟨yk, yn, ym, ys⟩ 4 = Y := ⟨_, rfl⟩
    rw [hY] at hy hfit ⊢
    have hsl := eq_true (Or.inr (rowsE (⟨yk, yn, ym, ys⟩ :: r)) : False ∨ ∀ x ∈ [C.int .i64 yk, C.int .i64 yn, C.str ym, C.sl (cExprs ys)] :: cExprs r, x.length = 4)
    clear hY hT hA
    obtain ⟨A0, hA0⟩ : ∃ A0, A0 = Y ++ [46] ++ nl ++ [40] := ⟨_, rfl⟩
    have hlA : A0.length = Y.length + 1 + nl.length + 1 := by rw [hA0]; simp; omega
    have hfit2 : A0.length + (listE r).length + 1 ≤ 100000000 := by
      simp only [List.length_append, List.length_cons, List.length_nil] at hfit
      omega
    simp only [List.length_append, List.length_cons, List.length_nil] at hfit
    simp only [cExpr, cExprs] at hy ⊢
    refine (ok_pure tab_ok Tryd.func19 (by kernel_rfl) rfl rfl (by rfl) (by rfl) (by rfl) (fun R hkeep => ?_) m)
    repeat (first | refine W.seq ?_ | refine W.block ?_ | refine W.skip ?_ | refine W.exit ?_ | refine W.region tab_ok 0 (by decide) (exec_run (by simp only [exa, beq_self_eq_true, ByteArray.size, Nat.reduceAdd, Nat.reduceLeDiff, Nat.reduceEqDiff, Nat.reduceMul, Int.reduceToNat, reduceIte, Int.reduceLE, Int.reduceNeg]; rfl)) ?_)
    iterate 9 (refine W.cond rfl (fun h => absurd h (by decide)) (fun _ => ?_); repeat (first | refine W.seq ?_ | refine W.block ?_ | refine W.skip ?_ | refine W.exit ?_ | refine W.region tab_ok 0 (by decide) (exec_run (by simp only [exa, beq_self_eq_true, ByteArray.size, Nat.reduceAdd, Nat.reduceLeDiff, Nat.reduceEqDiff, Nat.reduceMul, Int.reduceToNat, reduceIte, Int.reduceLE, Int.reduceNeg]; rfl)) ?_))
    refine W.cond rfl (fun _ => ?_) (fun h => absurd h (by decide))
    (repeat (first | refine W.seq ?_ | refine W.block ?_ | refine W.skip ?_ | refine W.exit ?_))
    refine W.regionDK tab_ok 0 follows_mixed (by kernel_rfl) (by decide) ?_
    refine runk_split 4 (by simp only [exa, beq_self_eq_true, ByteArray.size, Nat.reduceAdd, Nat.reduceLeDiff, Nat.reduceEqDiff, Nat.reduceMul, Int.reduceToNat, reduceIte, Int.reduceLE, Int.reduceNeg]; rfl) ?_
    refine runk_call rfl rfl rfl rfl rfl (by simp) (cvs_cons cv_refl (cvs_cons cv_refl cvs_nil)) (hy _) ?_
    refine runk_exec (by simp (disch := omega) only [exa, beq_self_eq_true, ByteArray.size, Nat.reduceAdd, Nat.reduceLeDiff, Nat.reduceEqDiff, Nat.reduceMul, Int.reduceToNat, reduceIte, Int.reduceLE, Int.reduceNeg, app_bytes, if_le, List.length_append, List.length_cons, List.length_nil]; rfl) ?_
    (repeat (first | refine W.seq ?_ | refine W.block ?_ | refine W.skip ?_ | refine W.exit ?_))
    refine W.regionK tab_ok 0 (by decide) ?_
    refine runk_exec (by simp only [exa, beq_self_eq_true, ByteArray.size, Nat.reduceAdd, Nat.reduceLeDiff, Nat.reduceEqDiff, Nat.reduceMul, Int.reduceToNat, reduceIte, Int.reduceLE, Int.reduceNeg, hsl, if_true, Nat.le_refl, List.take_length]; rfl) ?_
    rw [cExprs_map]
    (repeat (first | refine W.seq ?_ | refine W.block ?_ | refine W.skip ?_ | refine W.exit ?_))
    refine W.loop (ι := Nat) (fun k => ⟨upd (upd (upd (upd (upd (fun _ => .top) 1 (.ptr 1 0)) 3 (.c (.str (strX (A0 ++ commaX ((r.map (exprX · 1)).take k)))))) 84 (.c (.sl (r.map cExpr)))) 85 (.c (.int .i64 r.length))) 86 (.c (.int .i64 k)),
      upd Mem.nil 1 (some (.box 24 [.c (.int .i64 10), .c (.int .i64 n), .c (.str (strX nl)), .c (.sl ([C.int .i64 yk, C.int .i64 yn, C.str ym, C.sl (cExprs ys)] :: cExprs r))]))⟩) (fun k => k ≤ r.length) (fun k => r.length - k) 0 ?start (Nat.zero_le _) ?round
    case start =>
      rw [hA0]
      refine le_mk ?sle ?mle ?swf ?mwf ?kept (by rfl)
      case kept => exact kept_not hkeep
      case swf => repeat (first | exact swf_top _ | refine swf_upd ?_ (by simp [A.ids, upd_app]))
      case mwf => repeat (first | exact mwf_nil _ | refine mwf_upd ?_ (by simp [A.ids, O.ids, upd_app]))
      case mle => repeat (first | exact mle_nil _ | exact mle_refl _ | refine mle_upd ?_ (by first | rfl | (simp only [upd_app, killM_app, Nat.reduceEqDiff, reduceIte, commaX, List.take_zero, List.append_nil, List.append_assoc, List.cons_append, List.nil_append, cExprs_map, List.length_map]; done)))
      case sle => repeat (first | exact sle_top _ | exact sle_refl _ | refine sle_upd ?_ (by first | rfl | (simp only [upd_app, entry_zero, entry_succ, Nat.reduceEqDiff, reduceIte, commaX, List.take_zero, List.append_nil, List.append_assoc, List.cons_append, List.nil_append, cExprs_map, List.length_map]; done)))
    case round =>
      intro k hk
      repeat (first | refine W.seq ?_ | refine W.block ?_ | refine W.skip ?_ | refine W.exit ?_ | refine W.region tab_ok 0 (by decide) (exec_run (by simp only [exa, beq_self_eq_true, ByteArray.size, Nat.reduceAdd, Nat.reduceLeDiff, Nat.reduceEqDiff, Nat.reduceMul, Int.reduceToNat, reduceIte, Int.reduceLE, Int.reduceNeg]; rfl)) ?_)
      refine W.cond rfl ?_ ?_
      · intro hlt
        simp only [decide_eq_true_eq, Int.ofNat_lt] at hlt
        obtain ⟨x, hxk⟩ : ∃ x, r[k]? = some x := ⟨_, List.getElem?_eq_getElem hlt⟩
        have htk := commaX_take hxk
        have hle := commaX_le (r.map (exprX · 1)) (k + 1)
        have hlE : (listE r).length = (commaX (r.map (exprX · 1))).length := rfl
        have hln := congrArg List.length htk
        simp only [List.length_append] at hln
        have hx1 := hr x (List.mem_of_getElem? hxk) 1
        have hat := at_map (f := cExpr) hxk
        obtain ⟨E, hE⟩ : ∃ E, exprX x 1 = E := ⟨_, rfl⟩
        obtain ⟨Ck, hC⟩ : ∃ Ck, commaX ((r.map (exprX · 1)).take k) = Ck := ⟨_, rfl⟩
        rw [hE] at htk hln hx1
        rw [hC] at htk hln ⊢
        obtain ⟨xk, xn, xm, xs⟩ := x
        simp only [cExpr] at hat hx1
        repeat (first | refine W.seq ?_ | refine W.block ?_ | refine W.skip ?_ | refine W.exit ?_ | refine W.region tab_ok 0 (by decide) (exec_run (by simp only [exa, beq_self_eq_true, ByteArray.size, Nat.reduceAdd, Nat.reduceLeDiff, Nat.reduceEqDiff, Nat.reduceMul, Int.reduceToNat, reduceIte, Int.reduceLE, Int.reduceNeg, hat]; rfl)) ?_)
        refine W.cond rfl ?_ ?_
        · intro hk0
          simp only [decide_eq_true_eq] at hk0
          have hk0 : k ≠ 0 := by omega
          rw [if_neg hk0] at htk hln
          simp only [List.length_cons, List.length_nil] at hln
          (repeat (first | refine W.seq ?_ | refine W.block ?_ | refine W.skip ?_ | refine W.exit ?_))
          refine W.regionK tab_ok 0 (by decide) ?_
          refine runk_exec (by simp (disch := omega) only [exa, beq_self_eq_true, ByteArray.size, Nat.reduceAdd, Nat.reduceLeDiff, Nat.reduceEqDiff, Nat.reduceMul, Int.reduceToNat, reduceIte, Int.reduceLE, Int.reduceNeg, app_bytes, if_le, List.length_append, List.length_cons, List.length_nil]; rfl) ?_
          (repeat (first | refine W.seq ?_ | refine W.block ?_ | refine W.skip ?_ | refine W.exit ?_))
          refine W.regionK tab_ok 0 (by decide) ?_
          refine runk_split 2 (by simp (disch := omega) only [exa, beq_self_eq_true, ByteArray.size, Nat.reduceAdd, Nat.reduceLeDiff, Nat.reduceEqDiff, Nat.reduceMul, Int.reduceToNat, reduceIte, Int.reduceLE, Int.reduceNeg, app_bytes, if_le, List.length_append, List.length_cons, List.length_nil]; rfl) ?_
          refine runk_call rfl rfl rfl rfl rfl (by simp) (cvs_cons cv_refl (cvs_cons cv_refl cvs_nil)) (hx1 _) ?_
          refine runk_exec (by simp (disch := omega) only [exa, beq_self_eq_true, ByteArray.size, Nat.reduceAdd, Nat.reduceLeDiff, Nat.reduceEqDiff, Nat.reduceMul, Int.reduceToNat, reduceIte, Int.reduceLE, Int.reduceNeg, app_bytes, if_le, List.length_append, List.length_cons, List.length_nil]; rfl) ?_
          repeat (first | refine W.seq ?_ | refine W.block ?_ | refine W.skip ?_ | refine W.exit ?_ | refine W.region tab_ok 0 (by decide) (exec_run (by simp only [exa, beq_self_eq_true, ByteArray.size, Nat.reduceAdd, Nat.reduceLeDiff, Nat.reduceEqDiff, Nat.reduceMul, Int.reduceToNat, reduceIte, Int.reduceLE, Int.reduceNeg]; rfl)) ?_)
          refine ⟨k + 1, hlt, by omega, ?_⟩
          rw [htk]
          refine le_mk ?sle ?mle ?swf ?mwf ?kept (by rfl)
          case kept => exact kept_not hkeep
          case swf => repeat (first | exact swf_top _ | refine swf_upd ?_ (by simp [A.ids, upd_app]))
          case mwf => repeat (first | exact mwf_nil _ | refine mwf_upd ?_ (by simp [A.ids, O.ids, upd_app]))
          case mle => repeat (first | exact mle_nil _ | exact mle_refl _ | refine mle_upd ?_ (by first | rfl | (simp only [upd_app, killM_app, Nat.reduceEqDiff, reduceIte, List.append_assoc, List.cons_append, List.nil_append, wrap_succ (show k + 1 < 9223372036854775808 by omega)]; done)))
          case sle => repeat (first | exact sle_top _ | exact sle_refl _ | refine sle_upd ?_ (by first | rfl | (simp only [upd_app, entry_zero, entry_succ, Nat.reduceEqDiff, reduceIte, List.append_assoc, List.cons_append, List.nil_append, wrap_succ (show k + 1 < 9223372036854775808 by omega)]; done)))
        · intro hk0
          simp only [decide_eq_false_iff_not] at hk0
          have hk0 : k = 0 := by omega
          rw [if_pos hk0] at htk hln
          simp only [List.length_nil] at hln
          (repeat (first | refine W.seq ?_ | refine W.block ?_ | refine W.skip ?_ | refine W.exit ?_))
          refine W.regionK tab_ok 0 (by decide) ?_
          refine runk_split 2 (by simp (disch := omega) only [exa, beq_self_eq_true, ByteArray.size, Nat.reduceAdd, Nat.reduceLeDiff, Nat.reduceEqDiff, Nat.reduceMul, Int.reduceToNat, reduceIte, Int.reduceLE, Int.reduceNeg, app_bytes, if_le, List.length_append, List.length_cons, List.length_nil]; rfl) ?_
          refine runk_call rfl rfl rfl rfl rfl (by simp) (cvs_cons cv_refl (cvs_cons cv_refl cvs_nil)) (hx1 _) ?_
          refine runk_exec (by simp (disch := omega) only [exa, beq_self_eq_true, ByteArray.size, Nat.reduceAdd, Nat.reduceLeDiff, Nat.reduceEqDiff, Nat.reduceMul, Int.reduceToNat, reduceIte, Int.reduceLE, Int.reduceNeg, app_bytes, if_le, List.length_append, List.length_cons, List.length_nil]; rfl) ?_
          repeat (first | refine W.seq ?_ | refine W.block ?_ | refine W.skip ?_ | refine W.exit ?_ | refine W.region tab_ok 0 (by decide) (exec_run (by simp only [exa, beq_self_eq_true, ByteArray.size, Nat.reduceAdd, Nat.reduceLeDiff, Nat.reduceEqDiff, Nat.reduceMul, Int.reduceToNat, reduceIte, Int.reduceLE, Int.reduceNeg]; rfl)) ?_)
          refine ⟨k + 1, hlt, by omega, ?_⟩
          rw [htk]
          refine le_mk ?sle ?mle ?swf ?mwf ?kept (by rfl)
          case kept => exact kept_not hkeep
          case swf => repeat (first | exact swf_top _ | refine swf_upd ?_ (by simp [A.ids, upd_app]))
          case mwf => repeat (first | exact mwf_nil _ | refine mwf_upd ?_ (by simp [A.ids, O.ids, upd_app]))
          case mle => repeat (first | exact mle_nil _ | exact mle_refl _ | refine mle_upd ?_ (by first | rfl | (simp only [upd_app, killM_app, Nat.reduceEqDiff, reduceIte, List.append_assoc, List.cons_append, List.nil_append, wrap_succ (show k + 1 < 9223372036854775808 by omega)]; done)))
          case sle => repeat (first | exact sle_top _ | exact sle_refl _ | refine sle_upd ?_ (by first | rfl | (simp only [upd_app, entry_zero, entry_succ, Nat.reduceEqDiff, reduceIte, List.append_assoc, List.cons_append, List.nil_append, wrap_succ (show k + 1 < 9223372036854775808 by omega)]; done)))
      · intro hge
        simp only [decide_eq_false_iff_not, Int.ofNat_lt] at hge
        obtain rfl : k = r.length := by omega
        rw [List.take_of_length_le (by simp)]
        have hlE : (listE r).length = (commaX (r.map (exprX · 1))).length := rfl
        have hle2 : listE r = commaX (r.map (exprX · 1)) := rfl
        obtain ⟨Ck, hC⟩ : ∃ Ck, commaX (r.map (exprX · 1)) = Ck := ⟨_, rfl⟩
        rw [hC] at hlE hle2 ⊢
        rw [hle2]
        (repeat (first | refine W.seq ?_ | refine W.block ?_ | refine W.skip ?_ | refine W.exit ?_))
        refine W.regionK tab_ok 0 (by decide) ?_
        refine runk_exec (by simp (disch := omega) only [exa, beq_self_eq_true, ByteArray.size, Nat.reduceAdd, Nat.reduceLeDiff, Nat.reduceEqDiff, Nat.reduceMul, Int.reduceToNat, reduceIte, Int.reduceLE, Int.reduceNeg, app_bytes, if_le, List.length_append, List.length_cons, List.length_nil]; rfl) ?_
        refine W.ret ⟨.inr rfl, by rfl, ?_⟩
        simp only [Tryd.f19, resA, resOne, toT, fin, exa, beq_self_eq_true, ByteArray.size, Nat.reduceAdd, Nat.reduceLeDiff, Nat.reduceEqDiff, Nat.reduceMul, Int.reduceToNat, reduceIte, Int.reduceLE, Int.reduceNeg]
        all_goals (rw [hA0]; try simp [List.append_assoc])
  · have hT : textX ⟨11, n, strX nl, kids⟩ = [114, 101, 97, 100, 40] ++ Lib.itoa n ++ [41] := by simp [textX, bodyX]
    rw [hT] at hfit ⊢
    simp only [List.length_append, List.length_cons, List.length_nil] at hfit
    refine (ok_pure tab_ok Tryd.func19 (by kernel_rfl) rfl rfl (by rfl) (by rfl) (by rfl) (fun R hkeep => ?_) m)
    repeat (first | refine W.seq ?_ | refine W.block ?_ | refine W.skip ?_ | refine W.exit ?_ | refine W.region tab_ok 0 (by decide) (exec_run (by simp only [exa, beq_self_eq_true, ByteArray.size, Nat.reduceAdd, Nat.reduceLeDiff, Nat.reduceEqDiff, Nat.reduceMul, Int.reduceToNat, reduceIte, Int.reduceLE, Int.reduceNeg]; rfl)) ?_)
    iterate 10 (refine W.cond rfl (fun h => absurd h (by decide)) (fun _ => ?_); repeat (first | refine W.seq ?_ | refine W.block ?_ | refine W.skip ?_ | refine W.exit ?_ | refine W.region tab_ok 0 (by decide) (exec_run (by simp only [exa, beq_self_eq_true, ByteArray.size, Nat.reduceAdd, Nat.reduceLeDiff, Nat.reduceEqDiff, Nat.reduceMul, Int.reduceToNat, reduceIte, Int.reduceLE, Int.reduceNeg]; rfl)) ?_))
    refine W.cond rfl (fun _ => ?_) (fun h => absurd h (by decide))
    (repeat (first | refine W.seq ?_ | refine W.block ?_ | refine W.skip ?_ | refine W.exit ?_))
    refine W.regionK tab_ok 0 (by decide) ?_
    refine runk_split 2 (by simp only [exa, beq_self_eq_true, ByteArray.size, Nat.reduceAdd, Nat.reduceLeDiff, Nat.reduceEqDiff, Nat.reduceMul, Int.reduceToNat, reduceIte, Int.reduceLE, Int.reduceNeg]; rfl) ?_
    refine runk_call rfl rfl rfl rfl rfl (by simp) (cvs_cons cv_refl cvs_nil) (num01_ok n hn0 (Int.le_trans hn1 (by decide)) _) ?_
    refine runk_exec (by simp (disch := omega) only [exa, beq_self_eq_true, ByteArray.size, Nat.reduceAdd, Nat.reduceLeDiff, Nat.reduceEqDiff, Nat.reduceMul, Int.reduceToNat, reduceIte, Int.reduceLE, Int.reduceNeg, app_bytes, if_le, List.length_append, List.length_cons, List.length_nil]; rfl) ?_
    refine W.ret ⟨.inr rfl, by rfl, ?_⟩
    simp only [Tryd.f19, resA, resOne, toT, fin, exa, beq_self_eq_true, ByteArray.size, Nat.reduceAdd, Nat.reduceLeDiff, Nat.reduceEqDiff, Nat.reduceMul, Int.reduceToNat, reduceIte, Int.reduceLE, Int.reduceNeg]
    all_goals (try simp [List.append_assoc])
  · obtain ⟨⟨yk, yn, ym, ys⟩, rfl⟩ : ∃ y, kids = [y] := one_of hlo hhi
    have hT : textX ⟨12, n, strX nl, [⟨yk, yn, ym, ys⟩]⟩ = [100, 101, 99, 108, 97, 115, 115, 105, 102, 121, 40] ++ exprX ⟨yk, yn, ym, ys⟩ 1 ++ [41] := by rw [textX_eq]; rfl
    have hy := hA ⟨yk, yn, ym, ys⟩ (by simp) 1
    rw [hT] at hfit ⊢
    simp only [List.length_append, List.length_cons, List.length_nil] at hfit
    obtain ⟨Y, hY⟩ : ∃ Y, exprX ⟨yk, yn, ym, ys⟩ 1 = Y := ⟨_, rfl⟩
    rw [hY] at hy hfit ⊢
    clear hY hT hA
    simp only [cExpr, cExprs] at hy ⊢
    refine (ok_pure tab_ok Tryd.func19 (by kernel_rfl) rfl rfl (by rfl) (by rfl) (by rfl) (fun R hkeep => ?_) m)
    repeat (first | refine W.seq ?_ | refine W.block ?_ | refine W.skip ?_ | refine W.exit ?_ | refine W.region tab_ok 0 (by decide) (exec_run (by simp only [exa, beq_self_eq_true, ByteArray.size, Nat.reduceAdd, Nat.reduceLeDiff, Nat.reduceEqDiff, Nat.reduceMul, Int.reduceToNat, reduceIte, Int.reduceLE, Int.reduceNeg]; rfl)) ?_)
    iterate 11 (refine W.cond rfl (fun h => absurd h (by decide)) (fun _ => ?_); repeat (first | refine W.seq ?_ | refine W.block ?_ | refine W.skip ?_ | refine W.exit ?_ | refine W.region tab_ok 0 (by decide) (exec_run (by simp only [exa, beq_self_eq_true, ByteArray.size, Nat.reduceAdd, Nat.reduceLeDiff, Nat.reduceEqDiff, Nat.reduceMul, Int.reduceToNat, reduceIte, Int.reduceLE, Int.reduceNeg]; rfl)) ?_))
    refine W.cond rfl (fun _ => ?_) (fun h => absurd h (by decide))
    (repeat (first | refine W.seq ?_ | refine W.block ?_ | refine W.skip ?_ | refine W.exit ?_))
    refine W.regionK tab_ok 0 (by decide) ?_
    refine runk_split 4 (by simp only [exa, beq_self_eq_true, ByteArray.size, Nat.reduceAdd, Nat.reduceLeDiff, Nat.reduceEqDiff, Nat.reduceMul, Int.reduceToNat, reduceIte, Int.reduceLE, Int.reduceNeg]; rfl) ?_
    refine runk_call rfl rfl rfl rfl rfl (by simp) (cvs_cons cv_refl (cvs_cons cv_refl cvs_nil)) (hy _) ?_
    refine runk_exec (by simp (disch := omega) only [exa, beq_self_eq_true, ByteArray.size, Nat.reduceAdd, Nat.reduceLeDiff, Nat.reduceEqDiff, Nat.reduceMul, Int.reduceToNat, reduceIte, Int.reduceLE, Int.reduceNeg, app_bytes, if_le, List.length_append, List.length_cons, List.length_nil]; rfl) ?_
    refine W.ret ⟨.inr rfl, by rfl, ?_⟩
    simp only [Tryd.f19, resA, resOne, toT, fin, exa, beq_self_eq_true, ByteArray.size, Nat.reduceAdd, Nat.reduceLeDiff, Nat.reduceEqDiff, Nat.reduceMul, Int.reduceToNat, reduceIte, Int.reduceLE, Int.reduceNeg]
    all_goals (try simp [List.append_assoc])
  · obtain ⟨⟨yk, yn, ym, ys⟩, ⟨zk, zn, zm, zs⟩, rfl⟩ : ∃ y y2, kids = [y, y2] := two_of hlo hhi
    have hT : textX ⟨13, n, strX nl, [⟨yk, yn, ym, ys⟩, ⟨zk, zn, zm, zs⟩]⟩ = exprX ⟨yk, yn, ym, ys⟩ 2 ++ [32] ++ [43] ++ [32] ++ exprX ⟨zk, zn, zm, zs⟩ 3 := by
      rw [textX_eq, ← kidX_at (l := [⟨yk, yn, ym, ys⟩, ⟨zk, zn, zm, zs⟩]) (i := 0) rfl, ← kidX_at (l := [⟨yk, yn, ym, ys⟩, ⟨zk, zn, zm, zs⟩]) (i := 1) rfl]
      simp [bodyX, shapeOf, shapes, levX]
      all_goals rfl
    have hy := hA ⟨yk, yn, ym, ys⟩ (by simp) 2
    have hz := hA ⟨zk, zn, zm, zs⟩ (by simp) 3
    have hg := sign_ok 13 (by decide)
    have hgx : signX 13 = [43] := rfl
    rw [hgx] at hg
    rw [hT] at hfit ⊢
    simp only [List.length_append, List.length_cons, List.length_nil] at hfit
    obtain ⟨Y, hY⟩ : ∃ Y, exprX ⟨yk, yn, ym, ys⟩ 2 = Y := ⟨_, rfl⟩
    obtain ⟨Z, hZ⟩ : ∃ Z, exprX ⟨zk, zn, zm, zs⟩ 3 = Z := ⟨_, rfl⟩
    rw [hY] at hy hfit ⊢
    rw [hZ] at hz hfit ⊢
    clear hY hZ hT hA
    simp only [cExpr, cExprs] at hy hz ⊢
    refine (ok_pure tab_ok Tryd.func19 (by kernel_rfl) rfl rfl (by rfl) (by rfl) (by rfl) (fun R hkeep => ?_) m)
    repeat (first | refine W.seq ?_ | refine W.block ?_ | refine W.skip ?_ | refine W.exit ?_ | refine W.region tab_ok 0 (by decide) (exec_run (by simp only [exa, beq_self_eq_true, ByteArray.size, Nat.reduceAdd, Nat.reduceLeDiff, Nat.reduceEqDiff, Nat.reduceMul, Int.reduceToNat, reduceIte, Int.reduceLE, Int.reduceNeg]; rfl)) ?_ | refine W.cond rfl (fun _ => ?_) (fun h => absurd h (by decide)) | refine W.cond rfl (fun h => absurd h (by decide)) (fun _ => ?_))
    refine W.regionDK tab_ok 0 follows_mixed (by kernel_rfl) (by decide) ?_
    refine runk_split 4 (by simp only [exa, beq_self_eq_true, ByteArray.size, Nat.reduceAdd, Nat.reduceLeDiff, Nat.reduceEqDiff, Nat.reduceMul, Int.reduceToNat, reduceIte, Int.reduceLE, Int.reduceNeg]; rfl) ?_
    refine runk_call rfl rfl rfl rfl rfl (by simp) (cvs_cons cv_refl (cvs_cons cv_refl cvs_nil)) (hy _) ?_
    refine runk_split 3 (by simp (disch := omega) only [exa, beq_self_eq_true, ByteArray.size, Nat.reduceAdd, Nat.reduceLeDiff, Nat.reduceEqDiff, Nat.reduceMul, Int.reduceToNat, reduceIte, Int.reduceLE, Int.reduceNeg, app_bytes, if_le, List.length_append, List.length_cons, List.length_nil]; rfl) ?_
    refine runk_call rfl rfl rfl rfl rfl (by simp) (cvs_cons cv_refl cvs_nil) (hg _) ?_
    refine runk_split 6 (by simp (disch := omega) only [exa, beq_self_eq_true, ByteArray.size, Nat.reduceAdd, Nat.reduceLeDiff, Nat.reduceEqDiff, Nat.reduceMul, Int.reduceToNat, reduceIte, Int.reduceLE, Int.reduceNeg, app_bytes, if_le, List.length_append, List.length_cons, List.length_nil]; rfl) ?_
    refine runk_call rfl rfl rfl rfl rfl (by simp) (cvs_cons cv_refl (cvs_cons cv_refl cvs_nil)) (hz _) ?_
    refine runk_exec (by simp (disch := omega) only [exa, beq_self_eq_true, ByteArray.size, Nat.reduceAdd, Nat.reduceLeDiff, Nat.reduceEqDiff, Nat.reduceMul, Int.reduceToNat, reduceIte, Int.reduceLE, Int.reduceNeg, app_bytes, if_le, List.length_append, List.length_cons, List.length_nil]; rfl) ?_
    refine W.ret ⟨.inr rfl, by rfl, ?_⟩
    simp only [Tryd.f19, resA, resOne, toT, fin, exa, beq_self_eq_true, ByteArray.size, Nat.reduceAdd, Nat.reduceLeDiff, Nat.reduceEqDiff, Nat.reduceMul, Int.reduceToNat, reduceIte, Int.reduceLE, Int.reduceNeg]
    all_goals (try simp [List.append_assoc])
  · obtain ⟨⟨yk, yn, ym, ys⟩, ⟨zk, zn, zm, zs⟩, rfl⟩ : ∃ y y2, kids = [y, y2] := two_of hlo hhi
    have hT : textX ⟨14, n, strX nl, [⟨yk, yn, ym, ys⟩, ⟨zk, zn, zm, zs⟩]⟩ = exprX ⟨yk, yn, ym, ys⟩ 2 ++ [32] ++ [45] ++ [32] ++ exprX ⟨zk, zn, zm, zs⟩ 3 := by
      rw [textX_eq, ← kidX_at (l := [⟨yk, yn, ym, ys⟩, ⟨zk, zn, zm, zs⟩]) (i := 0) rfl, ← kidX_at (l := [⟨yk, yn, ym, ys⟩, ⟨zk, zn, zm, zs⟩]) (i := 1) rfl]
      simp [bodyX, shapeOf, shapes, levX]
      all_goals rfl
    have hy := hA ⟨yk, yn, ym, ys⟩ (by simp) 2
    have hz := hA ⟨zk, zn, zm, zs⟩ (by simp) 3
    have hg := sign_ok 14 (by decide)
    have hgx : signX 14 = [45] := rfl
    rw [hgx] at hg
    rw [hT] at hfit ⊢
    simp only [List.length_append, List.length_cons, List.length_nil] at hfit
    obtain ⟨Y, hY⟩ : ∃ Y, exprX ⟨yk, yn, ym, ys⟩ 2 = Y := ⟨_, rfl⟩
    obtain ⟨Z, hZ⟩ : ∃ Z, exprX ⟨zk, zn, zm, zs⟩ 3 = Z := ⟨_, rfl⟩
    rw [hY] at hy hfit ⊢
    rw [hZ] at hz hfit ⊢
    clear hY hZ hT hA
    simp only [cExpr, cExprs] at hy hz ⊢
    refine (ok_pure tab_ok Tryd.func19 (by kernel_rfl) rfl rfl (by rfl) (by rfl) (by rfl) (fun R hkeep => ?_) m)
    repeat (first | refine W.seq ?_ | refine W.block ?_ | refine W.skip ?_ | refine W.exit ?_ | refine W.region tab_ok 0 (by decide) (exec_run (by simp only [exa, beq_self_eq_true, ByteArray.size, Nat.reduceAdd, Nat.reduceLeDiff, Nat.reduceEqDiff, Nat.reduceMul, Int.reduceToNat, reduceIte, Int.reduceLE, Int.reduceNeg]; rfl)) ?_ | refine W.cond rfl (fun _ => ?_) (fun h => absurd h (by decide)) | refine W.cond rfl (fun h => absurd h (by decide)) (fun _ => ?_))
    refine W.regionDK tab_ok 0 follows_mixed (by kernel_rfl) (by decide) ?_
    refine runk_split 4 (by simp only [exa, beq_self_eq_true, ByteArray.size, Nat.reduceAdd, Nat.reduceLeDiff, Nat.reduceEqDiff, Nat.reduceMul, Int.reduceToNat, reduceIte, Int.reduceLE, Int.reduceNeg]; rfl) ?_
    refine runk_call rfl rfl rfl rfl rfl (by simp) (cvs_cons cv_refl (cvs_cons cv_refl cvs_nil)) (hy _) ?_
    refine runk_split 3 (by simp (disch := omega) only [exa, beq_self_eq_true, ByteArray.size, Nat.reduceAdd, Nat.reduceLeDiff, Nat.reduceEqDiff, Nat.reduceMul, Int.reduceToNat, reduceIte, Int.reduceLE, Int.reduceNeg, app_bytes, if_le, List.length_append, List.length_cons, List.length_nil]; rfl) ?_
    refine runk_call rfl rfl rfl rfl rfl (by simp) (cvs_cons cv_refl cvs_nil) (hg _) ?_
    refine runk_split 6 (by simp (disch := omega) only [exa, beq_self_eq_true, ByteArray.size, Nat.reduceAdd, Nat.reduceLeDiff, Nat.reduceEqDiff, Nat.reduceMul, Int.reduceToNat, reduceIte, Int.reduceLE, Int.reduceNeg, app_bytes, if_le, List.length_append, List.length_cons, List.length_nil]; rfl) ?_
    refine runk_call rfl rfl rfl rfl rfl (by simp) (cvs_cons cv_refl (cvs_cons cv_refl cvs_nil)) (hz _) ?_
    refine runk_exec (by simp (disch := omega) only [exa, beq_self_eq_true, ByteArray.size, Nat.reduceAdd, Nat.reduceLeDiff, Nat.reduceEqDiff, Nat.reduceMul, Int.reduceToNat, reduceIte, Int.reduceLE, Int.reduceNeg, app_bytes, if_le, List.length_append, List.length_cons, List.length_nil]; rfl) ?_
    refine W.ret ⟨.inr rfl, by rfl, ?_⟩
    simp only [Tryd.f19, resA, resOne, toT, fin, exa, beq_self_eq_true, ByteArray.size, Nat.reduceAdd, Nat.reduceLeDiff, Nat.reduceEqDiff, Nat.reduceMul, Int.reduceToNat, reduceIte, Int.reduceLE, Int.reduceNeg]
    all_goals (try simp [List.append_assoc])
  · obtain ⟨⟨yk, yn, ym, ys⟩, ⟨zk, zn, zm, zs⟩, rfl⟩ : ∃ y y2, kids = [y, y2] := two_of hlo hhi
    have hT : textX ⟨15, n, strX nl, [⟨yk, yn, ym, ys⟩, ⟨zk, zn, zm, zs⟩]⟩ = exprX ⟨yk, yn, ym, ys⟩ 3 ++ [32] ++ [42] ++ [32] ++ exprX ⟨zk, zn, zm, zs⟩ 4 := by
      rw [textX_eq, ← kidX_at (l := [⟨yk, yn, ym, ys⟩, ⟨zk, zn, zm, zs⟩]) (i := 0) rfl, ← kidX_at (l := [⟨yk, yn, ym, ys⟩, ⟨zk, zn, zm, zs⟩]) (i := 1) rfl]
      simp [bodyX, shapeOf, shapes, levX]
      all_goals rfl
    have hy := hA ⟨yk, yn, ym, ys⟩ (by simp) 3
    have hz := hA ⟨zk, zn, zm, zs⟩ (by simp) 4
    have hg := sign_ok 15 (by decide)
    have hgx : signX 15 = [42] := rfl
    rw [hgx] at hg
    rw [hT] at hfit ⊢
    simp only [List.length_append, List.length_cons, List.length_nil] at hfit
    obtain ⟨Y, hY⟩ : ∃ Y, exprX ⟨yk, yn, ym, ys⟩ 3 = Y := ⟨_, rfl⟩
    obtain ⟨Z, hZ⟩ : ∃ Z, exprX ⟨zk, zn, zm, zs⟩ 4 = Z := ⟨_, rfl⟩
    rw [hY] at hy hfit ⊢
    rw [hZ] at hz hfit ⊢
    clear hY hZ hT hA
    simp only [cExpr, cExprs] at hy hz ⊢
    refine (ok_pure tab_ok Tryd.func19 (by kernel_rfl) rfl rfl (by rfl) (by rfl) (by rfl) (fun R hkeep => ?_) m)
    repeat (first | refine W.seq ?_ | refine W.block ?_ | refine W.skip ?_ | refine W.exit ?_ | refine W.region tab_ok 0 (by decide) (exec_run (by simp only [exa, beq_self_eq_true, ByteArray.size, Nat.reduceAdd, Nat.reduceLeDiff, Nat.reduceEqDiff, Nat.reduceMul, Int.reduceToNat, reduceIte, Int.reduceLE, Int.reduceNeg]; rfl)) ?_ | refine W.cond rfl (fun _ => ?_) (fun h => absurd h (by decide)) | refine W.cond rfl (fun h => absurd h (by decide)) (fun _ => ?_))
    refine W.regionDK tab_ok 0 follows_mixed (by kernel_rfl) (by decide) ?_
    refine runk_split 4 (by simp only [exa, beq_self_eq_true, ByteArray.size, Nat.reduceAdd, Nat.reduceLeDiff, Nat.reduceEqDiff, Nat.reduceMul, Int.reduceToNat, reduceIte, Int.reduceLE, Int.reduceNeg]; rfl) ?_
    refine runk_call rfl rfl rfl rfl rfl (by simp) (cvs_cons cv_refl (cvs_cons cv_refl cvs_nil)) (hy _) ?_
    refine runk_split 3 (by simp (disch := omega) only [exa, beq_self_eq_true, ByteArray.size, Nat.reduceAdd, Nat.reduceLeDiff, Nat.reduceEqDiff, Nat.reduceMul, Int.reduceToNat, reduceIte, Int.reduceLE, Int.reduceNeg, app_bytes, if_le, List.length_append, List.length_cons, List.length_nil]; rfl) ?_
    refine runk_call rfl rfl rfl rfl rfl (by simp) (cvs_cons cv_refl cvs_nil) (hg _) ?_
    refine runk_split 6 (by simp (disch := omega) only [exa, beq_self_eq_true, ByteArray.size, Nat.reduceAdd, Nat.reduceLeDiff, Nat.reduceEqDiff, Nat.reduceMul, Int.reduceToNat, reduceIte, Int.reduceLE, Int.reduceNeg, app_bytes, if_le, List.length_append, List.length_cons, List.length_nil]; rfl) ?_
    refine runk_call rfl rfl rfl rfl rfl (by simp) (cvs_cons cv_refl (cvs_cons cv_refl cvs_nil)) (hz _) ?_
    refine runk_exec (by simp (disch := omega) only [exa, beq_self_eq_true, ByteArray.size, Nat.reduceAdd, Nat.reduceLeDiff, Nat.reduceEqDiff, Nat.reduceMul, Int.reduceToNat, reduceIte, Int.reduceLE, Int.reduceNeg, app_bytes, if_le, List.length_append, List.length_cons, List.length_nil]; rfl) ?_
    refine W.ret ⟨.inr rfl, by rfl, ?_⟩
    simp only [Tryd.f19, resA, resOne, toT, fin, exa, beq_self_eq_true, ByteArray.size, Nat.reduceAdd, Nat.reduceLeDiff, Nat.reduceEqDiff, Nat.reduceMul, Int.reduceToNat, reduceIte, Int.reduceLE, Int.reduceNeg]
    all_goals (try simp [List.append_assoc])
  · obtain ⟨⟨yk, yn, ym, ys⟩, ⟨zk, zn, zm, zs⟩, rfl⟩ : ∃ y y2, kids = [y, y2] := two_of hlo hhi
    have hT : textX ⟨16, n, strX nl, [⟨yk, yn, ym, ys⟩, ⟨zk, zn, zm, zs⟩]⟩ = exprX ⟨yk, yn, ym, ys⟩ 3 ++ [32] ++ [47] ++ [32] ++ exprX ⟨zk, zn, zm, zs⟩ 4 := by
      rw [textX_eq, ← kidX_at (l := [⟨yk, yn, ym, ys⟩, ⟨zk, zn, zm, zs⟩]) (i := 0) rfl, ← kidX_at (l := [⟨yk, yn, ym, ys⟩, ⟨zk, zn, zm, zs⟩]) (i := 1) rfl]
      simp [bodyX, shapeOf, shapes, levX]
      all_goals rfl
    have hy := hA ⟨yk, yn, ym, ys⟩ (by simp) 3
    have hz := hA ⟨zk, zn, zm, zs⟩ (by simp) 4
    have hg := sign_ok 16 (by decide)
    have hgx : signX 16 = [47] := rfl
    rw [hgx] at hg
    rw [hT] at hfit ⊢
    simp only [List.length_append, List.length_cons, List.length_nil] at hfit
    obtain ⟨Y, hY⟩ : ∃ Y, exprX ⟨yk, yn, ym, ys⟩ 3 = Y := ⟨_, rfl⟩
    obtain ⟨Z, hZ⟩ : ∃ Z, exprX ⟨zk, zn, zm, zs⟩ 4 = Z := ⟨_, rfl⟩
    rw [hY] at hy hfit ⊢
    rw [hZ] at hz hfit ⊢
    clear hY hZ hT hA
    simp only [cExpr, cExprs] at hy hz ⊢
    refine (ok_pure tab_ok Tryd.func19 (by kernel_rfl) rfl rfl (by rfl) (by rfl) (by rfl) (fun R hkeep => ?_) m)
    repeat (first | refine W.seq ?_ | refine W.block ?_ | refine W.skip ?_ | refine W.exit ?_ | refine W.region tab_ok 0 (by decide) (exec_run (by simp only [exa, beq_self_eq_true, ByteArray.size, Nat.reduceAdd, Nat.reduceLeDiff, Nat.reduceEqDiff, Nat.reduceMul, Int.reduceToNat, reduceIte, Int.reduceLE, Int.reduceNeg]; rfl)) ?_ | refine W.cond rfl (fun _ => ?_) (fun h => absurd h (by decide)) | refine W.cond rfl (fun h => absurd h (by decide)) (fun _ => ?_))
    refine W.regionDK tab_ok 0 follows_mixed (by kernel_rfl) (by decide) ?_
    refine runk_split 4 (by simp only [exa, beq_self_eq_true, ByteArray.size, Nat.reduceAdd, Nat.reduceLeDiff, Nat.reduceEqDiff, Nat.reduceMul, Int.reduceToNat, reduceIte, Int.reduceLE, Int.reduceNeg]; rfl) ?_
    refine runk_call rfl rfl rfl rfl rfl (by simp) (cvs_cons cv_refl (cvs_cons cv_refl cvs_nil)) (hy _) ?_
    refine runk_split 3 (by simp (disch := omega) only [exa, beq_self_eq_true, ByteArray.size, Nat.reduceAdd, Nat.reduceLeDiff, Nat.reduceEqDiff, Nat.reduceMul, Int.reduceToNat, reduceIte, Int.reduceLE, Int.reduceNeg, app_bytes, if_le, List.length_append, List.length_cons, List.length_nil]; rfl) ?_
    refine runk_call rfl rfl rfl rfl rfl (by simp) (cvs_cons cv_refl cvs_nil) (hg _) ?_
    refine runk_split 6 (by simp (disch := omega) only [exa, beq_self_eq_true, ByteArray.size, Nat.reduceAdd, Nat.reduceLeDiff, Nat.reduceEqDiff, Nat.reduceMul, Int.reduceToNat, reduceIte, Int.reduceLE, Int.reduceNeg, app_bytes, if_le, List.length_append, List.length_cons, List.length_nil]; rfl) ?_
    refine runk_call rfl rfl rfl rfl rfl (by simp) (cvs_cons cv_refl (cvs_cons cv_refl cvs_nil)) (hz _) ?_
    refine runk_exec (by simp (disch := omega) only [exa, beq_self_eq_true, ByteArray.size, Nat.reduceAdd, Nat.reduceLeDiff, Nat.reduceEqDiff, Nat.reduceMul, Int.reduceToNat, reduceIte, Int.reduceLE, Int.reduceNeg, app_bytes, if_le, List.length_append, List.length_cons, List.length_nil]; rfl) ?_
    refine W.ret ⟨.inr rfl, by rfl, ?_⟩
    simp only [Tryd.f19, resA, resOne, toT, fin, exa, beq_self_eq_true, ByteArray.size, Nat.reduceAdd, Nat.reduceLeDiff, Nat.reduceEqDiff, Nat.reduceMul, Int.reduceToNat, reduceIte, Int.reduceLE, Int.reduceNeg]
    all_goals (try simp [List.append_assoc])
  · obtain ⟨⟨yk, yn, ym, ys⟩, ⟨zk, zn, zm, zs⟩, rfl⟩ : ∃ y y2, kids = [y, y2] := two_of hlo hhi
    have hT : textX ⟨17, n, strX nl, [⟨yk, yn, ym, ys⟩, ⟨zk, zn, zm, zs⟩]⟩ = exprX ⟨yk, yn, ym, ys⟩ 2 ++ [32] ++ [60] ++ [32] ++ exprX ⟨zk, zn, zm, zs⟩ 2 := by
      rw [textX_eq, ← kidX_at (l := [⟨yk, yn, ym, ys⟩, ⟨zk, zn, zm, zs⟩]) (i := 0) rfl, ← kidX_at (l := [⟨yk, yn, ym, ys⟩, ⟨zk, zn, zm, zs⟩]) (i := 1) rfl]
      simp [bodyX, shapeOf, shapes, levX]
      all_goals rfl
    have hy := hA ⟨yk, yn, ym, ys⟩ (by simp) 2
    have hz := hA ⟨zk, zn, zm, zs⟩ (by simp) 2
    have hg := sign_ok 17 (by decide)
    have hgx : signX 17 = [60] := rfl
    rw [hgx] at hg
    rw [hT] at hfit ⊢
    simp only [List.length_append, List.length_cons, List.length_nil] at hfit
    obtain ⟨Y, hY⟩ : ∃ Y, exprX ⟨yk, yn, ym, ys⟩ 2 = Y := ⟨_, rfl⟩
    obtain ⟨Z, hZ⟩ : ∃ Z, exprX ⟨zk, zn, zm, zs⟩ 2 = Z := ⟨_, rfl⟩
    rw [hY] at hy hfit ⊢
    rw [hZ] at hz hfit ⊢
    clear hY hZ hT hA
    simp only [cExpr, cExprs] at hy hz ⊢
    refine (ok_pure tab_ok Tryd.func19 (by kernel_rfl) rfl rfl (by rfl) (by rfl) (by rfl) (fun R hkeep => ?_) m)
    repeat (first | refine W.seq ?_ | refine W.block ?_ | refine W.skip ?_ | refine W.exit ?_ | refine W.region tab_ok 0 (by decide) (exec_run (by simp only [exa, beq_self_eq_true, ByteArray.size, Nat.reduceAdd, Nat.reduceLeDiff, Nat.reduceEqDiff, Nat.reduceMul, Int.reduceToNat, reduceIte, Int.reduceLE, Int.reduceNeg]; rfl)) ?_ | refine W.cond rfl (fun _ => ?_) (fun h => absurd h (by decide)) | refine W.cond rfl (fun h => absurd h (by decide)) (fun _ => ?_))
    refine W.regionDK tab_ok 0 follows_mixed (by kernel_rfl) (by decide) ?_
    refine runk_split 4 (by simp only [exa, beq_self_eq_true, ByteArray.size, Nat.reduceAdd, Nat.reduceLeDiff, Nat.reduceEqDiff, Nat.reduceMul, Int.reduceToNat, reduceIte, Int.reduceLE, Int.reduceNeg]; rfl) ?_
    refine runk_call rfl rfl rfl rfl rfl (by simp) (cvs_cons cv_refl (cvs_cons cv_refl cvs_nil)) (hy _) ?_
    refine runk_split 3 (by simp (disch := omega) only [exa, beq_self_eq_true, ByteArray.size, Nat.reduceAdd, Nat.reduceLeDiff, Nat.reduceEqDiff, Nat.reduceMul, Int.reduceToNat, reduceIte, Int.reduceLE, Int.reduceNeg, app_bytes, if_le, List.length_append, List.length_cons, List.length_nil]; rfl) ?_
    refine runk_call rfl rfl rfl rfl rfl (by simp) (cvs_cons cv_refl cvs_nil) (hg _) ?_
    refine runk_split 6 (by simp (disch := omega) only [exa, beq_self_eq_true, ByteArray.size, Nat.reduceAdd, Nat.reduceLeDiff, Nat.reduceEqDiff, Nat.reduceMul, Int.reduceToNat, reduceIte, Int.reduceLE, Int.reduceNeg, app_bytes, if_le, List.length_append, List.length_cons, List.length_nil]; rfl) ?_
    refine runk_call rfl rfl rfl rfl rfl (by simp) (cvs_cons cv_refl (cvs_cons cv_refl cvs_nil)) (hz _) ?_
    refine runk_exec (by simp (disch := omega) only [exa, beq_self_eq_true, ByteArray.size, Nat.reduceAdd, Nat.reduceLeDiff, Nat.reduceEqDiff, Nat.reduceMul, Int.reduceToNat, reduceIte, Int.reduceLE, Int.reduceNeg, app_bytes, if_le, List.length_append, List.length_cons, List.length_nil]; rfl) ?_
    refine W.ret ⟨.inr rfl, by rfl, ?_⟩
    simp only [Tryd.f19, resA, resOne, toT, fin, exa, beq_self_eq_true, ByteArray.size, Nat.reduceAdd, Nat.reduceLeDiff, Nat.reduceEqDiff, Nat.reduceMul, Int.reduceToNat, reduceIte, Int.reduceLE, Int.reduceNeg]
    all_goals (try simp [List.append_assoc])
  · obtain ⟨⟨yk, yn, ym, ys⟩, ⟨zk, zn, zm, zs⟩, rfl⟩ : ∃ y y2, kids = [y, y2] := two_of hlo hhi
    have hT : textX ⟨18, n, strX nl, [⟨yk, yn, ym, ys⟩, ⟨zk, zn, zm, zs⟩]⟩ = exprX ⟨yk, yn, ym, ys⟩ 2 ++ [32] ++ [61, 61] ++ [32] ++ exprX ⟨zk, zn, zm, zs⟩ 2 := by
      rw [textX_eq, ← kidX_at (l := [⟨yk, yn, ym, ys⟩, ⟨zk, zn, zm, zs⟩]) (i := 0) rfl, ← kidX_at (l := [⟨yk, yn, ym, ys⟩, ⟨zk, zn, zm, zs⟩]) (i := 1) rfl]
      simp [bodyX, shapeOf, shapes, levX]
      all_goals rfl
    have hy := hA ⟨yk, yn, ym, ys⟩ (by simp) 2
    have hz := hA ⟨zk, zn, zm, zs⟩ (by simp) 2
    have hg := sign_ok 18 (by decide)
    have hgx : signX 18 = [61, 61] := rfl
    rw [hgx] at hg
    rw [hT] at hfit ⊢
    simp only [List.length_append, List.length_cons, List.length_nil] at hfit
    obtain ⟨Y, hY⟩ : ∃ Y, exprX ⟨yk, yn, ym, ys⟩ 2 = Y := ⟨_, rfl⟩
    obtain ⟨Z, hZ⟩ : ∃ Z, exprX ⟨zk, zn, zm, zs⟩ 2 = Z := ⟨_, rfl⟩
    rw [hY] at hy hfit ⊢
    rw [hZ] at hz hfit ⊢
    clear hY hZ hT hA
    simp only [cExpr, cExprs] at hy hz ⊢
    refine (ok_pure tab_ok Tryd.func19 (by kernel_rfl) rfl rfl (by rfl) (by rfl) (by rfl) (fun R hkeep => ?_) m)
    repeat (first | refine W.seq ?_ | refine W.block ?_ | refine W.skip ?_ | refine W.exit ?_ | refine W.region tab_ok 0 (by decide) (exec_run (by simp only [exa, beq_self_eq_true, ByteArray.size, Nat.reduceAdd, Nat.reduceLeDiff, Nat.reduceEqDiff, Nat.reduceMul, Int.reduceToNat, reduceIte, Int.reduceLE, Int.reduceNeg]; rfl)) ?_ | refine W.cond rfl (fun _ => ?_) (fun h => absurd h (by decide)) | refine W.cond rfl (fun h => absurd h (by decide)) (fun _ => ?_))
    refine W.regionDK tab_ok 0 follows_mixed (by kernel_rfl) (by decide) ?_
    refine runk_split 4 (by simp only [exa, beq_self_eq_true, ByteArray.size, Nat.reduceAdd, Nat.reduceLeDiff, Nat.reduceEqDiff, Nat.reduceMul, Int.reduceToNat, reduceIte, Int.reduceLE, Int.reduceNeg]; rfl) ?_
    refine runk_call rfl rfl rfl rfl rfl (by simp) (cvs_cons cv_refl (cvs_cons cv_refl cvs_nil)) (hy _) ?_
    refine runk_split 3 (by simp (disch := omega) only [exa, beq_self_eq_true, ByteArray.size, Nat.reduceAdd, Nat.reduceLeDiff, Nat.reduceEqDiff, Nat.reduceMul, Int.reduceToNat, reduceIte, Int.reduceLE, Int.reduceNeg, app_bytes, if_le, List.length_append, List.length_cons, List.length_nil]; rfl) ?_
    refine runk_call rfl rfl rfl rfl rfl (by simp) (cvs_cons cv_refl cvs_nil) (hg _) ?_
    refine runk_split 6 (by simp (disch := omega) only [exa, beq_self_eq_true, ByteArray.size, Nat.reduceAdd, Nat.reduceLeDiff, Nat.reduceEqDiff, Nat.reduceMul, Int.reduceToNat, reduceIte, Int.reduceLE, Int.reduceNeg, app_bytes, if_le, List.length_append, List.length_cons, List.length_nil]; rfl) ?_
    refine runk_call rfl rfl rfl rfl rfl (by simp) (cvs_cons cv_refl (cvs_cons cv_refl cvs_nil)) (hz _) ?_
    refine runk_exec (by simp (disch := omega) only [exa, beq_self_eq_true, ByteArray.size, Nat.reduceAdd, Nat.reduceLeDiff, Nat.reduceEqDiff, Nat.reduceMul, Int.reduceToNat, reduceIte, Int.reduceLE, Int.reduceNeg, app_bytes, if_le, List.length_append, List.length_cons, List.length_nil]; rfl) ?_
    refine W.ret ⟨.inr rfl, by rfl, ?_⟩
    simp only [Tryd.f19, resA, resOne, toT, fin, exa, beq_self_eq_true, ByteArray.size, Nat.reduceAdd, Nat.reduceLeDiff, Nat.reduceEqDiff, Nat.reduceMul, Int.reduceToNat, reduceIte, Int.reduceLE, Int.reduceNeg]
    all_goals (try simp [List.append_assoc])
end V
end Go.Proofs.YtbmbmcdaabhgnaaDoor
end
section
set_option linter.unusedVariables false
set_option linter.unusedSimpArgs false
namespace Go.Proofs.YtbmbmcdaabhgnaaDoor
namespace V
open Go.RowKit
theorem may01_ok (x : Expr) (m : Mem) : COk Tryd.prog 18 [.agg (cExpr x)] m (.c (.bool (exprB x))) := by
  refine ⟨enters_of Tryd.func18 (by kernel_rfl) rfl, rfl, fun m' _ => ?_⟩
  intro w0 I0 B I w vals hm hv
  match vals, hv with
  | [v], ⟨h1, _⟩ =>
    obtain ⟨us, rfl, h1⟩ := h1
    refine (mayExpr_any (dExpr x) w us x (rcs_expr (fun b o k => hm.there b o k) _ (Nat.le_refl _) h1)).mono ?_
    rintro e w' ⟨rfl, hb⟩
    exact ⟨_, I, rfl, hb, fun _ _ k => k, fun _ _ k => .inl k, .bool⟩
theorem textX_len2 {x : Expr} (hb : exprB x = true) (hc : cntE x ≤ 1048576) : (textX x).length ≤ 100000000 := by
  have := textX_len x hb
  omega
theorem lev_pos {x : Expr} (hx : exprB x = true) : ¬ levX x.kind < 1 := by
  have hk : 1 ≤ x.kind ∧ x.kind ≤ 18 := by
    rw [exprB_eq] at hx
    obtain ⟨htop, -⟩ := Bool.and_eq_true_iff.1 hx
    rw [exprTop_eq] at htop
    simp only [Bool.and_eq_true, decide_eq_true_eq] at htop
    obtain ⟨⟨⟨⟨⟨hkk, -⟩, -⟩, -⟩, -⟩, -⟩ := htop
    by_cases hk : 1 ≤ x.kind ∧ x.kind ≤ 18
    · exact hk
    · unfold shapeOf at hkk; rw [if_neg hk] at hkk; cases hkk
  generalize x.kind = k at hk
  have hcase : k = 1 ∨ k = 2 ∨ k = 3 ∨ k = 4 ∨ k = 5 ∨ k = 6 ∨ k = 7 ∨ k = 8 ∨ k = 9 ∨ k = 10 ∨ k = 11 ∨ k = 12 ∨ k = 13 ∨ k = 14 ∨ k = 15 ∨ k = 16 ∨ k = 17 ∨ k = 18 := by omega
  rcases hcase with rfl | rfl | rfl | rfl | rfl | rfl | rfl | rfl | rfl | rfl | rfl | rfl | rfl | rfl | rfl | rfl | rfl | rfl <;> decide
theorem exprX_one {x : Expr} (hx : exprB x = true) : exprX x 1 = textX x := by
  show (if levX x.kind < 1 then 40 :: (textX x ++ [41]) else textX x) = _
  rw [if_neg (lev_pos hx)]
theorem refX_ok (x : Expr) (hc : cntE x ≤ 1048576) (m : Mem) : COk Tryd.prog 8 [.agg (cExpr x)] m (.tup [(false, [.str (showX x).1]), (false, [.int .i64 (showX x).2])]) := by
  have hm := may01_ok x
  have ht : exprB x = true → ∀ m, COk Tryd.prog 19 [.agg (cExpr x)] m (.c (.str (strX (textX x)))) := fun hb => text_ok _ x (Nat.le_refl _) hb hc
  have hl : exprB x = true → (textX x).length ≤ 100000000 := fun hb => textX_len2 hb hc
  have hX : exprB x = true → showX x = if 8192 < (textX x).length then (⟨#[]⟩, 2) else (strX (textX x), 0) := fun hb => by
    unfold showX
    rw [if_pos hb, exprX_one hb]
  have hN : exprB x = false → showX x = (⟨#[]⟩, 30) := fun hb => by simp [showX, hb]
  obtain ⟨k, n, nm, kids⟩ := x
  simp only [cExpr] at hm ht ⊢
  refine (ok_pure tab_ok Tryd.func8 (by kernel_rfl) rfl rfl (by rfl) (by rfl) (by rfl) (fun R hkeep => ?_) m)
  repeat (first | refine W.seq ?_ | refine W.block ?_ | refine W.skip ?_ | refine W.exit ?_ | refine W.region tab_ok 0 (by decide) (exec_run (by simp only [exa, beq_self_eq_true, ByteArray.size, Nat.reduceAdd, Nat.reduceLeDiff, Nat.reduceEqDiff, Nat.reduceMul, Int.reduceToNat, reduceIte, Int.reduceLE, Int.reduceNeg]; rfl)) ?_)
  (repeat (first | refine W.seq ?_ | refine W.block ?_ | refine W.skip ?_))
  refine W.regionK tab_ok 0 (by decide) ?_
  refine runk_split 1 (by simp only [exa, beq_self_eq_true, ByteArray.size, Nat.reduceAdd, Nat.reduceLeDiff, Nat.reduceEqDiff, Nat.reduceMul, Int.reduceToNat, reduceIte, Int.reduceLE, Int.reduceNeg]; rfl) ?_
  refine runk_call rfl rfl rfl rfl rfl (by simp) (cvs_cons cv_refl cvs_nil) (hm _) ?_
  refine runk_exec (by simp only [exa, beq_self_eq_true, ByteArray.size, Nat.reduceAdd, Nat.reduceLeDiff, Nat.reduceEqDiff, Nat.reduceMul, Int.reduceToNat, reduceIte, Int.reduceLE, Int.reduceNeg]; rfl) ?_
  (repeat (first | refine W.seq ?_ | refine W.block ?_ | refine W.skip ?_))
  cases hb : exprB ⟨k, n, nm, kids⟩ with
  | false =>
    rw [hN hb]
    refine W.cond rfl (fun _ => ?_) (fun h => absurd h (by decide))
    repeat (first | refine W.seq ?_ | refine W.block ?_ | refine W.skip ?_ | refine W.exit ?_ | refine W.region tab_ok 0 (by decide) (exec_run (by simp only [exa, beq_self_eq_true, ByteArray.size, Nat.reduceAdd, Nat.reduceLeDiff, Nat.reduceEqDiff, Nat.reduceMul, Int.reduceToNat, reduceIte, Int.reduceLE, Int.reduceNeg]; rfl)) ?_)
    refine W.ret ⟨.inr rfl, by rfl, ?_⟩
    simp only [Tryd.f8, resA, resOne, toT, fin, exa, beq_self_eq_true, ByteArray.size, Nat.reduceAdd, Nat.reduceLeDiff, Nat.reduceEqDiff, Nat.reduceMul, Int.reduceToNat, reduceIte, Int.reduceLE, Int.reduceNeg]
  | true =>
    have hl := hl hb
    rw [hX hb]
    refine W.cond rfl (fun h => absurd h (by decide)) (fun _ => ?_)
    (repeat (first | refine W.seq ?_ | refine W.block ?_ | refine W.skip ?_))
    refine W.regionK tab_ok 0 (by decide) ?_
    refine runk_split 1 (by simp only [exa, beq_self_eq_true, ByteArray.size, Nat.reduceAdd, Nat.reduceLeDiff, Nat.reduceEqDiff, Nat.reduceMul, Int.reduceToNat, reduceIte, Int.reduceLE, Int.reduceNeg]; rfl) ?_
    refine runk_call rfl rfl rfl rfl rfl (by simp) (cvs_cons cv_refl cvs_nil) (ht hb _) ?_
    refine runk_exec (by simp only [exa, beq_self_eq_true, ByteArray.size, Nat.reduceAdd, Nat.reduceLeDiff, Nat.reduceEqDiff, Nat.reduceMul, Int.reduceToNat, reduceIte, Int.reduceLE, Int.reduceNeg]; rfl) ?_
    repeat (first | refine W.seq ?_ | refine W.block ?_ | refine W.skip ?_ | refine W.exit ?_ | refine W.region tab_ok 0 (by decide) (exec_run (by simp only [exa, beq_self_eq_true, ByteArray.size, Nat.reduceAdd, Nat.reduceLeDiff, Nat.reduceEqDiff, Nat.reduceMul, Int.reduceToNat, reduceIte, Int.reduceLE, Int.reduceNeg]; rfl)) ?_)
    by_cases h8 : 8192 < (textX ⟨k, n, nm, kids⟩).length
    · rw [if_pos h8]
      refine W.cond rfl (fun _ => ?_) (fun h => absurd h (by simp; omega))
      repeat (first | refine W.seq ?_ | refine W.block ?_ | refine W.skip ?_ | refine W.exit ?_ | refine W.region tab_ok 0 (by decide) (exec_run (by simp only [exa, beq_self_eq_true, ByteArray.size, Nat.reduceAdd, Nat.reduceLeDiff, Nat.reduceEqDiff, Nat.reduceMul, Int.reduceToNat, reduceIte, Int.reduceLE, Int.reduceNeg]; rfl)) ?_)
      refine W.ret ⟨.inr rfl, by rfl, ?_⟩
      simp only [Tryd.f8, resA, resOne, toT, fin, exa, beq_self_eq_true, ByteArray.size, Nat.reduceAdd, Nat.reduceLeDiff, Nat.reduceEqDiff, Nat.reduceMul, Int.reduceToNat, reduceIte, Int.reduceLE, Int.reduceNeg]
    · rw [if_neg h8]
      refine W.cond rfl (fun h => absurd h (by simp; omega)) (fun _ => ?_)
      repeat (first | refine W.seq ?_ | refine W.block ?_ | refine W.skip ?_ | refine W.exit ?_ | refine W.region tab_ok 0 (by decide) (exec_run (by simp only [exa, beq_self_eq_true, ByteArray.size, Nat.reduceAdd, Nat.reduceLeDiff, Nat.reduceEqDiff, Nat.reduceMul, Int.reduceToNat, reduceIte, Int.reduceLE, Int.reduceNeg]; rfl)) ?_)
      refine W.ret ⟨.inr rfl, by rfl, ?_⟩
      simp only [Tryd.f8, resA, resOne, toT, fin, exa, beq_self_eq_true, ByteArray.size, Nat.reduceAdd, Nat.reduceLeDiff, Nat.reduceEqDiff, Nat.reduceMul, Int.reduceToNat, reduceIte, Int.reduceLE, Int.reduceNeg]
def vX (s : ByteArray) : Expr := ⟨4, 0, s, []⟩
def nX (i : Int) : Expr := ⟨1, i, ⟨#[]⟩, []⟩
def opX (k : Int) (a b : Expr) : Expr := ⟨k, 0, ⟨#[]⟩, [a, b]⟩
theorem v_ok (s : ByteArray) (m : Mem) : COk Tryd.prog 21 [.c (.str s)] m (.agg (cExpr (vX s))) := by
  refine (ok_pure tab_ok Tryd.func21 (by kernel_rfl) rfl rfl (by rfl) (by rfl) (by rfl) (fun R hkeep => ?_) m)
  repeat (first | refine W.seq ?_ | refine W.block ?_ | refine W.skip ?_ | refine W.exit ?_ | refine W.region tab_ok 0 (by decide) (exec_run (by simp only [exa, beq_self_eq_true, ByteArray.size, Nat.reduceAdd, Nat.reduceLeDiff, Nat.reduceEqDiff, Nat.reduceMul, Int.reduceToNat, reduceIte, Int.reduceLE, Int.reduceNeg]; rfl)) ?_)
  refine W.ret ⟨.inr rfl, by rfl, ?_⟩
  simp only [Tryd.f21, resA, resOne, toT, fin, exa, beq_self_eq_true, ByteArray.size, Nat.reduceAdd, Nat.reduceLeDiff, Nat.reduceEqDiff, Nat.reduceMul, Int.reduceToNat, reduceIte, Int.reduceLE, Int.reduceNeg]
  simp [vX, cExpr, cExprs]
theorem n_ok (i : Int) (m : Mem) : COk Tryd.prog 22 [.c (.int .i64 i)] m (.agg (cExpr (nX i))) := by
  refine (ok_pure tab_ok Tryd.func22 (by kernel_rfl) rfl rfl (by rfl) (by rfl) (by rfl) (fun R hkeep => ?_) m)
  repeat (first | refine W.seq ?_ | refine W.block ?_ | refine W.skip ?_ | refine W.exit ?_ | refine W.region tab_ok 0 (by decide) (exec_run (by simp only [exa, beq_self_eq_true, ByteArray.size, Nat.reduceAdd, Nat.reduceLeDiff, Nat.reduceEqDiff, Nat.reduceMul, Int.reduceToNat, reduceIte, Int.reduceLE, Int.reduceNeg]; rfl)) ?_)
  refine W.ret ⟨.inr rfl, by rfl, ?_⟩
  simp only [Tryd.f22, resA, resOne, toT, fin, exa, beq_self_eq_true, ByteArray.size, Nat.reduceAdd, Nat.reduceLeDiff, Nat.reduceEqDiff, Nat.reduceMul, Int.reduceToNat, reduceIte, Int.reduceLE, Int.reduceNeg]
  simp [nX, cExpr, cExprs]
theorem op_ok (k : Int) (a b : Expr) (m : Mem) : COk Tryd.prog 20 [.c (.int .i64 k), .agg (cExpr a), .agg (cExpr b)] m (.agg (cExpr (opX k a b))) := by
  obtain ⟨ak, an, am, as1⟩ := a
  obtain ⟨bk, bn, bm, bs1⟩ := b
  simp only [cExpr, opX, cExprs]
  refine (ok_pure tab_ok Tryd.func20 (by kernel_rfl) rfl rfl (by rfl) (by rfl) (by rfl) (fun R hkeep => ?_) m)
  repeat (first | refine W.seq ?_ | refine W.block ?_ | refine W.skip ?_ | refine W.exit ?_ | refine W.region tab_ok 0 (by decide) (exec_run (by simp only [exa, beq_self_eq_true, ByteArray.size, Nat.reduceAdd, Nat.reduceLeDiff, Nat.reduceEqDiff, Nat.reduceMul, Int.reduceToNat, reduceIte, Int.reduceLE, Int.reduceNeg]; rfl)) ?_)
  refine W.ret ⟨.inr rfl, by rfl, ?_⟩
  simp only [Tryd.f20, resA, resOne, toT, fin, exa, beq_self_eq_true, ByteArray.size, Nat.reduceAdd, Nat.reduceLeDiff, Nat.reduceEqDiff, Nat.reduceMul, Int.reduceToNat, reduceIte, Int.reduceLE, Int.reduceNeg]
  all_goals (try simp)
def sX : ByteArray := ⟨#[120]⟩
def sY : ByteArray := ⟨#[121]⟩
def liveX : Expr := opX 17 (opX 13 (vX sX) (nX 1)) (opX 15 (nX 2) (opX 14 (vX sY) (nX 3)))
theorem live_text : showX liveX = (⟨#[120, 32, 43, 32, 49, 32, 60, 32, 50, 32, 42, 32, 40, 121, 32, 45, 32, 51, 41]⟩, 0) := by decide +kernel
theorem live_len : (exprX liveX 1).length ≤ 140737488351232 := by decide +kernel
theorem live3_ok (m : Mem) : COk Tryd.prog 9 [] m (.c (.bool true)) := by
  have h1 := showX_ok liveX (fun _ => live_len)
  rw [live_text] at h1
  refine (ok_pure tab_ok Tryd.func9 (by kernel_rfl) rfl rfl (by rfl) (by rfl) (by rfl) (fun R hkeep => ?_) m)
  repeat (first | refine W.seq ?_ | refine W.block ?_ | refine W.skip ?_ | refine W.exit ?_ | refine W.region tab_ok 0 (by decide) (exec_run (by simp only [exa, beq_self_eq_true, ByteArray.size, Nat.reduceAdd, Nat.reduceLeDiff, Nat.reduceEqDiff, Nat.reduceMul, Int.reduceToNat, reduceIte, Int.reduceLE, Int.reduceNeg]; rfl)) ?_)
  (repeat (first | refine W.seq ?_ | refine W.block ?_ | refine W.skip ?_))
  refine W.regionK tab_ok 0 (by decide) ?_
  refine runk_split 0 (by simp only [exa, beq_self_eq_true, ByteArray.size, Nat.reduceAdd, Nat.reduceLeDiff, Nat.reduceEqDiff, Nat.reduceMul, Int.reduceToNat, reduceIte, Int.reduceLE, Int.reduceNeg]; rfl) ?_
  refine runk_call rfl rfl rfl rfl rfl (by simp) (cvs_cons cv_refl cvs_nil) (v_ok sX _) ?_
  refine runk_split 0 (by simp only [exa, beq_self_eq_true, ByteArray.size, Nat.reduceAdd, Nat.reduceLeDiff, Nat.reduceEqDiff, Nat.reduceMul, Int.reduceToNat, reduceIte, Int.reduceLE, Int.reduceNeg]; rfl) ?_
  refine runk_call rfl rfl rfl rfl rfl (by simp) (cvs_cons cv_refl cvs_nil) (n_ok 1 _) ?_
  refine runk_split 0 (by simp only [exa, beq_self_eq_true, ByteArray.size, Nat.reduceAdd, Nat.reduceLeDiff, Nat.reduceEqDiff, Nat.reduceMul, Int.reduceToNat, reduceIte, Int.reduceLE, Int.reduceNeg]; rfl) ?_
  refine runk_call rfl rfl rfl rfl rfl (by simp) (cvs_cons cv_refl (cvs_cons cv_refl (cvs_cons cv_refl cvs_nil))) (op_ok 13 (vX sX) (nX 1) _) ?_
  refine runk_split 0 (by simp only [exa, beq_self_eq_true, ByteArray.size, Nat.reduceAdd, Nat.reduceLeDiff, Nat.reduceEqDiff, Nat.reduceMul, Int.reduceToNat, reduceIte, Int.reduceLE, Int.reduceNeg]; rfl) ?_
  refine runk_call rfl rfl rfl rfl rfl (by simp) (cvs_cons cv_refl cvs_nil) (n_ok 2 _) ?_
  refine runk_split 0 (by simp only [exa, beq_self_eq_true, ByteArray.size, Nat.reduceAdd, Nat.reduceLeDiff, Nat.reduceEqDiff, Nat.reduceMul, Int.reduceToNat, reduceIte, Int.reduceLE, Int.reduceNeg]; rfl) ?_
  refine runk_call rfl rfl rfl rfl rfl (by simp) (cvs_cons cv_refl cvs_nil) (v_ok sY _) ?_
  refine runk_split 0 (by simp only [exa, beq_self_eq_true, ByteArray.size, Nat.reduceAdd, Nat.reduceLeDiff, Nat.reduceEqDiff, Nat.reduceMul, Int.reduceToNat, reduceIte, Int.reduceLE, Int.reduceNeg]; rfl) ?_
  refine runk_call rfl rfl rfl rfl rfl (by simp) (cvs_cons cv_refl cvs_nil) (n_ok 3 _) ?_
  refine runk_split 0 (by simp only [exa, beq_self_eq_true, ByteArray.size, Nat.reduceAdd, Nat.reduceLeDiff, Nat.reduceEqDiff, Nat.reduceMul, Int.reduceToNat, reduceIte, Int.reduceLE, Int.reduceNeg]; rfl) ?_
  refine runk_call rfl rfl rfl rfl rfl (by simp) (cvs_cons cv_refl (cvs_cons cv_refl (cvs_cons cv_refl cvs_nil))) (op_ok 14 (vX sY) (nX 3) _) ?_
  refine runk_split 0 (by simp only [exa, beq_self_eq_true, ByteArray.size, Nat.reduceAdd, Nat.reduceLeDiff, Nat.reduceEqDiff, Nat.reduceMul, Int.reduceToNat, reduceIte, Int.reduceLE, Int.reduceNeg]; rfl) ?_
  refine runk_call rfl rfl rfl rfl rfl (by simp) (cvs_cons cv_refl (cvs_cons cv_refl (cvs_cons cv_refl cvs_nil))) (op_ok 15 (nX 2) (opX 14 (vX sY) (nX 3)) _) ?_
  refine runk_split 0 (by simp only [exa, beq_self_eq_true, ByteArray.size, Nat.reduceAdd, Nat.reduceLeDiff, Nat.reduceEqDiff, Nat.reduceMul, Int.reduceToNat, reduceIte, Int.reduceLE, Int.reduceNeg]; rfl) ?_
  refine runk_call rfl rfl rfl rfl rfl (by simp) (cvs_cons cv_refl (cvs_cons cv_refl (cvs_cons cv_refl cvs_nil))) (op_ok 17 (opX 13 (vX sX) (nX 1)) (opX 15 (nX 2) (opX 14 (vX sY) (nX 3))) _) ?_
  refine runk_split 0 (by simp only [exa, beq_self_eq_true, ByteArray.size, Nat.reduceAdd, Nat.reduceLeDiff, Nat.reduceEqDiff, Nat.reduceMul, Int.reduceToNat, reduceIte, Int.reduceLE, Int.reduceNeg]; rfl) ?_
  refine runk_call rfl rfl rfl rfl rfl (by simp) (cvs_cons cv_refl cvs_nil) (h1 _) ?_
  refine runk_exec (by simp only [exa, beq_self_eq_true, ByteArray.size, Nat.reduceAdd, Nat.reduceLeDiff, Nat.reduceEqDiff, Nat.reduceMul, Int.reduceToNat, reduceIte, Int.reduceLE, Int.reduceNeg]; rfl) ?_
  repeat (first | refine W.seq ?_ | refine W.block ?_ | refine W.skip ?_ | refine W.exit ?_ | refine W.region tab_ok 0 (by decide) (exec_run (by simp only [exa, beq_self_eq_true, ByteArray.size, Nat.reduceAdd, Nat.reduceLeDiff, Nat.reduceEqDiff, Nat.reduceMul, Int.reduceToNat, reduceIte, Int.reduceLE, Int.reduceNeg]; rfl)) ?_)
  refine W.ret ⟨.inr rfl, by rfl, ?_⟩
  simp only [Tryd.f9, resA, resOne, toT, fin, exa, beq_self_eq_true, ByteArray.size, Nat.reduceAdd, Nat.reduceLeDiff, Nat.reduceEqDiff, Nat.reduceMul, Int.reduceToNat, reduceIte, Int.reduceLE, Int.reduceNeg]
theorem lawExprs_ok (x : Expr) (hc : cntE x ≤ 1048576) (hs : exprB x = true → (exprX x 1).length ≤ 140737488351232) (m : Mem) : COk Tryd.prog 3 [.agg (cExpr x)] m (.c (.bool true)) := by
  have h1 := showX_ok x hs
  have h2 := refX_ok x hc
  obtain ⟨u, hu⟩ : ∃ u, showX x = u := ⟨_, rfl⟩
  rw [hu] at h1 h2
  obtain ⟨k, n, nm, kids⟩ := x
  simp only [cExpr] at h1 h2 ⊢
  refine (ok_pure tab_ok Tryd.func3 (by kernel_rfl) rfl rfl (by rfl) (by rfl) (by rfl) (fun R hkeep => ?_) m)
  repeat (first | refine W.seq ?_ | refine W.block ?_ | refine W.skip ?_ | refine W.exit ?_ | refine W.region tab_ok 0 (by decide) (exec_run (by simp only [exa, beq_self_eq_true, ByteArray.size, Nat.reduceAdd, Nat.reduceLeDiff, Nat.reduceEqDiff, Nat.reduceMul, Int.reduceToNat, reduceIte, Int.reduceLE, Int.reduceNeg]; rfl)) ?_)
  (repeat (first | refine W.seq ?_ | refine W.block ?_ | refine W.skip ?_))
  refine W.regionK tab_ok 0 (by decide) ?_
  refine runk_split 1 (by simp only [exa, beq_self_eq_true, ByteArray.size, Nat.reduceAdd, Nat.reduceLeDiff, Nat.reduceEqDiff, Nat.reduceMul, Int.reduceToNat, reduceIte, Int.reduceLE, Int.reduceNeg]; rfl) ?_
  refine runk_call rfl rfl rfl rfl rfl (by simp) (cvs_cons cv_refl cvs_nil) (h1 _) ?_
  refine runk_exec (by simp only [exa, beq_self_eq_true, ByteArray.size, Nat.reduceAdd, Nat.reduceLeDiff, Nat.reduceEqDiff, Nat.reduceMul, Int.reduceToNat, reduceIte, Int.reduceLE, Int.reduceNeg]; rfl) ?_
  (repeat (first | refine W.seq ?_ | refine W.block ?_ | refine W.skip ?_))
  refine W.regionK tab_ok 0 (by decide) ?_
  refine runk_split 1 (by simp only [exa, beq_self_eq_true, ByteArray.size, Nat.reduceAdd, Nat.reduceLeDiff, Nat.reduceEqDiff, Nat.reduceMul, Int.reduceToNat, reduceIte, Int.reduceLE, Int.reduceNeg]; rfl) ?_
  refine runk_call rfl rfl rfl rfl rfl (by simp) (cvs_cons cv_refl cvs_nil) (h2 _) ?_
  refine runk_exec (by simp only [exa, beq_self_eq_true, ByteArray.size, Nat.reduceAdd, Nat.reduceLeDiff, Nat.reduceEqDiff, Nat.reduceMul, Int.reduceToNat, reduceIte, Int.reduceLE, Int.reduceNeg]; rfl) ?_
  (repeat (first | refine W.seq ?_ | refine W.block ?_ | refine W.skip ?_))
  refine W.regionK tab_ok 0 (by decide) ?_
  refine runk_split 0 (by simp only [exa, beq_self_eq_true, ByteArray.size, Nat.reduceAdd, Nat.reduceLeDiff, Nat.reduceEqDiff, Nat.reduceMul, Int.reduceToNat, reduceIte, Int.reduceLE, Int.reduceNeg]; rfl) ?_
  refine runk_call rfl rfl rfl rfl rfl (by simp) cvs_nil (live3_ok _) ?_
  refine runk_exec (by simp only [exa, beq_self_eq_true, ByteArray.size, Nat.reduceAdd, Nat.reduceLeDiff, Nat.reduceEqDiff, Nat.reduceMul, Int.reduceToNat, reduceIte, Int.reduceLE, Int.reduceNeg, beq_self_eq_true]; rfl) ?_
  repeat (first | refine W.seq ?_ | refine W.block ?_ | refine W.skip ?_ | refine W.exit ?_ | refine W.region tab_ok 0 (by decide) (exec_run (by simp only [exa, beq_self_eq_true, ByteArray.size, Nat.reduceAdd, Nat.reduceLeDiff, Nat.reduceEqDiff, Nat.reduceMul, Int.reduceToNat, reduceIte, Int.reduceLE, Int.reduceNeg]; rfl)) ?_)
  refine W.ret ⟨.inr rfl, by rfl, ?_⟩
  simp only [Tryd.f3, resA, resOne, toT, fin, exa, beq_self_eq_true, ByteArray.size, Nat.reduceAdd, Nat.reduceLeDiff, Nat.reduceEqDiff, Nat.reduceMul, Int.reduceToNat, reduceIte, Int.reduceLE, Int.reduceNeg, beq_self_eq_true]
end V
end Go.Proofs.YtbmbmcdaabhgnaaDoor
end
section
set_option linter.unusedVariables false
set_option linter.unusedSimpArgs false
namespace Go.Proofs.YtbmbmcdaabhgnaaDoor
open Go.ChangeShapes Go.WideShapes Go.ChangeAt Go.RowKit
open Go.ChangeMaps (open_string shut_string)
open V
theorem showExprs_met (os : Os) : laidMet Tryd.prog Rows.showExprsUptoRow.laid ((laidWorld os).forCall (fun _ _ => 0) ⟨#[], #[.agg #[.int .i64 0, .int .i64 0, .string ⟨#[]⟩, .slice none 0 0]], []⟩).memory :=
  laidMet_of_run' 8 (by kernel_rfl) (by kernel_rfl)
theorem showExprs_reads (os : Os) {H : Type} (enc : TypeId × Value → H) : ∃ places, DataW.whole enc Tryd.prog ((laidWorld os).forCall (fun _ _ => 0) ⟨#[], #[.agg #[.int .i64 0, .int .i64 0, .string ⟨#[]⟩, .slice none 0 0]], []⟩).memory Tryd.f3.params.toList Rows.showExprsSpec.vars false (#[.agg #[.int .i64 0, .int .i64 0, .string ⟨#[]⟩, .slice none 0 0]] : Array Value).toList 8 = some ([.agg [.lit (.int .i64 0), .lit (.int .i64 0), .lit (.string []), .nil]], [], places) :=
  ⟨[], by kernel_rfl⟩
set_option maxRecDepth 100000 in
set_option maxHeartbeats 4000000 in
theorem showExprs_lifted (os : Os) (started : os.Started) (H : Type) (enc : TypeId × Value → H) (F : Stop.Interp) :
    ReturnsInHanded {} Tryd.checked os 3 .any ((Rows.OpenSpec.upto Rows.showExprsSpec).preRow enc Tryd.prog Tryd.f3 Rows.showExprsUptoRow.domain false Rows.showExprsUptoRow.laid) (((Rows.OpenSpec.upto Rows.showExprsSpec).at F).post enc Tryd.prog Tryd.f3 false true false false) := by
  obtain ⟨places, hx⟩ := showExprs_reads os enc
  refine returnsInHanded_of_row (C := Tryd.checked) (s := Rows.OpenSpec.upto Rows.showExprsSpec) own started (by kernel_rfl) Tryd.func3
    (witness_row_at (enc := enc) (C := Tryd.checked) false (laidWorld os) #[.agg #[.int .i64 0, .int .i64 0, .string ⟨#[]⟩, .slice none 0 0]] rfl (by kernel_rfl) (by kernel_rfl) (by kernel_rfl)
      (OpenSpec.preRow_of_cond 8 hx (by kernel_rfl) (fun k hk => by cases hk; rfl) (by kernel_rfl) (showExprs_met os))) ?_
  intro W base args ds gs before hval0 hW _ hcond hsz0 hL hsh _
  have hbulk : Rows.uptoBulkAll (ds ++ gs) ≤ 1048576 := of_decide_eq_true (hcond _ rfl)
  clear hcond
  have hval : ∀ (j : Nat) t v, Tryd.f3.params[j]? = some t → args[j]? = some v → Value.okWide Tryd.prog W .any base t v := hval0
  have hW' := hW
  obtain ⟨p, q, hA0, hV, rfl, hfz, hnd⟩ := hW
  have hA : DataW.TrodAll enc Tryd.prog W 0 (fun _ => true) true Tryd.f3.params.toList args.toList ds p := hA0
  have hsz : ∀ n ∈ DataW.weightsEach Tryd.prog (Tryd.f3.params.toList ++ Rows.showExprsSpec.plain.varTypes Tryd.prog) (ds ++ gs), n ≤ reachBytes := fun n hn => of_decide_eq_true (List.all_eq_true.1 hsz0 n hn)
  rw [Tryd.params3] at hA hval hsz
  clear hsz0
  obtain ⟨v0, vs0, d0, ds0, p0, q0, hargs, rfl, rfl, h0, r0⟩ := trodAll_cons hA
  obtain ⟨rfl, rfl, rfl⟩ := trodAll_nil r0
  obtain rfl : args = #[v0] := by cases args; simp_all
  obtain ⟨rfl, rfl⟩ := trodVars_none hV
  clear hA0 hval0
  simp only [List.append_nil] at hW'
  have k0 := h0
  have lt0 : ∀ x ∈ p0, x.block < W.heap.size := by obtain ⟨m, hm⟩ := k0; exact DataW.trod_lt m _ _ _ hm
  have hG : GlobOk W := ⟨cell_of_shapedOpen_int (zero := #[.int .i64 0]) (t := 3) hsh (of_decide_eq_true (by kernel_rfl)) (by kernel_rfl) rfl (by kernel_rfl) (by kernel_rfl) Tryd.underlying3, tens_of hL⟩
  have fit0 : Fits Tryd.prog 24 d0 := fun n hn => hsz n (DataW.weights_mem_each (j := 0) rfl rfl n hn)
  obtain ⟨cs0, rfl, -⟩ := okWide_struct Tryd.underlying24 (hval 0 24 v0 rfl rfl)
  obtain ⟨rn0, h0⟩ := h0
  obtain ⟨x0, R0⟩ := read_expr rn0 fit0 h0
  replace R0 : RExpr rn0 W (· < W.heap.size) cs0.toList x0 := by simpa [Value.cells] using R0
  have hc0 : cntE x0 ≤ 1048576 := Nat.le_trans (expr_cnt _ _ _ _ _ R0 h0) (Nat.le_trans (bulk_mem (by simp)) hbulk)
  refine (cok_true (vals := [_]) (lawExprs_ok x0 hc0 (fun hb => expr_short hc0 1 hb) _) hG (fun B => ⟨rv_expr R0, trivial⟩)).mono fun e W' ⟨he, bel⟩ => ?_
  subst he
  exact ⟨_, rfl, _, _, _, [], _, [], hW', trodAll_mk1 (shut_bool Tryd.underlying4 _), trodAll_cons_mk (Below.trod laidOut (by kernel_rfl) (of_decide_eq_true (by kernel_rfl)) k0 bel lt0) trodAll_mk0, rfl, bel.frame _, fun h => by cases h⟩
theorem showExprs_holds : Rows.ShowExprsUptoSaid :=
  OpenClaim.holds_of_cond 3 Tryd.f3 rfl rfl rfl rfl rfl rfl rfl ⟨rfl, rfl, rfl, rfl, rfl⟩ rfl rfl rfl rfl rfl (by kernel_rfl) Tryd.func3 (by kernel_rfl)
    (of_decide_eq_true (by kernel_rfl)) (by unfold Func.isWrapper; first | (rw [if_pos (by decide +kernel)]; kernel_rfl) | (rw [if_neg (by decide +kernel)]; exact ⟨rfl, rfl⟩))
    (fun os started H enc _ F => by rw [OpenClaim.pre_eq_preRow]; exact showExprs_lifted os started H enc F)
theorem showExprs_plain (f : FuncId) (fn : Func) (hf : Tryd.pinned.checked.prog.funcNamed "mordant/mordantlaw03.ShowExprs" = some f) (hfn : Tryd.pinned.checked.prog.funcs[f]? = some fn) :
    false = Tryd.pinned.checked.prog.looks [] ∧ ∀ (j : Nat) t, fn.params[j]? = some t → Tryd.pinned.checked.prog.wantsStandIn t = false := by
  obtain rfl : f = 3 := Option.some.inj ((show Tryd.prog.funcNamed "mordant/mordantlaw03.ShowExprs" = some 3 by kernel_rfl).symm.trans hf) |>.symm
  obtain rfl : fn = Tryd.f3 := (Option.some.inj (Tryd.func3.symm.trans hfn)).symm
  refine ⟨by kernel_rfl, fun j t ht => ?_⟩
  have hall : Tryd.f3.params.all (fun t => !Tryd.prog.wantsStandIn t) = true := by kernel_rfl
  have := Array.all_eq_true'.1 hall t (Array.mem_of_getElem? ht)
  have h2 : Tryd.prog.wantsStandIn t = false := by simpa using this
  exact h2
theorem showExprs_card : Rows.ShowExprsUptoCardSaid :=
  Claim7.holds_tied_plain_at .later [] _ _ _ _ showExprs_holds (fun _ h => by cases h) (by kernel_rfl) (fun _ h => by cases h) showExprsUpto_row_tie rfl ⟨rfl, rfl⟩ (by kernel_rfl) rfl showExprs_plain (by kernel_rfl)
end Go.Proofs.YtbmbmcdaabhgnaaDoor
end
