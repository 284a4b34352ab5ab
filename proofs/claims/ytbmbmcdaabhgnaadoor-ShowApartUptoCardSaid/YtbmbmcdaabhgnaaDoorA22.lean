/- Joined by my own program, in build order: St, Ts, Tsj, Vz3, Tt, Sm2, La4, La6, LawAp3. -/
import Derived.Test.YtbmbmcdaabhgnaaDoorA21
import Derived.Test.YtbmbmcdaabhgnaaDoorA19
import Derived.Test.YtbmbmcdaabhgnaaDoorA14
import Derived.Test.YtbmbmcdaabhgnaaDoorA20
import Derived.Test.YtbmbmcdaabhgnaaDoorA10
import Derived.Test.YtbmbmcdaabhgnaaDoorA15
import Derived.Test.YtbmbmcdaabhgnaaDoorCards
import Derived.Test.YtbmbmcdaabhgnaaDoorTie
set_option linter.unusedVariables false
set_option linter.unusedSimpArgs false
section
set_option linter.unusedVariables false
set_option linter.unusedSimpArgs false
namespace Go.Proofs.YtbmbmcdaabhgnaaDoor
namespace V
open Go.RowKit
section
variable {M1 : Mem} {j q : Nat} {u0 : Bool} {t : Nat} {bs0 : List UInt8}
theorem lineM (h : PgAt M1 j q u0 t bs0) (u : Bool) (bs : List UInt8) (l : List ByteArray) (hl : l.length ≤ 1000000000) (hs : bs.length + t + (txtB l).length ≤ 140737488351232) :
    CallE Tryd.prog 24 [.ptr j 0, .c (.sl (l.map cStr))] (pgM M1 j q u t bs) [q] (.tup []) (pgM M1 j q true t (bs ++ tabX t ++ txtB l)) := by
  have := line_ok (h.pgM (u' := u) (t' := (t : Int)) (bs' := bs)) l hl hs
  rwa [pgM_pgM h.ne] at this
theorem blockM (h : PgAt M1 j q u0 t bs0) {b : Nat} (hM : ∀ d, M1 (b + d) = none) {l : List Stmt} (hx : ∀ x ∈ l, StmtAt x) (hl : l.length ≤ 1000000000) (u : Bool) (bs : List UInt8) (hs : bs.length + (brcX t (stmtsX l (t + 1))).length ≤ 140737488351232) :
    CallE Tryd.prog 26 [.ptr j 0, .c (.sl (cStmts l))] (pgM M1 j q u t bs) [q] (.tup []) (pgM M1 j q true t (bs ++ brcX t (stmtsX l (t + 1)))) := by
  have := block_ok (h.pgM (u' := u) (t' := (t : Int)) (bs' := bs)) (fun d => pgM_none h (hM d)) l hx hl hs
  rwa [pgM_pgM h.ne] at this
end
theorem cExprs_len (l : List Expr) : (cExprs l).length = l.length := by rw [cExprs_map, List.length_map]
theorem cStmts_len (l : List Stmt) : (cStmts l).length = l.length := by rw [cStmts_map, List.length_map]
theorem twoK {es : List Expr} (h : es.length = 2) : ∃ y z, es = [y, z] := by
  match es, h with
  | [y, z], _ => exact ⟨y, z, rfl⟩
set_option maxHeartbeats 8000000 in
theorem stmt_at : ∀ (z : Nat) (s : Stmt), SizeOf.sizeOf s ≤ z → stmtB s = true → cntS s ≤ 1048576 → StmtAt s := by
  intro z
  induction z using Nat.strongRecOn with
  | ind z ih =>
  intro s hz hx hcnt M j q u t bs b h hM hs
  obtain ⟨sk, n, ty, nm, es, th, el⟩ := s
  obtain ⟨hk17, fe, -, -, -, -, fx, ft, fl⟩ := stmt_facts hx
  simp only [cntS] at hcnt
  have hsz := Stmt.mk.sizeOf_spec sk n ty nm es th el
  have hE : ∀ y ∈ es, ExprAt y := fun y hy => expr_at _ y (Nat.le_refl _) (fx y hy)
  have hTh : ∀ y ∈ th, StmtAt y := fun y hy => ih (SizeOf.sizeOf y) (by have := List.sizeOf_lt_of_mem hy; omega) y (Nat.le_refl _) (ft y hy) (by have := cntS_mem hy; omega)
  have hEl : ∀ y ∈ el, StmtAt y := fun y hy => ih (SizeOf.sizeOf y) (by have := List.sizeOf_lt_of_mem hy; omega) y (Nat.le_refl _) (fl y hy) (by have := cntS_mem hy; omega)
  have hlT : th.length ≤ 1000000000 := Nat.le_trans (cntSs_len th) (by omega)
  have hlL : el.length ≤ 1000000000 := Nat.le_trans (cntSs_len el) (by omega)
  have hlen : es.length ≤ 1000000000 := by
    rw [fe]; split
    · omega
    · split <;> decide
  have hjs : (M j).isSome = true := by rw [h.box]; rfl
  have hqs : (M q).isSome = true := by rw [h.row]; rfl
  have bj : ∀ d, j ≠ b + d := fun d k => by have := hM d; rw [← k] at this; rw [this] at hjs; cases hjs
  have bq : ∀ d, q ≠ b + d := fun d k => by have := hM d; rw [← k] at this; rw [this] at hqs; cases hqs
  have htl := tabX_len t
  have hT : stmtX ⟨sk, n, ty, nm, es, th, el⟩ t = tabX t ++ bodyS sk n ty.data.toList nm.data.toList es t (stmtsX th (t + 1)) (stmtsX el (t + 1)) el.isEmpty := by simp [stmtX]
  rw [hT, List.length_append, htl] at hs
  refine (ok_eff tab_ok [q] Tryd.func51 (by kernel_rfl) rfl rfl (by rfl) (by rfl) ?ids ?res ?sub ?wfm (fun hWF Rr hkeep => ?_))
  case ids => intro a ha i hi; simp at ha; rcases ha with rfl | rfl <;> simp [A.ids] at hi; subst hi; exact hjs
  case res => intro i hi; simp [A.ids] at hi
  case sub => exact pgM_live
  case wfm => exact pgM_wf h
  have nkq : ¬ Rr.keep q := by rw [hkeep]; intro hh; exact hh.2 (by simp)
  have jq : (j = q) = False := eq_false h.ne
  have b3q : (b + 3 = q) = False := eq_false (Ne.symm (bq 3))
  have hM3 := hM 3
  repeat (first | refine W.seq ?_ | refine W.block ?_ | refine W.skip ?_ | refine W.exit ?_ | refine W.region tab_ok b (by decide) (exec_run (by simp only [exa, beq_self_eq_true, ByteArray.size, Nat.reduceAdd, Nat.reduceLeDiff, Nat.reduceEqDiff, Nat.reduceMul, Int.reduceToNat, reduceIte, Int.reduceLE, Int.reduceNeg, cStmt, hM3]; rfl)) ?_)
  obtain ⟨M1, hM1⟩ : ∃ M1, M1 = upd M (b + 3) (some (.box 39 [.c (.int .i64 sk), .c (.int .i64 n), .c (.str ty), .c (.str nm), .c (.sl (cExprs es)), .c (.sl (cStmts th)), .c (.sl (cStmts el))])) := ⟨_, rfl⟩
  rw [← hM1]
  have m3 : M1 (b + 3) = some (.box 39 [.c (.int .i64 sk), .c (.int .i64 n), .c (.str ty), .c (.str nm), .c (.sl (cExprs es)), .c (.sl (cStmts th)), .c (.sl (cStmts el))]) := by rw [hM1, upd_same]
  have h1 : PgAt M1 j q u t bs := by rw [hM1]; exact h.new hM3 rfl
  have f1' : ∀ d, M1 (b + 4 + d) = none := fun d => by rw [hM1, upd_ne _ _ (by omega), Nat.add_assoc]; exact hM _
  have off : ∀ (u' : Bool) (bs' : List UInt8), MLe (pgM M1 j q u' t bs') (pgM M j q u' t bs') := fun u' bs' => by
    rw [hM1, pgM_upd (bj 3) (bq 3)]
    exact mle_off (pgM_none h hM3)
  have hm3 : ∀ u' bs', pgM M1 j q u' t bs' (b + 3) = some (.box 39 [.c (.int .i64 sk), .c (.int .i64 n), .c (.str ty), .c (.str nm), .c (.sl (cExprs es)), .c (.sl (cStmts th)), .c (.sl (cStmts el))]) := fun u' bs' => by
    unfold pgM; rw [upd_ne _ _ (Ne.symm (bq 3)), upd_ne _ _ (Ne.symm (bj 3)), m3]
  have hsame : pgM M1 j q u t bs = M1 := pgM_same h1
  have hl0 := lineM h1 u bs [] (by decide) (by simp [txtB]; omega)
  rw [hsame, show txtB [] = [] from rfl, List.append_nil] at hl0
  clear hM1 h hM ih hx hz hsz hcnt
  refine W.regionK tab_ok b (by decide) ?_
  refine runk_split 1 (by simp only [exa, beq_self_eq_true, ByteArray.size, Nat.reduceAdd, Nat.reduceLeDiff, Nat.reduceEqDiff, Nat.reduceMul, Int.reduceToNat, reduceIte, Int.reduceLE, Int.reduceNeg, m3]; rfl) ?_
  refine runk_callE (D := [q]) rfl rfl rfl rfl rfl (fun i hi => by simp at hi; subst hi; exact nkq) (by simp) (cvs_cons cv_refl (cvs_cons (by first | exact cv_refl | exact cv_nil) cvs_nil)) hl0 ?_
  simp only [killL, putS]
  refine runk_exec (by simp only [exa, beq_self_eq_true, ByteArray.size, Nat.reduceAdd, Nat.reduceLeDiff, Nat.reduceEqDiff, Nat.reduceMul, Int.reduceToNat, reduceIte, Int.reduceLE, Int.reduceNeg]; rfl) ?_
  obtain ⟨B0, hB0⟩ : ∃ B0, B0 = bs ++ tabX t := ⟨_, rfl⟩
  have hlB : B0.length = bs.length + t := by rw [hB0, List.length_append, htl]
  have hT : bs ++ stmtX ⟨sk, n, ty, nm, es, th, el⟩ t = B0 ++ bodyS sk n ty.data.toList nm.data.toList es t (stmtsX th (t + 1)) (stmtsX el (t + 1)) el.isEmpty := by rw [hT, hB0]; simp
  rw [← hB0, hT]
  clear hB0 hl0
  have f1 := f1'
  have hcase : sk = 1 ∨ sk = 2 ∨ sk = 3 ∨ sk = 4 ∨ sk = 5 ∨ sk = 6 ∨ sk = 7 := by omega
  rcases hcase with rfl | rfl | rfl | rfl | rfl | rfl | rfl
  · cases hes : es.isEmpty with
    | true =>
      have hze : (cExprs es).length = 0 := by rw [cExprs_len, List.isEmpty_iff.1 hes]; rfl
      have hbd : bodyS 1 n ty.data.toList nm.data.toList es t (stmtsX th (t + 1)) (stmtsX el (t + 1)) el.isEmpty = ty.data.toList ++ [32] ++ nm.data.toList ++ [59, 10] := by simp [bodyS, hes]
      rw [hbd] at hs
      repeat (first | refine W.seq ?_ | refine W.block ?_ | refine W.skip ?_ | refine W.exit ?_ | refine W.region tab_ok b (by decide) (exec_run (by simp only [exa, beq_self_eq_true, ByteArray.size, Nat.reduceAdd, Nat.reduceLeDiff, Nat.reduceEqDiff, Nat.reduceMul, Int.reduceToNat, reduceIte, Int.reduceLE, Int.reduceNeg, killS_app, A.kill, jq, b3q, if_false, hm3]; rfl)) ?_)
      refine W.cond rfl (fun _ => ?_) (fun h => absurd h (by decide))
      (repeat (first | refine W.seq ?_ | refine W.block ?_ | refine W.skip ?_ | refine W.exit ?_))
      (repeat (first | refine W.seq ?_ | refine W.block ?_ | refine W.skip ?_ | refine W.exit ?_))
      refine W.regionK tab_ok b (by decide) ?_
      refine runk_split 6 (by simp only [exa, beq_self_eq_true, ByteArray.size, Nat.reduceAdd, Nat.reduceLeDiff, Nat.reduceEqDiff, Nat.reduceMul, Int.reduceToNat, reduceIte, Int.reduceLE, Int.reduceNeg, killS_app, A.kill, jq, b3q, if_false, hm3]; rfl) ?_
      refine runk_callE (D := [q]) rfl rfl rfl rfl rfl (fun i hi => by simp at hi; subst hi; exact nkq) (by simp) (by first | exact cvs_cons cv_refl (cvs_cons cv_refl cvs_nil) | exact cvs_cons cv_refl (cvs_cons cv_refl (cvs_cons cv_refl cvs_nil))) (layM h1 true B0 [ty, ⟨#[32]⟩, nm] (by simp) (by simp) (by have hf := hs; simp [txtB] at hf ⊢; omega)) ?_
      simp only [killL, putS]
      refine runk_exec (by simp only [exa, beq_self_eq_true, ByteArray.size, Nat.reduceAdd, Nat.reduceLeDiff, Nat.reduceEqDiff, Nat.reduceMul, Int.reduceToNat, reduceIte, Int.reduceLE, Int.reduceNeg]; rfl) ?_
      repeat (first | refine W.seq ?_ | refine W.block ?_ | refine W.skip ?_ | refine W.exit ?_ | refine W.region tab_ok b (by decide) (exec_run (by simp only [exa, beq_self_eq_true, ByteArray.size, Nat.reduceAdd, Nat.reduceLeDiff, Nat.reduceEqDiff, Nat.reduceMul, Int.reduceToNat, reduceIte, Int.reduceLE, Int.reduceNeg, killS_app, A.kill, jq, b3q, if_false, hm3]; rfl)) ?_)
      refine W.cond rfl (fun h => absurd (of_decide_eq_true h) (by omega)) (fun _ => ?_)
      (repeat (first | refine W.seq ?_ | refine W.block ?_ | refine W.skip ?_ | refine W.exit ?_))
      refine W.regionK tab_ok b (by decide) ?_
      refine runk_split 2 (by simp only [exa, beq_self_eq_true, ByteArray.size, Nat.reduceAdd, Nat.reduceLeDiff, Nat.reduceEqDiff, Nat.reduceMul, Int.reduceToNat, reduceIte, Int.reduceLE, Int.reduceNeg, killS_app, A.kill, jq, b3q, if_false, hm3]; rfl) ?_
      refine runk_callE (D := [q]) rfl rfl rfl rfl rfl (fun i hi => by simp at hi; subst hi; exact nkq) (by simp) (by first | exact cvs_cons cv_refl (cvs_cons cv_refl cvs_nil) | exact cvs_cons cv_refl (cvs_cons cv_refl (cvs_cons cv_refl cvs_nil))) (layM h1 true (B0 ++ txtB [ty, ⟨#[32]⟩, nm]) [⟨#[59, 10]⟩] (by simp) (by simp) (by have hf := hs; simp [txtB] at hf ⊢; omega)) ?_
      simp only [killL, putS]
      refine runk_exec (by simp only [exa, beq_self_eq_true, ByteArray.size, Nat.reduceAdd, Nat.reduceLeDiff, Nat.reduceEqDiff, Nat.reduceMul, Int.reduceToNat, reduceIte, Int.reduceLE, Int.reduceNeg]; rfl) ?_
      refine ⟨by simp, by rfl, by rfl, ?_⟩
      refine mle_eq (congrArg (pgM M j q true t) ?_) (off _ _)
      rw [hbd]
      simp [txtB, List.append_assoc]
    | false =>
      have hne : 0 < (cExprs es).length := by
        rw [cExprs_len]
        cases es with
        | nil => cases hes
        | cons a b => simp
      have hbd : bodyS 1 n ty.data.toList nm.data.toList es t (stmtsX th (t + 1)) (stmtsX el (t + 1)) el.isEmpty = ty.data.toList ++ [32] ++ nm.data.toList ++ ([32, 61, 32] ++ listE es) ++ [59, 10] := by simp [bodyS, hes]
      rw [hbd] at hs
      repeat (first | refine W.seq ?_ | refine W.block ?_ | refine W.skip ?_ | refine W.exit ?_ | refine W.region tab_ok b (by decide) (exec_run (by simp only [exa, beq_self_eq_true, ByteArray.size, Nat.reduceAdd, Nat.reduceLeDiff, Nat.reduceEqDiff, Nat.reduceMul, Int.reduceToNat, reduceIte, Int.reduceLE, Int.reduceNeg, killS_app, A.kill, jq, b3q, if_false, hm3]; rfl)) ?_)
      refine W.cond rfl (fun _ => ?_) (fun h => absurd h (by decide))
      (repeat (first | refine W.seq ?_ | refine W.block ?_ | refine W.skip ?_ | refine W.exit ?_))
      (repeat (first | refine W.seq ?_ | refine W.block ?_ | refine W.skip ?_ | refine W.exit ?_))
      refine W.regionK tab_ok b (by decide) ?_
      refine runk_split 6 (by simp only [exa, beq_self_eq_true, ByteArray.size, Nat.reduceAdd, Nat.reduceLeDiff, Nat.reduceEqDiff, Nat.reduceMul, Int.reduceToNat, reduceIte, Int.reduceLE, Int.reduceNeg, killS_app, A.kill, jq, b3q, if_false, hm3]; rfl) ?_
      refine runk_callE (D := [q]) rfl rfl rfl rfl rfl (fun i hi => by simp at hi; subst hi; exact nkq) (by simp) (by first | exact cvs_cons cv_refl (cvs_cons cv_refl cvs_nil) | exact cvs_cons cv_refl (cvs_cons cv_refl (cvs_cons cv_refl cvs_nil))) (layM h1 true B0 [ty, ⟨#[32]⟩, nm] (by simp) (by simp) (by have hf := hs; simp [txtB] at hf ⊢; omega)) ?_
      simp only [killL, putS]
      refine runk_exec (by simp only [exa, beq_self_eq_true, ByteArray.size, Nat.reduceAdd, Nat.reduceLeDiff, Nat.reduceEqDiff, Nat.reduceMul, Int.reduceToNat, reduceIte, Int.reduceLE, Int.reduceNeg]; rfl) ?_
      repeat (first | refine W.seq ?_ | refine W.block ?_ | refine W.skip ?_ | refine W.exit ?_ | refine W.region tab_ok b (by decide) (exec_run (by simp only [exa, beq_self_eq_true, ByteArray.size, Nat.reduceAdd, Nat.reduceLeDiff, Nat.reduceEqDiff, Nat.reduceMul, Int.reduceToNat, reduceIte, Int.reduceLE, Int.reduceNeg, killS_app, A.kill, jq, b3q, if_false, hm3]; rfl)) ?_)
      refine W.cond rfl (fun _ => ?_) (fun h => absurd (of_decide_eq_false h) (by omega))
      (repeat (first | refine W.seq ?_ | refine W.block ?_ | refine W.skip ?_ | refine W.exit ?_))
      refine W.regionK tab_ok b (by decide) ?_
      refine runk_split 2 (by simp only [exa, beq_self_eq_true, ByteArray.size, Nat.reduceAdd, Nat.reduceLeDiff, Nat.reduceEqDiff, Nat.reduceMul, Int.reduceToNat, reduceIte, Int.reduceLE, Int.reduceNeg, killS_app, A.kill, jq, b3q, if_false, hm3]; rfl) ?_
      refine runk_callE (D := [q]) rfl rfl rfl rfl rfl (fun i hi => by simp at hi; subst hi; exact nkq) (by simp) (by first | exact cvs_cons cv_refl (cvs_cons cv_refl cvs_nil) | exact cvs_cons cv_refl (cvs_cons cv_refl (cvs_cons cv_refl cvs_nil))) (layM h1 true (B0 ++ txtB [ty, ⟨#[32]⟩, nm]) [⟨#[32, 61, 32]⟩] (by simp) (by simp) (by have hf := hs; simp [txtB] at hf ⊢; omega)) ?_
      simp only [killL, putS]
      refine runk_exec (by simp only [exa, beq_self_eq_true, ByteArray.size, Nat.reduceAdd, Nat.reduceLeDiff, Nat.reduceEqDiff, Nat.reduceMul, Int.reduceToNat, reduceIte, Int.reduceLE, Int.reduceNeg]; rfl) ?_
      (repeat (first | refine W.seq ?_ | refine W.block ?_ | refine W.skip ?_ | refine W.exit ?_))
      refine W.regionK tab_ok b (by decide) ?_
      refine runk_split 3 (by simp only [exa, beq_self_eq_true, ByteArray.size, Nat.reduceAdd, Nat.reduceLeDiff, Nat.reduceEqDiff, Nat.reduceMul, Int.reduceToNat, reduceIte, Int.reduceLE, Int.reduceNeg, killS_app, A.kill, jq, b3q, if_false, hm3]; rfl) ?_
      refine runk_callE (D := [q]) rfl rfl rfl rfl rfl (fun i hi => by simp at hi; subst hi; exact nkq) (by simp) (by first | exact cvs_cons cv_refl (cvs_cons cv_refl cvs_nil) | exact cvs_cons cv_refl (cvs_cons cv_refl (cvs_cons cv_refl cvs_nil))) (listM h1 f1 (l := es) hE hlen true (B0 ++ txtB [ty, ⟨#[32]⟩, nm] ++ txtB [⟨#[32, 61, 32]⟩]) ⟨#[]⟩ (by show _ + _ + 0 ≤ _; have hf := hs; simp [txtB] at hf ⊢; omega)) ?_
      simp only [killL, putS]
      refine runk_exec (by simp only [exa, beq_self_eq_true, ByteArray.size, Nat.reduceAdd, Nat.reduceLeDiff, Nat.reduceEqDiff, Nat.reduceMul, Int.reduceToNat, reduceIte, Int.reduceLE, Int.reduceNeg]; rfl) ?_
      (repeat (first | refine W.seq ?_ | refine W.block ?_ | refine W.skip ?_ | refine W.exit ?_))
      refine W.regionK tab_ok b (by decide) ?_
      refine runk_split 2 (by simp only [exa, beq_self_eq_true, ByteArray.size, Nat.reduceAdd, Nat.reduceLeDiff, Nat.reduceEqDiff, Nat.reduceMul, Int.reduceToNat, reduceIte, Int.reduceLE, Int.reduceNeg, killS_app, A.kill, jq, b3q, if_false, hm3]; rfl) ?_
      refine runk_callE (D := [q]) rfl rfl rfl rfl rfl (fun i hi => by simp at hi; subst hi; exact nkq) (by simp) (by first | exact cvs_cons cv_refl (cvs_cons cv_refl cvs_nil) | exact cvs_cons cv_refl (cvs_cons cv_refl (cvs_cons cv_refl cvs_nil))) (layM h1 true (B0 ++ txtB [ty, ⟨#[32]⟩, nm] ++ txtB [⟨#[32, 61, 32]⟩] ++ listE es) [⟨#[59, 10]⟩] (by simp) (by simp) (by have hf := hs; simp [txtB] at hf ⊢; omega)) ?_
      simp only [killL, putS]
      refine runk_exec (by simp only [exa, beq_self_eq_true, ByteArray.size, Nat.reduceAdd, Nat.reduceLeDiff, Nat.reduceEqDiff, Nat.reduceMul, Int.reduceToNat, reduceIte, Int.reduceLE, Int.reduceNeg]; rfl) ?_
      refine ⟨by simp, by rfl, by rfl, ?_⟩
      refine mle_eq (congrArg (pgM M j q true t) ?_) (off _ _)
      rw [hbd]
      simp [txtB, List.append_assoc]
  · obtain ⟨⟨yk, yn, ym, ys⟩, ⟨zk, zn, zm, zs⟩, rfl⟩ : ∃ y z, es = [y, z] := twoK (by rw [fe]; rfl)
    have hbd : bodyS 2 n ty.data.toList nm.data.toList [⟨yk, yn, ym, ys⟩, ⟨zk, zn, zm, zs⟩] t (stmtsX th (t + 1)) (stmtsX el (t + 1)) el.isEmpty = exprX ⟨yk, yn, ym, ys⟩ 1 ++ [32, 61, 32] ++ exprX ⟨zk, zn, zm, zs⟩ 1 ++ [59, 10] := by simp [bodyS, exprI]
    rw [hbd] at hs
    repeat (first | refine W.seq ?_ | refine W.block ?_ | refine W.skip ?_ | refine W.exit ?_ | refine W.region tab_ok b (by decide) (exec_run (by simp only [exa, beq_self_eq_true, ByteArray.size, Nat.reduceAdd, Nat.reduceLeDiff, Nat.reduceEqDiff, Nat.reduceMul, Int.reduceToNat, reduceIte, Int.reduceLE, Int.reduceNeg, killS_app, A.kill, jq, b3q, if_false, hm3]; rfl)) ?_)
    iterate 1 (refine W.cond rfl (fun h => absurd h (by decide)) (fun _ => ?_); repeat (first | refine W.seq ?_ | refine W.block ?_ | refine W.skip ?_ | refine W.exit ?_ | refine W.region tab_ok b (by decide) (exec_run (by simp only [exa, beq_self_eq_true, ByteArray.size, Nat.reduceAdd, Nat.reduceLeDiff, Nat.reduceEqDiff, Nat.reduceMul, Int.reduceToNat, reduceIte, Int.reduceLE, Int.reduceNeg, killS_app, A.kill, jq, b3q, if_false, hm3]; rfl)) ?_))
    refine W.cond rfl (fun _ => ?_) (fun h => absurd h (by decide))
    (repeat (first | refine W.seq ?_ | refine W.block ?_ | refine W.skip ?_ | refine W.exit ?_))
    (repeat (first | refine W.seq ?_ | refine W.block ?_ | refine W.skip ?_ | refine W.exit ?_))
    refine W.regionK tab_ok b (by decide) ?_
    refine runk_split 5 (by simp only [exa, beq_self_eq_true, ByteArray.size, Nat.reduceAdd, Nat.reduceLeDiff, Nat.reduceEqDiff, Nat.reduceMul, Int.reduceToNat, reduceIte, Int.reduceLE, Int.reduceNeg, killS_app, A.kill, jq, b3q, if_false, hm3, cExprs, cExpr]; rfl) ?_
    refine runk_callE (D := [q]) rfl rfl rfl rfl rfl (fun i hi => by simp at hi; subst hi; exact nkq) (by simp) (by first | exact cvs_cons cv_refl (cvs_cons cv_refl cvs_nil) | exact cvs_cons cv_refl (cvs_cons cv_refl (cvs_cons cv_refl cvs_nil))) (exprM h1 f1 (hE ⟨yk, yn, ym, ys⟩ (by simp)) true B0 1 (by have hf := hs; simp [txtB] at hf ⊢; omega)) ?_
    simp only [killL, putS]
    refine runk_exec (by simp only [exa, beq_self_eq_true, ByteArray.size, Nat.reduceAdd, Nat.reduceLeDiff, Nat.reduceEqDiff, Nat.reduceMul, Int.reduceToNat, reduceIte, Int.reduceLE, Int.reduceNeg]; rfl) ?_
    (repeat (first | refine W.seq ?_ | refine W.block ?_ | refine W.skip ?_ | refine W.exit ?_))
    refine W.regionK tab_ok b (by decide) ?_
    refine runk_split 2 (by simp only [exa, beq_self_eq_true, ByteArray.size, Nat.reduceAdd, Nat.reduceLeDiff, Nat.reduceEqDiff, Nat.reduceMul, Int.reduceToNat, reduceIte, Int.reduceLE, Int.reduceNeg, killS_app, A.kill, jq, b3q, if_false, hm3]; rfl) ?_
    refine runk_callE (D := [q]) rfl rfl rfl rfl rfl (fun i hi => by simp at hi; subst hi; exact nkq) (by simp) (by first | exact cvs_cons cv_refl (cvs_cons cv_refl cvs_nil) | exact cvs_cons cv_refl (cvs_cons cv_refl (cvs_cons cv_refl cvs_nil))) (layM h1 true (B0 ++ exprX ⟨yk, yn, ym, ys⟩ 1) [⟨#[32, 61, 32]⟩] (by simp) (by simp) (by have hf := hs; simp [txtB] at hf ⊢; omega)) ?_
    simp only [killL, putS]
    refine runk_exec (by simp only [exa, beq_self_eq_true, ByteArray.size, Nat.reduceAdd, Nat.reduceLeDiff, Nat.reduceEqDiff, Nat.reduceMul, Int.reduceToNat, reduceIte, Int.reduceLE, Int.reduceNeg]; rfl) ?_
    (repeat (first | refine W.seq ?_ | refine W.block ?_ | refine W.skip ?_ | refine W.exit ?_))
    refine W.regionK tab_ok b (by decide) ?_
    refine runk_split 5 (by simp only [exa, beq_self_eq_true, ByteArray.size, Nat.reduceAdd, Nat.reduceLeDiff, Nat.reduceEqDiff, Nat.reduceMul, Int.reduceToNat, reduceIte, Int.reduceLE, Int.reduceNeg, killS_app, A.kill, jq, b3q, if_false, hm3, cExprs, cExpr]; rfl) ?_
    refine runk_callE (D := [q]) rfl rfl rfl rfl rfl (fun i hi => by simp at hi; subst hi; exact nkq) (by simp) (by first | exact cvs_cons cv_refl (cvs_cons cv_refl cvs_nil) | exact cvs_cons cv_refl (cvs_cons cv_refl (cvs_cons cv_refl cvs_nil))) (exprM h1 f1 (hE ⟨zk, zn, zm, zs⟩ (by simp)) true (B0 ++ exprX ⟨yk, yn, ym, ys⟩ 1 ++ txtB [⟨#[32, 61, 32]⟩]) 1 (by have hf := hs; simp [txtB] at hf ⊢; omega)) ?_
    simp only [killL, putS]
    refine runk_exec (by simp only [exa, beq_self_eq_true, ByteArray.size, Nat.reduceAdd, Nat.reduceLeDiff, Nat.reduceEqDiff, Nat.reduceMul, Int.reduceToNat, reduceIte, Int.reduceLE, Int.reduceNeg]; rfl) ?_
    (repeat (first | refine W.seq ?_ | refine W.block ?_ | refine W.skip ?_ | refine W.exit ?_))
    refine W.regionK tab_ok b (by decide) ?_
    refine runk_split 2 (by simp only [exa, beq_self_eq_true, ByteArray.size, Nat.reduceAdd, Nat.reduceLeDiff, Nat.reduceEqDiff, Nat.reduceMul, Int.reduceToNat, reduceIte, Int.reduceLE, Int.reduceNeg, killS_app, A.kill, jq, b3q, if_false, hm3]; rfl) ?_
    refine runk_callE (D := [q]) rfl rfl rfl rfl rfl (fun i hi => by simp at hi; subst hi; exact nkq) (by simp) (by first | exact cvs_cons cv_refl (cvs_cons cv_refl cvs_nil) | exact cvs_cons cv_refl (cvs_cons cv_refl (cvs_cons cv_refl cvs_nil))) (layM h1 true (B0 ++ exprX ⟨yk, yn, ym, ys⟩ 1 ++ txtB [⟨#[32, 61, 32]⟩] ++ exprX ⟨zk, zn, zm, zs⟩ 1) [⟨#[59, 10]⟩] (by simp) (by simp) (by have hf := hs; simp [txtB] at hf ⊢; omega)) ?_
    simp only [killL, putS]
    refine runk_exec (by simp only [exa, beq_self_eq_true, ByteArray.size, Nat.reduceAdd, Nat.reduceLeDiff, Nat.reduceEqDiff, Nat.reduceMul, Int.reduceToNat, reduceIte, Int.reduceLE, Int.reduceNeg]; rfl) ?_
    refine ⟨by simp, by rfl, by rfl, ?_⟩
    refine mle_eq (congrArg (pgM M j q true t) ?_) (off _ _)
    rw [hbd]
    simp [txtB, List.append_assoc]
  · cases hel : el.isEmpty with
    | true =>
      have hze : (cStmts el).length = 0 := by rw [cStmts_len, List.isEmpty_iff.1 hel]; rfl
      rw [hel] at hs
      have hbd : bodyS 3 n ty.data.toList nm.data.toList es t (stmtsX th (t + 1)) (stmtsX el (t + 1)) true = [105, 102, 32, 40] ++ listE es ++ [41, 32] ++ brcX t (stmtsX th (t + 1)) ++ [10] := by simp [bodyS]
      rw [hbd] at hs
      repeat (first | refine W.seq ?_ | refine W.block ?_ | refine W.skip ?_ | refine W.exit ?_ | refine W.region tab_ok b (by decide) (exec_run (by simp only [exa, beq_self_eq_true, ByteArray.size, Nat.reduceAdd, Nat.reduceLeDiff, Nat.reduceEqDiff, Nat.reduceMul, Int.reduceToNat, reduceIte, Int.reduceLE, Int.reduceNeg, killS_app, A.kill, jq, b3q, if_false, hm3]; rfl)) ?_)
      iterate 2 (refine W.cond rfl (fun h => absurd h (by decide)) (fun _ => ?_); repeat (first | refine W.seq ?_ | refine W.block ?_ | refine W.skip ?_ | refine W.exit ?_ | refine W.region tab_ok b (by decide) (exec_run (by simp only [exa, beq_self_eq_true, ByteArray.size, Nat.reduceAdd, Nat.reduceLeDiff, Nat.reduceEqDiff, Nat.reduceMul, Int.reduceToNat, reduceIte, Int.reduceLE, Int.reduceNeg, killS_app, A.kill, jq, b3q, if_false, hm3]; rfl)) ?_))
      refine W.cond rfl (fun _ => ?_) (fun h => absurd h (by decide))
      (repeat (first | refine W.seq ?_ | refine W.block ?_ | refine W.skip ?_ | refine W.exit ?_))
      (repeat (first | refine W.seq ?_ | refine W.block ?_ | refine W.skip ?_ | refine W.exit ?_))
      refine W.cond rfl (fun _ => ?_) (fun h => absurd h (by decide))
      (repeat (first | refine W.seq ?_ | refine W.block ?_ | refine W.skip ?_ | refine W.exit ?_))
      (repeat (first | refine W.seq ?_ | refine W.block ?_ | refine W.skip ?_ | refine W.exit ?_))
      refine W.regionK tab_ok b (by decide) ?_
      refine runk_split 8 (by simp only [exa, beq_self_eq_true, ByteArray.size, Nat.reduceAdd, Nat.reduceLeDiff, Nat.reduceEqDiff, Nat.reduceMul, Int.reduceToNat, reduceIte, Int.reduceLE, Int.reduceNeg, killS_app, A.kill, jq, b3q, if_false, hm3, Nat.reducePow, Nat.reduceLT, and_self, Bool.false_eq_true, Int.reduceSub, Int.cast_ofNat_Int, List.length_cons, List.length_nil]; rfl) ?_
      refine runk_callE (D := [q]) rfl rfl rfl rfl rfl (fun i hi => by simp at hi; subst hi; exact nkq) (by simp) (by first | exact cvs_cons cv_refl (cvs_cons cv_refl cvs_nil) | exact cvs_cons cv_refl (cvs_cons cv_refl (cvs_cons cv_refl cvs_nil))) (layM h1 true B0 [⟨#[105, 102, 32, 40]⟩] (by simp) (by simp) (by have hf := hs; simp [txtB] at hf ⊢; omega)) ?_
      simp only [killL, putS]
      refine runk_exec (by simp only [exa, beq_self_eq_true, ByteArray.size, Nat.reduceAdd, Nat.reduceLeDiff, Nat.reduceEqDiff, Nat.reduceMul, Int.reduceToNat, reduceIte, Int.reduceLE, Int.reduceNeg]; rfl) ?_
      (repeat (first | refine W.seq ?_ | refine W.block ?_ | refine W.skip ?_ | refine W.exit ?_))
      refine W.regionK tab_ok b (by decide) ?_
      refine runk_split 3 (by simp only [exa, beq_self_eq_true, ByteArray.size, Nat.reduceAdd, Nat.reduceLeDiff, Nat.reduceEqDiff, Nat.reduceMul, Int.reduceToNat, reduceIte, Int.reduceLE, Int.reduceNeg, killS_app, A.kill, jq, b3q, if_false, hm3]; rfl) ?_
      refine runk_callE (D := [q]) rfl rfl rfl rfl rfl (fun i hi => by simp at hi; subst hi; exact nkq) (by simp) (by first | exact cvs_cons cv_refl (cvs_cons cv_refl cvs_nil) | exact cvs_cons cv_refl (cvs_cons cv_refl (cvs_cons cv_refl cvs_nil))) (listM h1 f1 (l := es) hE hlen true (B0 ++ txtB [⟨#[105, 102, 32, 40]⟩]) ⟨#[41, 32]⟩ (by show _ + _ + 2 ≤ _; have hf := hs; simp [txtB] at hf ⊢; omega)) ?_
      simp only [killL, putS]
      refine runk_exec (by simp only [exa, beq_self_eq_true, ByteArray.size, Nat.reduceAdd, Nat.reduceLeDiff, Nat.reduceEqDiff, Nat.reduceMul, Int.reduceToNat, reduceIte, Int.reduceLE, Int.reduceNeg]; rfl) ?_
      (repeat (first | refine W.seq ?_ | refine W.block ?_ | refine W.skip ?_ | refine W.exit ?_))
      refine W.regionK tab_ok b (by decide) ?_
      refine runk_split 3 (by simp only [exa, beq_self_eq_true, ByteArray.size, Nat.reduceAdd, Nat.reduceLeDiff, Nat.reduceEqDiff, Nat.reduceMul, Int.reduceToNat, reduceIte, Int.reduceLE, Int.reduceNeg, killS_app, A.kill, jq, b3q, if_false, hm3]; rfl) ?_
      refine runk_callE (D := [q]) rfl rfl rfl rfl rfl (fun i hi => by simp at hi; subst hi; exact nkq) (by simp) (by first | exact cvs_cons cv_refl (cvs_cons cv_refl cvs_nil) | exact cvs_cons cv_refl (cvs_cons cv_refl (cvs_cons cv_refl cvs_nil))) (blockM h1 f1 (l := th) hTh hlT true (B0 ++ txtB [⟨#[105, 102, 32, 40]⟩] ++ listE es ++ (⟨#[41, 32]⟩ : ByteArray).data.toList) (by have hf := hs; simp [txtB] at hf ⊢; omega)) ?_
      simp only [killL, putS]
      refine runk_exec (by simp only [exa, beq_self_eq_true, ByteArray.size, Nat.reduceAdd, Nat.reduceLeDiff, Nat.reduceEqDiff, Nat.reduceMul, Int.reduceToNat, reduceIte, Int.reduceLE, Int.reduceNeg]; rfl) ?_
      repeat (first | refine W.seq ?_ | refine W.block ?_ | refine W.skip ?_ | refine W.exit ?_ | refine W.region tab_ok b (by decide) (exec_run (by simp only [exa, beq_self_eq_true, ByteArray.size, Nat.reduceAdd, Nat.reduceLeDiff, Nat.reduceEqDiff, Nat.reduceMul, Int.reduceToNat, reduceIte, Int.reduceLE, Int.reduceNeg, killS_app, A.kill, jq, b3q, if_false, hm3]; rfl)) ?_)
      refine W.cond rfl (fun h => absurd (of_decide_eq_true h) (by omega)) (fun _ => ?_)
      (repeat (first | refine W.seq ?_ | refine W.block ?_ | refine W.skip ?_ | refine W.exit ?_))
      refine W.regionK tab_ok b (by decide) ?_
      refine runk_split 2 (by simp only [exa, beq_self_eq_true, ByteArray.size, Nat.reduceAdd, Nat.reduceLeDiff, Nat.reduceEqDiff, Nat.reduceMul, Int.reduceToNat, reduceIte, Int.reduceLE, Int.reduceNeg, killS_app, A.kill, jq, b3q, if_false, hm3]; rfl) ?_
      refine runk_callE (D := [q]) rfl rfl rfl rfl rfl (fun i hi => by simp at hi; subst hi; exact nkq) (by simp) (by first | exact cvs_cons cv_refl (cvs_cons cv_refl cvs_nil) | exact cvs_cons cv_refl (cvs_cons cv_refl (cvs_cons cv_refl cvs_nil))) (layM h1 true (B0 ++ txtB [⟨#[105, 102, 32, 40]⟩] ++ listE es ++ (⟨#[41, 32]⟩ : ByteArray).data.toList ++ brcX t (stmtsX th (t + 1))) [⟨#[10]⟩] (by simp) (by simp) (by have hf := hs; simp [txtB] at hf ⊢; omega)) ?_
      simp only [killL, putS]
      refine runk_exec (by simp only [exa, beq_self_eq_true, ByteArray.size, Nat.reduceAdd, Nat.reduceLeDiff, Nat.reduceEqDiff, Nat.reduceMul, Int.reduceToNat, reduceIte, Int.reduceLE, Int.reduceNeg]; rfl) ?_
      (repeat (first | refine W.seq ?_ | refine W.block ?_ | refine W.skip ?_ | refine W.exit ?_))
      refine W.ret ⟨.inr rfl, by rfl, ?_, ?mle⟩
      simp only [Tryd.f51, resE, resOne, fin, toT, exa, beq_self_eq_true, ByteArray.size, Nat.reduceAdd, Nat.reduceLeDiff, Nat.reduceEqDiff, Nat.reduceMul, Int.reduceToNat, reduceIte, Int.reduceLE, Int.reduceNeg]
      case mle =>
        refine mle_eq (congrArg (pgM M j q true t) ?_) (off _ _)
        rw [hbd]
        simp [txtB, List.append_assoc]
    | false =>
      have hne : 0 < (cStmts el).length := by
        rw [cStmts_len]
        cases el with
        | nil => cases hel
        | cons a b => simp
      rw [hel] at hs
      have hbd : bodyS 3 n ty.data.toList nm.data.toList es t (stmtsX th (t + 1)) (stmtsX el (t + 1)) false = [105, 102, 32, 40] ++ listE es ++ [41, 32] ++ brcX t (stmtsX th (t + 1)) ++ ([32, 101, 108, 115, 101, 32] ++ brcX t (stmtsX el (t + 1))) ++ [10] := by simp [bodyS]
      rw [hbd] at hs
      repeat (first | refine W.seq ?_ | refine W.block ?_ | refine W.skip ?_ | refine W.exit ?_ | refine W.region tab_ok b (by decide) (exec_run (by simp only [exa, beq_self_eq_true, ByteArray.size, Nat.reduceAdd, Nat.reduceLeDiff, Nat.reduceEqDiff, Nat.reduceMul, Int.reduceToNat, reduceIte, Int.reduceLE, Int.reduceNeg, killS_app, A.kill, jq, b3q, if_false, hm3]; rfl)) ?_)
      iterate 2 (refine W.cond rfl (fun h => absurd h (by decide)) (fun _ => ?_); repeat (first | refine W.seq ?_ | refine W.block ?_ | refine W.skip ?_ | refine W.exit ?_ | refine W.region tab_ok b (by decide) (exec_run (by simp only [exa, beq_self_eq_true, ByteArray.size, Nat.reduceAdd, Nat.reduceLeDiff, Nat.reduceEqDiff, Nat.reduceMul, Int.reduceToNat, reduceIte, Int.reduceLE, Int.reduceNeg, killS_app, A.kill, jq, b3q, if_false, hm3]; rfl)) ?_))
      refine W.cond rfl (fun _ => ?_) (fun h => absurd h (by decide))
      (repeat (first | refine W.seq ?_ | refine W.block ?_ | refine W.skip ?_ | refine W.exit ?_))
      (repeat (first | refine W.seq ?_ | refine W.block ?_ | refine W.skip ?_ | refine W.exit ?_))
      refine W.cond rfl (fun _ => ?_) (fun h => absurd h (by decide))
      (repeat (first | refine W.seq ?_ | refine W.block ?_ | refine W.skip ?_ | refine W.exit ?_))
      (repeat (first | refine W.seq ?_ | refine W.block ?_ | refine W.skip ?_ | refine W.exit ?_))
      refine W.regionK tab_ok b (by decide) ?_
      refine runk_split 8 (by simp only [exa, beq_self_eq_true, ByteArray.size, Nat.reduceAdd, Nat.reduceLeDiff, Nat.reduceEqDiff, Nat.reduceMul, Int.reduceToNat, reduceIte, Int.reduceLE, Int.reduceNeg, killS_app, A.kill, jq, b3q, if_false, hm3, Nat.reducePow, Nat.reduceLT, and_self, Bool.false_eq_true, Int.reduceSub, Int.cast_ofNat_Int, List.length_cons, List.length_nil]; rfl) ?_
      refine runk_callE (D := [q]) rfl rfl rfl rfl rfl (fun i hi => by simp at hi; subst hi; exact nkq) (by simp) (by first | exact cvs_cons cv_refl (cvs_cons cv_refl cvs_nil) | exact cvs_cons cv_refl (cvs_cons cv_refl (cvs_cons cv_refl cvs_nil))) (layM h1 true B0 [⟨#[105, 102, 32, 40]⟩] (by simp) (by simp) (by have hf := hs; simp [txtB] at hf ⊢; omega)) ?_
      simp only [killL, putS]
      refine runk_exec (by simp only [exa, beq_self_eq_true, ByteArray.size, Nat.reduceAdd, Nat.reduceLeDiff, Nat.reduceEqDiff, Nat.reduceMul, Int.reduceToNat, reduceIte, Int.reduceLE, Int.reduceNeg]; rfl) ?_
      (repeat (first | refine W.seq ?_ | refine W.block ?_ | refine W.skip ?_ | refine W.exit ?_))
      refine W.regionK tab_ok b (by decide) ?_
      refine runk_split 3 (by simp only [exa, beq_self_eq_true, ByteArray.size, Nat.reduceAdd, Nat.reduceLeDiff, Nat.reduceEqDiff, Nat.reduceMul, Int.reduceToNat, reduceIte, Int.reduceLE, Int.reduceNeg, killS_app, A.kill, jq, b3q, if_false, hm3]; rfl) ?_
      refine runk_callE (D := [q]) rfl rfl rfl rfl rfl (fun i hi => by simp at hi; subst hi; exact nkq) (by simp) (by first | exact cvs_cons cv_refl (cvs_cons cv_refl cvs_nil) | exact cvs_cons cv_refl (cvs_cons cv_refl (cvs_cons cv_refl cvs_nil))) (listM h1 f1 (l := es) hE hlen true (B0 ++ txtB [⟨#[105, 102, 32, 40]⟩]) ⟨#[41, 32]⟩ (by show _ + _ + 2 ≤ _; have hf := hs; simp [txtB] at hf ⊢; omega)) ?_
      simp only [killL, putS]
      refine runk_exec (by simp only [exa, beq_self_eq_true, ByteArray.size, Nat.reduceAdd, Nat.reduceLeDiff, Nat.reduceEqDiff, Nat.reduceMul, Int.reduceToNat, reduceIte, Int.reduceLE, Int.reduceNeg]; rfl) ?_
      (repeat (first | refine W.seq ?_ | refine W.block ?_ | refine W.skip ?_ | refine W.exit ?_))
      refine W.regionK tab_ok b (by decide) ?_
      refine runk_split 3 (by simp only [exa, beq_self_eq_true, ByteArray.size, Nat.reduceAdd, Nat.reduceLeDiff, Nat.reduceEqDiff, Nat.reduceMul, Int.reduceToNat, reduceIte, Int.reduceLE, Int.reduceNeg, killS_app, A.kill, jq, b3q, if_false, hm3]; rfl) ?_
      refine runk_callE (D := [q]) rfl rfl rfl rfl rfl (fun i hi => by simp at hi; subst hi; exact nkq) (by simp) (by first | exact cvs_cons cv_refl (cvs_cons cv_refl cvs_nil) | exact cvs_cons cv_refl (cvs_cons cv_refl (cvs_cons cv_refl cvs_nil))) (blockM h1 f1 (l := th) hTh hlT true (B0 ++ txtB [⟨#[105, 102, 32, 40]⟩] ++ listE es ++ (⟨#[41, 32]⟩ : ByteArray).data.toList) (by have hf := hs; simp [txtB] at hf ⊢; omega)) ?_
      simp only [killL, putS]
      refine runk_exec (by simp only [exa, beq_self_eq_true, ByteArray.size, Nat.reduceAdd, Nat.reduceLeDiff, Nat.reduceEqDiff, Nat.reduceMul, Int.reduceToNat, reduceIte, Int.reduceLE, Int.reduceNeg]; rfl) ?_
      repeat (first | refine W.seq ?_ | refine W.block ?_ | refine W.skip ?_ | refine W.exit ?_ | refine W.region tab_ok b (by decide) (exec_run (by simp only [exa, beq_self_eq_true, ByteArray.size, Nat.reduceAdd, Nat.reduceLeDiff, Nat.reduceEqDiff, Nat.reduceMul, Int.reduceToNat, reduceIte, Int.reduceLE, Int.reduceNeg, killS_app, A.kill, jq, b3q, if_false, hm3]; rfl)) ?_)
      refine W.cond rfl (fun _ => ?_) (fun h => absurd (of_decide_eq_false h) (by omega))
      (repeat (first | refine W.seq ?_ | refine W.block ?_ | refine W.skip ?_ | refine W.exit ?_))
      refine W.regionK tab_ok b (by decide) ?_
      refine runk_split 2 (by simp only [exa, beq_self_eq_true, ByteArray.size, Nat.reduceAdd, Nat.reduceLeDiff, Nat.reduceEqDiff, Nat.reduceMul, Int.reduceToNat, reduceIte, Int.reduceLE, Int.reduceNeg, killS_app, A.kill, jq, b3q, if_false, hm3]; rfl) ?_
      refine runk_callE (D := [q]) rfl rfl rfl rfl rfl (fun i hi => by simp at hi; subst hi; exact nkq) (by simp) (by first | exact cvs_cons cv_refl (cvs_cons cv_refl cvs_nil) | exact cvs_cons cv_refl (cvs_cons cv_refl (cvs_cons cv_refl cvs_nil))) (layM h1 true (B0 ++ txtB [⟨#[105, 102, 32, 40]⟩] ++ listE es ++ (⟨#[41, 32]⟩ : ByteArray).data.toList ++ brcX t (stmtsX th (t + 1))) [⟨#[32, 101, 108, 115, 101, 32]⟩] (by simp) (by simp) (by have hf := hs; simp [txtB] at hf ⊢; omega)) ?_
      simp only [killL, putS]
      refine runk_exec (by simp only [exa, beq_self_eq_true, ByteArray.size, Nat.reduceAdd, Nat.reduceLeDiff, Nat.reduceEqDiff, Nat.reduceMul, Int.reduceToNat, reduceIte, Int.reduceLE, Int.reduceNeg]; rfl) ?_
      (repeat (first | refine W.seq ?_ | refine W.block ?_ | refine W.skip ?_ | refine W.exit ?_))
      refine W.regionK tab_ok b (by decide) ?_
      refine runk_split 3 (by simp only [exa, beq_self_eq_true, ByteArray.size, Nat.reduceAdd, Nat.reduceLeDiff, Nat.reduceEqDiff, Nat.reduceMul, Int.reduceToNat, reduceIte, Int.reduceLE, Int.reduceNeg, killS_app, A.kill, jq, b3q, if_false, hm3]; rfl) ?_
      refine runk_callE (D := [q]) rfl rfl rfl rfl rfl (fun i hi => by simp at hi; subst hi; exact nkq) (by simp) (by first | exact cvs_cons cv_refl (cvs_cons cv_refl cvs_nil) | exact cvs_cons cv_refl (cvs_cons cv_refl (cvs_cons cv_refl cvs_nil))) (blockM h1 f1 (l := el) hEl hlL true (B0 ++ txtB [⟨#[105, 102, 32, 40]⟩] ++ listE es ++ (⟨#[41, 32]⟩ : ByteArray).data.toList ++ brcX t (stmtsX th (t + 1)) ++ txtB [⟨#[32, 101, 108, 115, 101, 32]⟩]) (by have hf := hs; simp [txtB] at hf ⊢; omega)) ?_
      simp only [killL, putS]
      refine runk_exec (by simp only [exa, beq_self_eq_true, ByteArray.size, Nat.reduceAdd, Nat.reduceLeDiff, Nat.reduceEqDiff, Nat.reduceMul, Int.reduceToNat, reduceIte, Int.reduceLE, Int.reduceNeg]; rfl) ?_
      (repeat (first | refine W.seq ?_ | refine W.block ?_ | refine W.skip ?_ | refine W.exit ?_))
      refine W.regionK tab_ok b (by decide) ?_
      refine runk_split 2 (by simp only [exa, beq_self_eq_true, ByteArray.size, Nat.reduceAdd, Nat.reduceLeDiff, Nat.reduceEqDiff, Nat.reduceMul, Int.reduceToNat, reduceIte, Int.reduceLE, Int.reduceNeg, killS_app, A.kill, jq, b3q, if_false, hm3]; rfl) ?_
      refine runk_callE (D := [q]) rfl rfl rfl rfl rfl (fun i hi => by simp at hi; subst hi; exact nkq) (by simp) (by first | exact cvs_cons cv_refl (cvs_cons cv_refl cvs_nil) | exact cvs_cons cv_refl (cvs_cons cv_refl (cvs_cons cv_refl cvs_nil))) (layM h1 true (B0 ++ txtB [⟨#[105, 102, 32, 40]⟩] ++ listE es ++ (⟨#[41, 32]⟩ : ByteArray).data.toList ++ brcX t (stmtsX th (t + 1)) ++ txtB [⟨#[32, 101, 108, 115, 101, 32]⟩] ++ brcX t (stmtsX el (t + 1))) [⟨#[10]⟩] (by simp) (by simp) (by have hf := hs; simp [txtB] at hf ⊢; omega)) ?_
      simp only [killL, putS]
      refine runk_exec (by simp only [exa, beq_self_eq_true, ByteArray.size, Nat.reduceAdd, Nat.reduceLeDiff, Nat.reduceEqDiff, Nat.reduceMul, Int.reduceToNat, reduceIte, Int.reduceLE, Int.reduceNeg]; rfl) ?_
      (repeat (first | refine W.seq ?_ | refine W.block ?_ | refine W.skip ?_ | refine W.exit ?_))
      refine W.ret ⟨.inr rfl, by rfl, ?_, ?mle⟩
      simp only [Tryd.f51, resE, resOne, fin, toT, exa, beq_self_eq_true, ByteArray.size, Nat.reduceAdd, Nat.reduceLeDiff, Nat.reduceEqDiff, Nat.reduceMul, Int.reduceToNat, reduceIte, Int.reduceLE, Int.reduceNeg]
      case mle =>
        refine mle_eq (congrArg (pgM M j q true t) ?_) (off _ _)
        rw [hbd]
        simp [txtB, List.append_assoc]
  · cases hel : el.isEmpty with
    | true =>
      have hze : (cStmts el).length = 0 := by rw [cStmts_len, List.isEmpty_iff.1 hel]; rfl
      rw [hel] at hs
      have hbd : bodyS 4 n ty.data.toList nm.data.toList es t (stmtsX th (t + 1)) (stmtsX el (t + 1)) true = [119, 104, 105, 108, 101, 32, 40] ++ listE es ++ [41, 32] ++ brcX t (stmtsX th (t + 1)) ++ [10] := by simp [bodyS]
      rw [hbd] at hs
      repeat (first | refine W.seq ?_ | refine W.block ?_ | refine W.skip ?_ | refine W.exit ?_ | refine W.region tab_ok b (by decide) (exec_run (by simp only [exa, beq_self_eq_true, ByteArray.size, Nat.reduceAdd, Nat.reduceLeDiff, Nat.reduceEqDiff, Nat.reduceMul, Int.reduceToNat, reduceIte, Int.reduceLE, Int.reduceNeg, killS_app, A.kill, jq, b3q, if_false, hm3]; rfl)) ?_)
      iterate 2 (refine W.cond rfl (fun h => absurd h (by decide)) (fun _ => ?_); repeat (first | refine W.seq ?_ | refine W.block ?_ | refine W.skip ?_ | refine W.exit ?_ | refine W.region tab_ok b (by decide) (exec_run (by simp only [exa, beq_self_eq_true, ByteArray.size, Nat.reduceAdd, Nat.reduceLeDiff, Nat.reduceEqDiff, Nat.reduceMul, Int.reduceToNat, reduceIte, Int.reduceLE, Int.reduceNeg, killS_app, A.kill, jq, b3q, if_false, hm3]; rfl)) ?_))
      iterate 1 (refine W.cond rfl (fun h => absurd h (by decide)) (fun _ => ?_); repeat (first | refine W.seq ?_ | refine W.block ?_ | refine W.skip ?_ | refine W.exit ?_ | refine W.region tab_ok b (by decide) (exec_run (by simp only [exa, beq_self_eq_true, ByteArray.size, Nat.reduceAdd, Nat.reduceLeDiff, Nat.reduceEqDiff, Nat.reduceMul, Int.reduceToNat, reduceIte, Int.reduceLE, Int.reduceNeg, killS_app, A.kill, jq, b3q, if_false, hm3]; rfl)) ?_))
      refine W.cond rfl (fun _ => ?_) (fun h => absurd h (by decide))
      (repeat (first | refine W.seq ?_ | refine W.block ?_ | refine W.skip ?_ | refine W.exit ?_))
      (repeat (first | refine W.seq ?_ | refine W.block ?_ | refine W.skip ?_ | refine W.exit ?_))
      refine W.regionK tab_ok b (by decide) ?_
      refine runk_split 8 (by simp only [exa, beq_self_eq_true, ByteArray.size, Nat.reduceAdd, Nat.reduceLeDiff, Nat.reduceEqDiff, Nat.reduceMul, Int.reduceToNat, reduceIte, Int.reduceLE, Int.reduceNeg, killS_app, A.kill, jq, b3q, if_false, hm3, Nat.reducePow, Nat.reduceLT, and_self, Bool.false_eq_true, Int.reduceSub, Int.cast_ofNat_Int, List.length_cons, List.length_nil]; rfl) ?_
      refine runk_callE (D := [q]) rfl rfl rfl rfl rfl (fun i hi => by simp at hi; subst hi; exact nkq) (by simp) (by first | exact cvs_cons cv_refl (cvs_cons cv_refl cvs_nil) | exact cvs_cons cv_refl (cvs_cons cv_refl (cvs_cons cv_refl cvs_nil))) (layM h1 true B0 [⟨#[119, 104, 105, 108, 101, 32, 40]⟩] (by simp) (by simp) (by have hf := hs; simp [txtB] at hf ⊢; omega)) ?_
      simp only [killL, putS]
      refine runk_exec (by simp only [exa, beq_self_eq_true, ByteArray.size, Nat.reduceAdd, Nat.reduceLeDiff, Nat.reduceEqDiff, Nat.reduceMul, Int.reduceToNat, reduceIte, Int.reduceLE, Int.reduceNeg]; rfl) ?_
      (repeat (first | refine W.seq ?_ | refine W.block ?_ | refine W.skip ?_ | refine W.exit ?_))
      refine W.regionK tab_ok b (by decide) ?_
      refine runk_split 3 (by simp only [exa, beq_self_eq_true, ByteArray.size, Nat.reduceAdd, Nat.reduceLeDiff, Nat.reduceEqDiff, Nat.reduceMul, Int.reduceToNat, reduceIte, Int.reduceLE, Int.reduceNeg, killS_app, A.kill, jq, b3q, if_false, hm3]; rfl) ?_
      refine runk_callE (D := [q]) rfl rfl rfl rfl rfl (fun i hi => by simp at hi; subst hi; exact nkq) (by simp) (by first | exact cvs_cons cv_refl (cvs_cons cv_refl cvs_nil) | exact cvs_cons cv_refl (cvs_cons cv_refl (cvs_cons cv_refl cvs_nil))) (listM h1 f1 (l := es) hE hlen true (B0 ++ txtB [⟨#[119, 104, 105, 108, 101, 32, 40]⟩]) ⟨#[41, 32]⟩ (by show _ + _ + 2 ≤ _; have hf := hs; simp [txtB] at hf ⊢; omega)) ?_
      simp only [killL, putS]
      refine runk_exec (by simp only [exa, beq_self_eq_true, ByteArray.size, Nat.reduceAdd, Nat.reduceLeDiff, Nat.reduceEqDiff, Nat.reduceMul, Int.reduceToNat, reduceIte, Int.reduceLE, Int.reduceNeg]; rfl) ?_
      (repeat (first | refine W.seq ?_ | refine W.block ?_ | refine W.skip ?_ | refine W.exit ?_))
      refine W.regionK tab_ok b (by decide) ?_
      refine runk_split 3 (by simp only [exa, beq_self_eq_true, ByteArray.size, Nat.reduceAdd, Nat.reduceLeDiff, Nat.reduceEqDiff, Nat.reduceMul, Int.reduceToNat, reduceIte, Int.reduceLE, Int.reduceNeg, killS_app, A.kill, jq, b3q, if_false, hm3]; rfl) ?_
      refine runk_callE (D := [q]) rfl rfl rfl rfl rfl (fun i hi => by simp at hi; subst hi; exact nkq) (by simp) (by first | exact cvs_cons cv_refl (cvs_cons cv_refl cvs_nil) | exact cvs_cons cv_refl (cvs_cons cv_refl (cvs_cons cv_refl cvs_nil))) (blockM h1 f1 (l := th) hTh hlT true (B0 ++ txtB [⟨#[119, 104, 105, 108, 101, 32, 40]⟩] ++ listE es ++ (⟨#[41, 32]⟩ : ByteArray).data.toList) (by have hf := hs; simp [txtB] at hf ⊢; omega)) ?_
      simp only [killL, putS]
      refine runk_exec (by simp only [exa, beq_self_eq_true, ByteArray.size, Nat.reduceAdd, Nat.reduceLeDiff, Nat.reduceEqDiff, Nat.reduceMul, Int.reduceToNat, reduceIte, Int.reduceLE, Int.reduceNeg]; rfl) ?_
      repeat (first | refine W.seq ?_ | refine W.block ?_ | refine W.skip ?_ | refine W.exit ?_ | refine W.region tab_ok b (by decide) (exec_run (by simp only [exa, beq_self_eq_true, ByteArray.size, Nat.reduceAdd, Nat.reduceLeDiff, Nat.reduceEqDiff, Nat.reduceMul, Int.reduceToNat, reduceIte, Int.reduceLE, Int.reduceNeg, killS_app, A.kill, jq, b3q, if_false, hm3]; rfl)) ?_)
      refine W.cond rfl (fun h => absurd (of_decide_eq_true h) (by omega)) (fun _ => ?_)
      (repeat (first | refine W.seq ?_ | refine W.block ?_ | refine W.skip ?_ | refine W.exit ?_))
      refine W.regionK tab_ok b (by decide) ?_
      refine runk_split 2 (by simp only [exa, beq_self_eq_true, ByteArray.size, Nat.reduceAdd, Nat.reduceLeDiff, Nat.reduceEqDiff, Nat.reduceMul, Int.reduceToNat, reduceIte, Int.reduceLE, Int.reduceNeg, killS_app, A.kill, jq, b3q, if_false, hm3]; rfl) ?_
      refine runk_callE (D := [q]) rfl rfl rfl rfl rfl (fun i hi => by simp at hi; subst hi; exact nkq) (by simp) (by first | exact cvs_cons cv_refl (cvs_cons cv_refl cvs_nil) | exact cvs_cons cv_refl (cvs_cons cv_refl (cvs_cons cv_refl cvs_nil))) (layM h1 true (B0 ++ txtB [⟨#[119, 104, 105, 108, 101, 32, 40]⟩] ++ listE es ++ (⟨#[41, 32]⟩ : ByteArray).data.toList ++ brcX t (stmtsX th (t + 1))) [⟨#[10]⟩] (by simp) (by simp) (by have hf := hs; simp [txtB] at hf ⊢; omega)) ?_
      simp only [killL, putS]
      refine runk_exec (by simp only [exa, beq_self_eq_true, ByteArray.size, Nat.reduceAdd, Nat.reduceLeDiff, Nat.reduceEqDiff, Nat.reduceMul, Int.reduceToNat, reduceIte, Int.reduceLE, Int.reduceNeg]; rfl) ?_
      (repeat (first | refine W.seq ?_ | refine W.block ?_ | refine W.skip ?_ | refine W.exit ?_))
      refine W.ret ⟨.inr rfl, by rfl, ?_, ?mle⟩
      simp only [Tryd.f51, resE, resOne, fin, toT, exa, beq_self_eq_true, ByteArray.size, Nat.reduceAdd, Nat.reduceLeDiff, Nat.reduceEqDiff, Nat.reduceMul, Int.reduceToNat, reduceIte, Int.reduceLE, Int.reduceNeg]
      case mle =>
        refine mle_eq (congrArg (pgM M j q true t) ?_) (off _ _)
        rw [hbd]
        simp [txtB, List.append_assoc]
    | false =>
      have hne : 0 < (cStmts el).length := by
        rw [cStmts_len]
        cases el with
        | nil => cases hel
        | cons a b => simp
      rw [hel] at hs
      have hbd : bodyS 4 n ty.data.toList nm.data.toList es t (stmtsX th (t + 1)) (stmtsX el (t + 1)) false = [119, 104, 105, 108, 101, 32, 40] ++ listE es ++ [41, 32] ++ brcX t (stmtsX th (t + 1)) ++ ([32, 101, 108, 115, 101, 32] ++ brcX t (stmtsX el (t + 1))) ++ [10] := by simp [bodyS]
      rw [hbd] at hs
      repeat (first | refine W.seq ?_ | refine W.block ?_ | refine W.skip ?_ | refine W.exit ?_ | refine W.region tab_ok b (by decide) (exec_run (by simp only [exa, beq_self_eq_true, ByteArray.size, Nat.reduceAdd, Nat.reduceLeDiff, Nat.reduceEqDiff, Nat.reduceMul, Int.reduceToNat, reduceIte, Int.reduceLE, Int.reduceNeg, killS_app, A.kill, jq, b3q, if_false, hm3]; rfl)) ?_)
      iterate 2 (refine W.cond rfl (fun h => absurd h (by decide)) (fun _ => ?_); repeat (first | refine W.seq ?_ | refine W.block ?_ | refine W.skip ?_ | refine W.exit ?_ | refine W.region tab_ok b (by decide) (exec_run (by simp only [exa, beq_self_eq_true, ByteArray.size, Nat.reduceAdd, Nat.reduceLeDiff, Nat.reduceEqDiff, Nat.reduceMul, Int.reduceToNat, reduceIte, Int.reduceLE, Int.reduceNeg, killS_app, A.kill, jq, b3q, if_false, hm3]; rfl)) ?_))
      iterate 1 (refine W.cond rfl (fun h => absurd h (by decide)) (fun _ => ?_); repeat (first | refine W.seq ?_ | refine W.block ?_ | refine W.skip ?_ | refine W.exit ?_ | refine W.region tab_ok b (by decide) (exec_run (by simp only [exa, beq_self_eq_true, ByteArray.size, Nat.reduceAdd, Nat.reduceLeDiff, Nat.reduceEqDiff, Nat.reduceMul, Int.reduceToNat, reduceIte, Int.reduceLE, Int.reduceNeg, killS_app, A.kill, jq, b3q, if_false, hm3]; rfl)) ?_))
      refine W.cond rfl (fun _ => ?_) (fun h => absurd h (by decide))
      (repeat (first | refine W.seq ?_ | refine W.block ?_ | refine W.skip ?_ | refine W.exit ?_))
      (repeat (first | refine W.seq ?_ | refine W.block ?_ | refine W.skip ?_ | refine W.exit ?_))
      refine W.regionK tab_ok b (by decide) ?_
      refine runk_split 8 (by simp only [exa, beq_self_eq_true, ByteArray.size, Nat.reduceAdd, Nat.reduceLeDiff, Nat.reduceEqDiff, Nat.reduceMul, Int.reduceToNat, reduceIte, Int.reduceLE, Int.reduceNeg, killS_app, A.kill, jq, b3q, if_false, hm3, Nat.reducePow, Nat.reduceLT, and_self, Bool.false_eq_true, Int.reduceSub, Int.cast_ofNat_Int, List.length_cons, List.length_nil]; rfl) ?_
      refine runk_callE (D := [q]) rfl rfl rfl rfl rfl (fun i hi => by simp at hi; subst hi; exact nkq) (by simp) (by first | exact cvs_cons cv_refl (cvs_cons cv_refl cvs_nil) | exact cvs_cons cv_refl (cvs_cons cv_refl (cvs_cons cv_refl cvs_nil))) (layM h1 true B0 [⟨#[119, 104, 105, 108, 101, 32, 40]⟩] (by simp) (by simp) (by have hf := hs; simp [txtB] at hf ⊢; omega)) ?_
      simp only [killL, putS]
      refine runk_exec (by simp only [exa, beq_self_eq_true, ByteArray.size, Nat.reduceAdd, Nat.reduceLeDiff, Nat.reduceEqDiff, Nat.reduceMul, Int.reduceToNat, reduceIte, Int.reduceLE, Int.reduceNeg]; rfl) ?_
      (repeat (first | refine W.seq ?_ | refine W.block ?_ | refine W.skip ?_ | refine W.exit ?_))
      refine W.regionK tab_ok b (by decide) ?_
      refine runk_split 3 (by simp only [exa, beq_self_eq_true, ByteArray.size, Nat.reduceAdd, Nat.reduceLeDiff, Nat.reduceEqDiff, Nat.reduceMul, Int.reduceToNat, reduceIte, Int.reduceLE, Int.reduceNeg, killS_app, A.kill, jq, b3q, if_false, hm3]; rfl) ?_
      refine runk_callE (D := [q]) rfl rfl rfl rfl rfl (fun i hi => by simp at hi; subst hi; exact nkq) (by simp) (by first | exact cvs_cons cv_refl (cvs_cons cv_refl cvs_nil) | exact cvs_cons cv_refl (cvs_cons cv_refl (cvs_cons cv_refl cvs_nil))) (listM h1 f1 (l := es) hE hlen true (B0 ++ txtB [⟨#[119, 104, 105, 108, 101, 32, 40]⟩]) ⟨#[41, 32]⟩ (by show _ + _ + 2 ≤ _; have hf := hs; simp [txtB] at hf ⊢; omega)) ?_
      simp only [killL, putS]
      refine runk_exec (by simp only [exa, beq_self_eq_true, ByteArray.size, Nat.reduceAdd, Nat.reduceLeDiff, Nat.reduceEqDiff, Nat.reduceMul, Int.reduceToNat, reduceIte, Int.reduceLE, Int.reduceNeg]; rfl) ?_
      (repeat (first | refine W.seq ?_ | refine W.block ?_ | refine W.skip ?_ | refine W.exit ?_))
      refine W.regionK tab_ok b (by decide) ?_
      refine runk_split 3 (by simp only [exa, beq_self_eq_true, ByteArray.size, Nat.reduceAdd, Nat.reduceLeDiff, Nat.reduceEqDiff, Nat.reduceMul, Int.reduceToNat, reduceIte, Int.reduceLE, Int.reduceNeg, killS_app, A.kill, jq, b3q, if_false, hm3]; rfl) ?_
      refine runk_callE (D := [q]) rfl rfl rfl rfl rfl (fun i hi => by simp at hi; subst hi; exact nkq) (by simp) (by first | exact cvs_cons cv_refl (cvs_cons cv_refl cvs_nil) | exact cvs_cons cv_refl (cvs_cons cv_refl (cvs_cons cv_refl cvs_nil))) (blockM h1 f1 (l := th) hTh hlT true (B0 ++ txtB [⟨#[119, 104, 105, 108, 101, 32, 40]⟩] ++ listE es ++ (⟨#[41, 32]⟩ : ByteArray).data.toList) (by have hf := hs; simp [txtB] at hf ⊢; omega)) ?_
      simp only [killL, putS]
      refine runk_exec (by simp only [exa, beq_self_eq_true, ByteArray.size, Nat.reduceAdd, Nat.reduceLeDiff, Nat.reduceEqDiff, Nat.reduceMul, Int.reduceToNat, reduceIte, Int.reduceLE, Int.reduceNeg]; rfl) ?_
      repeat (first | refine W.seq ?_ | refine W.block ?_ | refine W.skip ?_ | refine W.exit ?_ | refine W.region tab_ok b (by decide) (exec_run (by simp only [exa, beq_self_eq_true, ByteArray.size, Nat.reduceAdd, Nat.reduceLeDiff, Nat.reduceEqDiff, Nat.reduceMul, Int.reduceToNat, reduceIte, Int.reduceLE, Int.reduceNeg, killS_app, A.kill, jq, b3q, if_false, hm3]; rfl)) ?_)
      refine W.cond rfl (fun _ => ?_) (fun h => absurd (of_decide_eq_false h) (by omega))
      (repeat (first | refine W.seq ?_ | refine W.block ?_ | refine W.skip ?_ | refine W.exit ?_))
      refine W.regionK tab_ok b (by decide) ?_
      refine runk_split 2 (by simp only [exa, beq_self_eq_true, ByteArray.size, Nat.reduceAdd, Nat.reduceLeDiff, Nat.reduceEqDiff, Nat.reduceMul, Int.reduceToNat, reduceIte, Int.reduceLE, Int.reduceNeg, killS_app, A.kill, jq, b3q, if_false, hm3]; rfl) ?_
      refine runk_callE (D := [q]) rfl rfl rfl rfl rfl (fun i hi => by simp at hi; subst hi; exact nkq) (by simp) (by first | exact cvs_cons cv_refl (cvs_cons cv_refl cvs_nil) | exact cvs_cons cv_refl (cvs_cons cv_refl (cvs_cons cv_refl cvs_nil))) (layM h1 true (B0 ++ txtB [⟨#[119, 104, 105, 108, 101, 32, 40]⟩] ++ listE es ++ (⟨#[41, 32]⟩ : ByteArray).data.toList ++ brcX t (stmtsX th (t + 1))) [⟨#[32, 101, 108, 115, 101, 32]⟩] (by simp) (by simp) (by have hf := hs; simp [txtB] at hf ⊢; omega)) ?_
      simp only [killL, putS]
      refine runk_exec (by simp only [exa, beq_self_eq_true, ByteArray.size, Nat.reduceAdd, Nat.reduceLeDiff, Nat.reduceEqDiff, Nat.reduceMul, Int.reduceToNat, reduceIte, Int.reduceLE, Int.reduceNeg]; rfl) ?_
      (repeat (first | refine W.seq ?_ | refine W.block ?_ | refine W.skip ?_ | refine W.exit ?_))
      refine W.regionK tab_ok b (by decide) ?_
      refine runk_split 3 (by simp only [exa, beq_self_eq_true, ByteArray.size, Nat.reduceAdd, Nat.reduceLeDiff, Nat.reduceEqDiff, Nat.reduceMul, Int.reduceToNat, reduceIte, Int.reduceLE, Int.reduceNeg, killS_app, A.kill, jq, b3q, if_false, hm3]; rfl) ?_
      refine runk_callE (D := [q]) rfl rfl rfl rfl rfl (fun i hi => by simp at hi; subst hi; exact nkq) (by simp) (by first | exact cvs_cons cv_refl (cvs_cons cv_refl cvs_nil) | exact cvs_cons cv_refl (cvs_cons cv_refl (cvs_cons cv_refl cvs_nil))) (blockM h1 f1 (l := el) hEl hlL true (B0 ++ txtB [⟨#[119, 104, 105, 108, 101, 32, 40]⟩] ++ listE es ++ (⟨#[41, 32]⟩ : ByteArray).data.toList ++ brcX t (stmtsX th (t + 1)) ++ txtB [⟨#[32, 101, 108, 115, 101, 32]⟩]) (by have hf := hs; simp [txtB] at hf ⊢; omega)) ?_
      simp only [killL, putS]
      refine runk_exec (by simp only [exa, beq_self_eq_true, ByteArray.size, Nat.reduceAdd, Nat.reduceLeDiff, Nat.reduceEqDiff, Nat.reduceMul, Int.reduceToNat, reduceIte, Int.reduceLE, Int.reduceNeg]; rfl) ?_
      (repeat (first | refine W.seq ?_ | refine W.block ?_ | refine W.skip ?_ | refine W.exit ?_))
      refine W.regionK tab_ok b (by decide) ?_
      refine runk_split 2 (by simp only [exa, beq_self_eq_true, ByteArray.size, Nat.reduceAdd, Nat.reduceLeDiff, Nat.reduceEqDiff, Nat.reduceMul, Int.reduceToNat, reduceIte, Int.reduceLE, Int.reduceNeg, killS_app, A.kill, jq, b3q, if_false, hm3]; rfl) ?_
      refine runk_callE (D := [q]) rfl rfl rfl rfl rfl (fun i hi => by simp at hi; subst hi; exact nkq) (by simp) (by first | exact cvs_cons cv_refl (cvs_cons cv_refl cvs_nil) | exact cvs_cons cv_refl (cvs_cons cv_refl (cvs_cons cv_refl cvs_nil))) (layM h1 true (B0 ++ txtB [⟨#[119, 104, 105, 108, 101, 32, 40]⟩] ++ listE es ++ (⟨#[41, 32]⟩ : ByteArray).data.toList ++ brcX t (stmtsX th (t + 1)) ++ txtB [⟨#[32, 101, 108, 115, 101, 32]⟩] ++ brcX t (stmtsX el (t + 1))) [⟨#[10]⟩] (by simp) (by simp) (by have hf := hs; simp [txtB] at hf ⊢; omega)) ?_
      simp only [killL, putS]
      refine runk_exec (by simp only [exa, beq_self_eq_true, ByteArray.size, Nat.reduceAdd, Nat.reduceLeDiff, Nat.reduceEqDiff, Nat.reduceMul, Int.reduceToNat, reduceIte, Int.reduceLE, Int.reduceNeg]; rfl) ?_
      (repeat (first | refine W.seq ?_ | refine W.block ?_ | refine W.skip ?_ | refine W.exit ?_))
      refine W.ret ⟨.inr rfl, by rfl, ?_, ?mle⟩
      simp only [Tryd.f51, resE, resOne, fin, toT, exa, beq_self_eq_true, ByteArray.size, Nat.reduceAdd, Nat.reduceLeDiff, Nat.reduceEqDiff, Nat.reduceMul, Int.reduceToNat, reduceIte, Int.reduceLE, Int.reduceNeg]
      case mle =>
        refine mle_eq (congrArg (pgM M j q true t) ?_) (off _ _)
        rw [hbd]
        simp [txtB, List.append_assoc]
  · skip
    have hbd : bodyS 5 n ty.data.toList nm.data.toList es t (stmtsX th (t + 1)) (stmtsX el (t + 1)) el.isEmpty = [112, 114, 105, 110, 116, 40] ++ Lib.itoa n ++ [44, 32] ++ listE es ++ [41] ++ [59, 10] := by simp [bodyS]
    rw [hbd] at hs
    repeat (first | refine W.seq ?_ | refine W.block ?_ | refine W.skip ?_ | refine W.exit ?_ | refine W.region tab_ok b (by decide) (exec_run (by simp only [exa, beq_self_eq_true, ByteArray.size, Nat.reduceAdd, Nat.reduceLeDiff, Nat.reduceEqDiff, Nat.reduceMul, Int.reduceToNat, reduceIte, Int.reduceLE, Int.reduceNeg, killS_app, A.kill, jq, b3q, if_false, hm3]; rfl)) ?_)
    iterate 4 (refine W.cond rfl (fun h => absurd h (by decide)) (fun _ => ?_); repeat (first | refine W.seq ?_ | refine W.block ?_ | refine W.skip ?_ | refine W.exit ?_ | refine W.region tab_ok b (by decide) (exec_run (by simp only [exa, beq_self_eq_true, ByteArray.size, Nat.reduceAdd, Nat.reduceLeDiff, Nat.reduceEqDiff, Nat.reduceMul, Int.reduceToNat, reduceIte, Int.reduceLE, Int.reduceNeg, killS_app, A.kill, jq, b3q, if_false, hm3]; rfl)) ?_))
    refine W.cond rfl (fun _ => ?_) (fun h => absurd h (by decide))
    (repeat (first | refine W.seq ?_ | refine W.block ?_ | refine W.skip ?_ | refine W.exit ?_))
    (repeat (first | refine W.seq ?_ | refine W.block ?_ | refine W.skip ?_ | refine W.exit ?_))
    refine W.regionK tab_ok b (by decide) ?_
    refine runk_split 3 (by simp only [exa, beq_self_eq_true, ByteArray.size, Nat.reduceAdd, Nat.reduceLeDiff, Nat.reduceEqDiff, Nat.reduceMul, Int.reduceToNat, reduceIte, Int.reduceLE, Int.reduceNeg, killS_app, A.kill, jq, b3q, if_false, hm3]; rfl) ?_
    refine runk_call rfl rfl rfl rfl rfl (by simp) (cvs_cons cv_refl cvs_nil) (num_ok n _) ?_
    refine runk_split 1 (by simp only [exa, beq_self_eq_true, ByteArray.size, Nat.reduceAdd, Nat.reduceLeDiff, Nat.reduceEqDiff, Nat.reduceMul, Int.reduceToNat, reduceIte, Int.reduceLE, Int.reduceNeg, killS_app, A.kill, jq, b3q, if_false, hm3]; rfl) ?_
    refine runk_callE (D := [q]) rfl rfl rfl rfl rfl (fun i hi => by simp at hi; subst hi; exact nkq) (by simp) (by first | exact cvs_cons cv_refl (cvs_cons cv_refl cvs_nil) | exact cvs_cons cv_refl (cvs_cons cv_refl (cvs_cons cv_refl cvs_nil))) (layM h1 true B0 [⟨#[112, 114, 105, 110, 116, 40]⟩, ⟨(Lib.itoa n).toArray⟩, ⟨#[44, 32]⟩] (by simp) (by simp) (by have hf := hs; simp [txtB] at hf ⊢; omega)) ?_
    simp only [killL, putS]
    refine runk_exec (by simp only [exa, beq_self_eq_true, ByteArray.size, Nat.reduceAdd, Nat.reduceLeDiff, Nat.reduceEqDiff, Nat.reduceMul, Int.reduceToNat, reduceIte, Int.reduceLE, Int.reduceNeg]; rfl) ?_
    (repeat (first | refine W.seq ?_ | refine W.block ?_ | refine W.skip ?_ | refine W.exit ?_))
    refine W.regionK tab_ok b (by decide) ?_
    refine runk_split 3 (by simp only [exa, beq_self_eq_true, ByteArray.size, Nat.reduceAdd, Nat.reduceLeDiff, Nat.reduceEqDiff, Nat.reduceMul, Int.reduceToNat, reduceIte, Int.reduceLE, Int.reduceNeg, killS_app, A.kill, jq, b3q, if_false, hm3]; rfl) ?_
    refine runk_callE (D := [q]) rfl rfl rfl rfl rfl (fun i hi => by simp at hi; subst hi; exact nkq) (by simp) (by first | exact cvs_cons cv_refl (cvs_cons cv_refl cvs_nil) | exact cvs_cons cv_refl (cvs_cons cv_refl (cvs_cons cv_refl cvs_nil))) (listM h1 f1 (l := es) hE hlen true (B0 ++ txtB [⟨#[112, 114, 105, 110, 116, 40]⟩, ⟨(Lib.itoa n).toArray⟩, ⟨#[44, 32]⟩]) ⟨#[41]⟩ (by show _ + _ + 1 ≤ _; have hf := hs; simp [txtB] at hf ⊢; omega)) ?_
    simp only [killL, putS]
    refine runk_exec (by simp only [exa, beq_self_eq_true, ByteArray.size, Nat.reduceAdd, Nat.reduceLeDiff, Nat.reduceEqDiff, Nat.reduceMul, Int.reduceToNat, reduceIte, Int.reduceLE, Int.reduceNeg]; rfl) ?_
    (repeat (first | refine W.seq ?_ | refine W.block ?_ | refine W.skip ?_ | refine W.exit ?_))
    refine W.regionK tab_ok b (by decide) ?_
    refine runk_split 2 (by simp only [exa, beq_self_eq_true, ByteArray.size, Nat.reduceAdd, Nat.reduceLeDiff, Nat.reduceEqDiff, Nat.reduceMul, Int.reduceToNat, reduceIte, Int.reduceLE, Int.reduceNeg, killS_app, A.kill, jq, b3q, if_false, hm3]; rfl) ?_
    refine runk_callE (D := [q]) rfl rfl rfl rfl rfl (fun i hi => by simp at hi; subst hi; exact nkq) (by simp) (by first | exact cvs_cons cv_refl (cvs_cons cv_refl cvs_nil) | exact cvs_cons cv_refl (cvs_cons cv_refl (cvs_cons cv_refl cvs_nil))) (layM h1 true (B0 ++ txtB [⟨#[112, 114, 105, 110, 116, 40]⟩, ⟨(Lib.itoa n).toArray⟩, ⟨#[44, 32]⟩] ++ listE es ++ (⟨#[41]⟩ : ByteArray).data.toList) [⟨#[59, 10]⟩] (by simp) (by simp) (by have hf := hs; simp [txtB] at hf ⊢; omega)) ?_
    simp only [killL, putS]
    refine runk_exec (by simp only [exa, beq_self_eq_true, ByteArray.size, Nat.reduceAdd, Nat.reduceLeDiff, Nat.reduceEqDiff, Nat.reduceMul, Int.reduceToNat, reduceIte, Int.reduceLE, Int.reduceNeg]; rfl) ?_
    refine ⟨by simp, by rfl, by rfl, ?_⟩
    refine mle_eq (congrArg (pgM M j q true t) ?_) (off _ _)
    rw [hbd]
    simp [txtB, List.append_assoc]
  · skip
    have hbd : bodyS 6 n ty.data.toList nm.data.toList es t (stmtsX th (t + 1)) (stmtsX el (t + 1)) el.isEmpty = [114, 101, 116, 117, 114, 110, 32] ++ listE es ++ [59, 10] := by simp [bodyS]
    rw [hbd] at hs
    repeat (first | refine W.seq ?_ | refine W.block ?_ | refine W.skip ?_ | refine W.exit ?_ | refine W.region tab_ok b (by decide) (exec_run (by simp only [exa, beq_self_eq_true, ByteArray.size, Nat.reduceAdd, Nat.reduceLeDiff, Nat.reduceEqDiff, Nat.reduceMul, Int.reduceToNat, reduceIte, Int.reduceLE, Int.reduceNeg, killS_app, A.kill, jq, b3q, if_false, hm3]; rfl)) ?_)
    iterate 5 (refine W.cond rfl (fun h => absurd h (by decide)) (fun _ => ?_); repeat (first | refine W.seq ?_ | refine W.block ?_ | refine W.skip ?_ | refine W.exit ?_ | refine W.region tab_ok b (by decide) (exec_run (by simp only [exa, beq_self_eq_true, ByteArray.size, Nat.reduceAdd, Nat.reduceLeDiff, Nat.reduceEqDiff, Nat.reduceMul, Int.reduceToNat, reduceIte, Int.reduceLE, Int.reduceNeg, killS_app, A.kill, jq, b3q, if_false, hm3]; rfl)) ?_))
    refine W.cond rfl (fun _ => ?_) (fun h => absurd h (by decide))
    (repeat (first | refine W.seq ?_ | refine W.block ?_ | refine W.skip ?_ | refine W.exit ?_))
    (repeat (first | refine W.seq ?_ | refine W.block ?_ | refine W.skip ?_ | refine W.exit ?_))
    refine W.regionK tab_ok b (by decide) ?_
    refine runk_split 2 (by simp only [exa, beq_self_eq_true, ByteArray.size, Nat.reduceAdd, Nat.reduceLeDiff, Nat.reduceEqDiff, Nat.reduceMul, Int.reduceToNat, reduceIte, Int.reduceLE, Int.reduceNeg, killS_app, A.kill, jq, b3q, if_false, hm3]; rfl) ?_
    refine runk_callE (D := [q]) rfl rfl rfl rfl rfl (fun i hi => by simp at hi; subst hi; exact nkq) (by simp) (by first | exact cvs_cons cv_refl (cvs_cons cv_refl cvs_nil) | exact cvs_cons cv_refl (cvs_cons cv_refl (cvs_cons cv_refl cvs_nil))) (layM h1 true B0 [⟨#[114, 101, 116, 117, 114, 110, 32]⟩] (by simp) (by simp) (by have hf := hs; simp [txtB] at hf ⊢; omega)) ?_
    simp only [killL, putS]
    refine runk_exec (by simp only [exa, beq_self_eq_true, ByteArray.size, Nat.reduceAdd, Nat.reduceLeDiff, Nat.reduceEqDiff, Nat.reduceMul, Int.reduceToNat, reduceIte, Int.reduceLE, Int.reduceNeg]; rfl) ?_
    (repeat (first | refine W.seq ?_ | refine W.block ?_ | refine W.skip ?_ | refine W.exit ?_))
    refine W.regionK tab_ok b (by decide) ?_
    refine runk_split 3 (by simp only [exa, beq_self_eq_true, ByteArray.size, Nat.reduceAdd, Nat.reduceLeDiff, Nat.reduceEqDiff, Nat.reduceMul, Int.reduceToNat, reduceIte, Int.reduceLE, Int.reduceNeg, killS_app, A.kill, jq, b3q, if_false, hm3]; rfl) ?_
    refine runk_callE (D := [q]) rfl rfl rfl rfl rfl (fun i hi => by simp at hi; subst hi; exact nkq) (by simp) (by first | exact cvs_cons cv_refl (cvs_cons cv_refl cvs_nil) | exact cvs_cons cv_refl (cvs_cons cv_refl (cvs_cons cv_refl cvs_nil))) (listM h1 f1 (l := es) hE hlen true (B0 ++ txtB [⟨#[114, 101, 116, 117, 114, 110, 32]⟩]) ⟨#[]⟩ (by show _ + _ + 0 ≤ _; have hf := hs; simp [txtB] at hf ⊢; omega)) ?_
    simp only [killL, putS]
    refine runk_exec (by simp only [exa, beq_self_eq_true, ByteArray.size, Nat.reduceAdd, Nat.reduceLeDiff, Nat.reduceEqDiff, Nat.reduceMul, Int.reduceToNat, reduceIte, Int.reduceLE, Int.reduceNeg]; rfl) ?_
    (repeat (first | refine W.seq ?_ | refine W.block ?_ | refine W.skip ?_ | refine W.exit ?_))
    refine W.regionK tab_ok b (by decide) ?_
    refine runk_split 2 (by simp only [exa, beq_self_eq_true, ByteArray.size, Nat.reduceAdd, Nat.reduceLeDiff, Nat.reduceEqDiff, Nat.reduceMul, Int.reduceToNat, reduceIte, Int.reduceLE, Int.reduceNeg, killS_app, A.kill, jq, b3q, if_false, hm3]; rfl) ?_
    refine runk_callE (D := [q]) rfl rfl rfl rfl rfl (fun i hi => by simp at hi; subst hi; exact nkq) (by simp) (by first | exact cvs_cons cv_refl (cvs_cons cv_refl cvs_nil) | exact cvs_cons cv_refl (cvs_cons cv_refl (cvs_cons cv_refl cvs_nil))) (layM h1 true (B0 ++ txtB [⟨#[114, 101, 116, 117, 114, 110, 32]⟩] ++ listE es) [⟨#[59, 10]⟩] (by simp) (by simp) (by have hf := hs; simp [txtB] at hf ⊢; omega)) ?_
    simp only [killL, putS]
    refine runk_exec (by simp only [exa, beq_self_eq_true, ByteArray.size, Nat.reduceAdd, Nat.reduceLeDiff, Nat.reduceEqDiff, Nat.reduceMul, Int.reduceToNat, reduceIte, Int.reduceLE, Int.reduceNeg]; rfl) ?_
    refine ⟨by simp, by rfl, by rfl, ?_⟩
    refine mle_eq (congrArg (pgM M j q true t) ?_) (off _ _)
    rw [hbd]
    simp [txtB, List.append_assoc]
  · skip
    have hbd : bodyS 7 n ty.data.toList nm.data.toList es t (stmtsX th (t + 1)) (stmtsX el (t + 1)) el.isEmpty = listE es ++ [59, 10] := by simp [bodyS]
    rw [hbd] at hs
    repeat (first | refine W.seq ?_ | refine W.block ?_ | refine W.skip ?_ | refine W.exit ?_ | refine W.region tab_ok b (by decide) (exec_run (by simp only [exa, beq_self_eq_true, ByteArray.size, Nat.reduceAdd, Nat.reduceLeDiff, Nat.reduceEqDiff, Nat.reduceMul, Int.reduceToNat, reduceIte, Int.reduceLE, Int.reduceNeg, killS_app, A.kill, jq, b3q, if_false, hm3]; rfl)) ?_)
    iterate 6 (refine W.cond rfl (fun h => absurd h (by decide)) (fun _ => ?_); repeat (first | refine W.seq ?_ | refine W.block ?_ | refine W.skip ?_ | refine W.exit ?_ | refine W.region tab_ok b (by decide) (exec_run (by simp only [exa, beq_self_eq_true, ByteArray.size, Nat.reduceAdd, Nat.reduceLeDiff, Nat.reduceEqDiff, Nat.reduceMul, Int.reduceToNat, reduceIte, Int.reduceLE, Int.reduceNeg, killS_app, A.kill, jq, b3q, if_false, hm3]; rfl)) ?_))
    (repeat (first | refine W.seq ?_ | refine W.block ?_ | refine W.skip ?_ | refine W.exit ?_))
    refine W.regionK tab_ok b (by decide) ?_
    refine runk_split 3 (by simp only [exa, beq_self_eq_true, ByteArray.size, Nat.reduceAdd, Nat.reduceLeDiff, Nat.reduceEqDiff, Nat.reduceMul, Int.reduceToNat, reduceIte, Int.reduceLE, Int.reduceNeg, killS_app, A.kill, jq, b3q, if_false, hm3]; rfl) ?_
    refine runk_callE (D := [q]) rfl rfl rfl rfl rfl (fun i hi => by simp at hi; subst hi; exact nkq) (by simp) (by first | exact cvs_cons cv_refl (cvs_cons cv_refl cvs_nil) | exact cvs_cons cv_refl (cvs_cons cv_refl (cvs_cons cv_refl cvs_nil))) (listM h1 f1 (l := es) hE hlen true B0 ⟨#[]⟩ (by show _ + _ + 0 ≤ _; have hf := hs; simp [txtB] at hf ⊢; omega)) ?_
    simp only [killL, putS]
    refine runk_exec (by simp only [exa, beq_self_eq_true, ByteArray.size, Nat.reduceAdd, Nat.reduceLeDiff, Nat.reduceEqDiff, Nat.reduceMul, Int.reduceToNat, reduceIte, Int.reduceLE, Int.reduceNeg]; rfl) ?_
    (repeat (first | refine W.seq ?_ | refine W.block ?_ | refine W.skip ?_ | refine W.exit ?_))
    refine W.regionK tab_ok b (by decide) ?_
    refine runk_split 2 (by simp only [exa, beq_self_eq_true, ByteArray.size, Nat.reduceAdd, Nat.reduceLeDiff, Nat.reduceEqDiff, Nat.reduceMul, Int.reduceToNat, reduceIte, Int.reduceLE, Int.reduceNeg, killS_app, A.kill, jq, b3q, if_false, hm3]; rfl) ?_
    refine runk_callE (D := [q]) rfl rfl rfl rfl rfl (fun i hi => by simp at hi; subst hi; exact nkq) (by simp) (by first | exact cvs_cons cv_refl (cvs_cons cv_refl cvs_nil) | exact cvs_cons cv_refl (cvs_cons cv_refl (cvs_cons cv_refl cvs_nil))) (layM h1 true (B0 ++ listE es) [⟨#[59, 10]⟩] (by simp) (by simp) (by have hf := hs; simp [txtB] at hf ⊢; omega)) ?_
    simp only [killL, putS]
    refine runk_exec (by simp only [exa, beq_self_eq_true, ByteArray.size, Nat.reduceAdd, Nat.reduceLeDiff, Nat.reduceEqDiff, Nat.reduceMul, Int.reduceToNat, reduceIte, Int.reduceLE, Int.reduceNeg]; rfl) ?_
    refine ⟨by simp, by rfl, by rfl, ?_⟩
    refine mle_eq (congrArg (pgM M j q true t) ?_) (off _ _)
    rw [hbd]
    simp [txtB, List.append_assoc]
end V
end Go.Proofs.YtbmbmcdaabhgnaaDoor
end
section
set_option linter.unusedVariables false
set_option linter.unusedSimpArgs false
namespace Go.Proofs.YtbmbmcdaabhgnaaDoor
namespace V
open Go.RowKit
def typT (ty : List UInt8) : List (List UInt8) := if ty = [105, 110, 116, 91, 93] then [[105, 110, 116], [91], [93]] else [ty]
def brcT (a : List (List UInt8)) : List (List UInt8) := [123] :: (a ++ [[125]])
def exprIT (es : List Expr) (i : Nat) : List (List UInt8) := match es[i]? with | some e => tokE e 1 | none => []
def bodyST (k n : Int) (ty nm : List UInt8) (es : List Expr) (a b : List (List UInt8)) (el : Bool) : List (List UInt8) :=
  if k = 1 then typT ty ++ nm :: ((if es.isEmpty then [] else [61] :: tokL es) ++ [[59]])
  else if k = 2 then exprIT es 0 ++ [61] :: (exprIT es 1 ++ [[59]])
  else if k = 3 ∨ k = 4 then (if k = 3 then [105, 102] else [119, 104, 105, 108, 101]) :: [40] :: (tokL es ++ [41] :: (brcT a ++ (if el then [] else [101, 108, 115, 101] :: brcT b)))
  else if k = 5 then [112, 114, 105, 110, 116] :: [40] :: Lib.itoa n :: [44] :: (tokL es ++ [[41], [59]])
  else if k = 6 then [114, 101, 116, 117, 114, 110] :: (tokL es ++ [[59]])
  else tokL es ++ [[59]]
mutual
def stmtT : Stmt → List (List UInt8)
  | ⟨k, n, ty, nm, es, th, el⟩ => bodyST k n ty.data.toList nm.data.toList es (stmtsT th) (stmtsT el) el.isEmpty
def stmtsT : List Stmt → List (List UInt8)
  | [] => []
  | s :: l => stmtT s ++ stmtsT l
end
theorem tk_tab : ∀ (t : Nat) (r : List UInt8), tk (tabX t ++ r) = tk r
  | 0, r => rfl
  | t + 1, r => by
    show tk (9 :: (tabX t ++ r)) = _
    rw [tk_blank _ (by decide) (by decide)]
    exact tk_tab t r
theorem tk_type {ty : ByteArray} (h : isTypeB ty = true) (r : List UInt8) : tk (ty.data.toList ++ 32 :: r) = typT ty.data.toList ++ tk r := by
  unfold isTypeB at h
  simp only [Bool.or_eq_true, beq_iff_eq] at h
  rcases h with (h | h) | h
  · rw [h, tk_word _ _ (by decide) (by decide) (by rfl), tk_blank _ (by decide) (by decide)]; rfl
  · rw [h]
    show tk ([105, 110, 116] ++ 91 :: 93 :: 32 :: r) = [[105, 110, 116], [91], [93]] ++ tk r
    rw [tk_word _ _ (by decide) (by decide) (by rfl), tk_sign _ (by decide) (by decide), tk_sign _ (by decide) (by decide), tk_blank _ (by decide) (by decide)]
    rfl
  · obtain ⟨q1, q2, q3, -⟩ := name_tk h
    have hne : ty.data.toList ≠ [105, 110, 116, 91, 93] := by
      intro e; rw [e] at q2; exact absurd q2 (by decide)
    unfold typT
    rw [if_neg hne, tk_word _ _ q1 q2 (by rfl), tk_blank _ (by decide) (by decide)]
    rfl
theorem tk_nameX {nm : ByteArray} (h : isNameB nm = true) {r : List UInt8} (hr : nw r = true) : tk (nm.data.toList ++ r) = nm.data.toList :: tk r := tk_word _ _ (name_tk h).1 (name_tk h).2.1 hr
theorem tkE {x : Expr} (hx : exprB x = true) {r : List UInt8} (hr : nw r = true) : tk (exprX x 1 ++ r) = tokE x 1 ++ tk r := tk_exprX (tk_textX _ x (Nat.le_refl _) hx) 1 r hr
theorem tkL {l : List Expr} (hl : ∀ x ∈ l, exprB x = true) {r : List UInt8} (hr : nw r = true) : tk (listE l ++ r) = tokL l ++ tk r := tk_listE l (fun x hx => tk_textX _ x (Nat.le_refl _) (hl x hx)) r hr
theorem tk_brc {t : Nat} {a : List UInt8} {b : List (List UInt8)} (h : ∀ r, tk (a ++ r) = b ++ tk r) (r : List UInt8) : tk (brcX t a ++ r) = brcT b ++ tk r := by
  show tk (((123 :: 10 :: a) ++ tabX t ++ [125]) ++ r) = [123] :: (b ++ [[125]]) ++ tk r
  simp only [List.append_assoc, List.cons_append, List.nil_append]
  rw [tk_sign _ (by decide) (by decide), tk_blank _ (by decide) (by decide), h, tk_tab, tk_sign _ (by decide) (by decide)]
theorem tk_end (r : List UInt8) : tk (59 :: 10 :: r) = [59] :: tk r := by rw [tk_sign _ (by decide) (by decide), tk_blank _ (by decide) (by decide)]
mutual
theorem tk_stmtX : ∀ (s : Stmt) (t : Nat), stmtB s = true → ∀ r, tk (stmtX s t ++ r) = stmtT s ++ tk r
  | ⟨k, n, ty, nm, es, th, el⟩, t, h, r => by
    obtain ⟨hk17, fe, f1, f2, f3, f4, fx, ft, fl⟩ := stmt_facts h
    have ha := fun r => tk_stmtsX th (t + 1) (by rw [stmtsB_all, List.all_eq_true]; exact ft) r
    have hb := fun r => tk_stmtsX el (t + 1) (by rw [stmtsB_all, List.all_eq_true]; exact fl) r
    have hn := fun {r : List UInt8} (hr : nw r = true) => tk_word (Lib.itoa n) r (itoa_tk f2.1).1 (digit_within (itoa_tk f2.1).2) hr
    simp only [stmtX, stmtT, List.append_assoc]
    rw [tk_tab]
    generalize stmtsX th (t + 1) = A at ha
    generalize stmtsX el (t + 1) = B at hb
    generalize stmtsT th = TA at ha
    generalize stmtsT el = TB at hb
    have hcase : k = 1 ∨ k = 2 ∨ k = 3 ∨ k = 4 ∨ k = 5 ∨ k = 6 ∨ k = 7 := by omega
    rcases hcase with rfl | rfl | rfl | rfl | rfl | rfl | rfl
    · obtain ⟨q1, q2⟩ := f1 rfl
      show tk ((ty.data.toList ++ [32] ++ nm.data.toList ++ (if es.isEmpty then [] else [32, 61, 32] ++ listE es) ++ [59, 10]) ++ r) = (typT ty.data.toList ++ nm.data.toList :: ((if es.isEmpty then [] else [61] :: tokL es) ++ [[59]])) ++ tk r
      split
      · simp only [List.append_assoc, List.cons_append, List.nil_append]
        rw [tk_type q1, tk_nameX q2 (by rfl), tk_end]
      · simp only [List.append_assoc, List.cons_append, List.nil_append]
        rw [tk_type q1, tk_nameX q2 (by rfl), tk_blank _ (by decide) (by decide), tk_sign _ (by decide) (by decide), tk_blank _ (by decide) (by decide), tkL fx (by rfl), tk_end]
    · obtain ⟨y, z, rfl⟩ : ∃ y z, es = [y, z] := twoK (by rw [fe]; rfl)
      show tk ((exprX y 1 ++ [32, 61, 32] ++ exprX z 1 ++ [59, 10]) ++ r) = (tokE y 1 ++ [61] :: (tokE z 1 ++ [[59]])) ++ tk r
      simp only [List.append_assoc, List.cons_append, List.nil_append]
      rw [tkE (fx y (by simp)) (by rfl), tk_blank _ (by decide) (by decide), tk_sign _ (by decide) (by decide), tk_blank _ (by decide) (by decide), tkE (fx z (by simp)) (by rfl), tk_end]
    · show tk ((([105, 102] ++ [32, 40]) ++ listE es ++ [41, 32] ++ brcX t A ++ (if el.isEmpty then [] else [32] ++ [101, 108, 115, 101] ++ [32] ++ brcX t B) ++ [10]) ++ r) = ([105, 102] :: [40] :: (tokL es ++ [41] :: (brcT TA ++ (if el.isEmpty then [] else [101, 108, 115, 101] :: brcT TB)))) ++ tk r
      split
      · simp only [List.append_assoc]
        rw [tk_word _ _ (by decide) (by decide) (by rfl)]
        simp only [List.cons_append, List.nil_append]
        rw [tk_blank _ (by decide) (by decide), tk_sign _ (by decide) (by decide), tkL fx (by rfl), tk_sign _ (by decide) (by decide), tk_blank _ (by decide) (by decide), tk_brc ha, tk_blank _ (by decide) (by decide)]
        simp
      · simp only [List.append_assoc]
        rw [tk_word _ _ (by decide) (by decide) (by rfl)]
        simp only [List.cons_append, List.nil_append]
        rw [tk_blank _ (by decide) (by decide), tk_sign _ (by decide) (by decide), tkL fx (by rfl), tk_sign _ (by decide) (by decide), tk_blank _ (by decide) (by decide), tk_brc ha, tk_blank _ (by decide) (by decide),
          show (101 :: 108 :: 115 :: 101 :: 32 :: (brcX t B ++ 10 :: r) : List UInt8) = [101, 108, 115, 101] ++ 32 :: (brcX t B ++ 10 :: r) from rfl, tk_word _ _ (by decide) (by decide) (by rfl), tk_blank _ (by decide) (by decide), tk_brc hb, tk_blank _ (by decide) (by decide)]
        simp
    · obtain rfl : el = [] := f4 (by decide)
      show tk ((([119, 104, 105, 108, 101] ++ [32, 40]) ++ listE es ++ [41, 32] ++ brcX t A ++ [] ++ [10]) ++ r) = ([119, 104, 105, 108, 101] :: [40] :: (tokL es ++ [41] :: (brcT TA ++ []))) ++ tk r
      simp only [List.append_assoc]
      rw [tk_word _ _ (by decide) (by decide) (by rfl)]
      simp only [List.cons_append, List.nil_append]
      rw [tk_blank _ (by decide) (by decide), tk_sign _ (by decide) (by decide), tkL fx (by rfl), tk_sign _ (by decide) (by decide), tk_blank _ (by decide) (by decide), tk_brc ha, tk_blank _ (by decide) (by decide)]
      simp
    · show tk ((([112, 114, 105, 110, 116] ++ [40]) ++ Lib.itoa n ++ [44, 32] ++ listE es ++ [41] ++ [59, 10]) ++ r) = ([112, 114, 105, 110, 116] :: [40] :: Lib.itoa n :: [44] :: (tokL es ++ [[41], [59]])) ++ tk r
      simp only [List.append_assoc]
      rw [tk_word _ _ (by decide) (by decide) (by rfl)]
      simp only [List.cons_append, List.nil_append]
      rw [tk_sign _ (by decide) (by decide), hn (by rfl), tk_sign _ (by decide) (by decide), tk_blank _ (by decide) (by decide), tkL fx (by rfl), tk_sign _ (by decide) (by decide), tk_end]
      simp
    · show tk ((([114, 101, 116, 117, 114, 110] ++ [32]) ++ listE es ++ [59, 10]) ++ r) = ([114, 101, 116, 117, 114, 110] :: (tokL es ++ [[59]])) ++ tk r
      simp only [List.append_assoc]
      rw [tk_word _ _ (by decide) (by decide) (by rfl)]
      simp only [List.cons_append, List.nil_append]
      rw [tk_blank _ (by decide) (by decide), tkL fx (by rfl), tk_end]
      simp
    · show tk ((listE es ++ [59, 10]) ++ r) = (tokL es ++ [[59]]) ++ tk r
      simp only [List.append_assoc, List.cons_append, List.nil_append]
      rw [tkL fx (by rfl), tk_end]
theorem tk_stmtsX : ∀ (l : List Stmt) (t : Nat), stmtsB l = true → ∀ r, tk (stmtsX l t ++ r) = stmtsT l ++ tk r
  | [], t, _, r => by simp [stmtsX, stmtsT]
  | s :: l, t, h, r => by
    simp only [stmtsB, Bool.and_eq_true] at h
    simp only [stmtsX, stmtsT, List.append_assoc]
    rw [tk_stmtX s t h.1, tk_stmtsX l t h.2]
end
def slotT (s : Slot) : List (List UInt8) := typT s.type.data.toList ++ [s.name.data.toList]
def fieldT (s : Slot) : List (List UInt8) := slotT s ++ [[59]]
def methT (m : Method) : List (List UInt8) := slotT ⟨m.type, m.name⟩ ++ [40] :: (commaT (m.params.map slotT) ++ [41] :: brcT (stmtsT m.body))
def classT (c : Class) : List (List UInt8) := [99, 108, 97, 115, 115] :: c.name.data.toList :: ((if c.super.data.toList.isEmpty then [] else [[101, 120, 116, 101, 110, 100, 115], c.super.data.toList]) ++ brcT (c.fields.flatMap fieldT ++ c.methods.flatMap methT))
def progT (p : Program) : List (List UInt8) := p.classes.flatMap classT ++ [109, 97, 105, 110] :: brcT (stmtsT p.main)
theorem tk_slot {s : Slot} (h : slotB s = true) {r : List UInt8} (hr : nw r = true) : tk (slotX s ++ r) = slotT s ++ tk r := by
  unfold slotB at h
  simp only [Bool.and_eq_true] at h
  unfold slotX slotT
  simp only [List.append_assoc, List.cons_append, List.nil_append]
  rw [tk_type h.1, tk_nameX h.2 hr]
theorem tk_flat {α : Type} (f : α → List UInt8) (g : α → List (List UInt8)) : ∀ (l : List α), (∀ x ∈ l, ∀ r, tk (f x ++ r) = g x ++ tk r) → ∀ r, tk (l.flatMap f ++ r) = l.flatMap g ++ tk r
  | [], _, r => by simp
  | x :: l, h, r => by
    simp only [List.flatMap_cons, List.append_assoc]
    rw [h x (by simp), tk_flat f g l (fun y hy => h y (by simp [hy]))]
theorem tk_slots : ∀ (l : List Slot), (∀ s ∈ l, slotB s = true) → ∀ r, nw r = true → tk (commaX (l.map slotX) ++ r) = commaT (l.map slotT) ++ tk r
  | [], _, r, hr => by simp [commaX, commaT]
  | [s], h, r, hr => by simpa [commaX, commaT] using tk_slot (h s (by simp)) hr
  | s :: u :: l, h, r, hr => by
    have ih := tk_slots (u :: l) (fun x hx => h x (by simp [hx])) r hr
    show tk ((slotX s ++ 44 :: 32 :: commaX ((u :: l).map slotX)) ++ r) = (slotT s ++ [44] :: commaT ((u :: l).map slotT)) ++ tk r
    simp only [List.append_assoc, List.cons_append]
    rw [tk_slot (h s (by simp)) (by rfl), tk_sign _ (by decide) (by decide), tk_blank _ (by decide) (by decide), ih]
theorem tk_field {s : Slot} (h : slotB s = true) (r : List UInt8) : tk (fieldX s ++ r) = fieldT s ++ tk r := by
  unfold fieldX fieldT
  simp only [List.append_assoc, List.cons_append, List.nil_append]
  rw [tk_blank _ (by decide) (by decide), tk_slot h (by rfl), tk_end]
theorem tk_meth {m : Method} (h : methodB m = true) (r : List UInt8) : tk (methX m ++ r) = methT m ++ tk r := by
  unfold methodB at h
  simp only [Bool.and_eq_true, decide_eq_true_eq] at h
  obtain ⟨⟨⟨h1, h2⟩, h3⟩, h4⟩ := h
  have hs := tk_slot h1 (r := 40 :: (commaX (m.params.map slotX) ++ (41 :: 32 :: (brcX 1 (stmtsX m.body 2) ++ 10 :: r)))) (by rfl)
  have e : methX m ++ r = 9 :: (slotX ⟨m.type, m.name⟩ ++ 40 :: (commaX (m.params.map slotX) ++ (41 :: 32 :: (brcX 1 (stmtsX m.body 2) ++ 10 :: r)))) := by simp [methX, slotX, List.append_assoc]
  rw [e, tk_blank _ (by decide) (by decide), hs, tk_sign _ (by decide) (by decide), tk_slots _ (fun s hs => List.all_eq_true.1 h3 s hs) _ (by rfl), tk_sign _ (by decide) (by decide), tk_blank _ (by decide) (by decide), tk_brc (fun r => tk_stmtsX m.body 2 (by rw [stmtsB_all]; exact h4) r), tk_blank _ (by decide) (by decide)]
  simp [methT, List.append_assoc]
theorem tk_class {c : Class} (h : classB c = true) (r : List UInt8) : tk (classX c ++ r) = classT c ++ tk r := by
  unfold classB classTop at h
  simp only [Bool.and_eq_true, Bool.or_eq_true, List.all_eq_true] at h
  obtain ⟨⟨⟨h1, h2⟩, h3⟩, h4⟩ := h
  have hF := fun r => tk_flat fieldX fieldT c.fields (fun s hs => tk_field (h3 s hs)) r
  have hM := fun r => tk_flat methX methT c.methods (fun m hm => tk_meth (h4 m hm)) r
  have hsu : c.super.data.toList.isEmpty = false → isNameB c.super = true := fun e => by
    rcases h2 with h2 | h2
    · rw [toListX, e] at h2; cases h2
    · exact h2
  have body : ∀ r, tk (32 :: 123 :: 10 :: (c.fields.flatMap fieldX ++ (c.methods.flatMap methX ++ 125 :: 10 :: r))) = brcT (c.fields.flatMap fieldT ++ c.methods.flatMap methT) ++ tk r := fun r => by
    rw [tk_blank _ (by decide) (by decide), tk_sign _ (by decide) (by decide), tk_blank _ (by decide) (by decide), hF, hM, tk_sign _ (by decide) (by decide), tk_blank _ (by decide) (by decide)]
    simp [brcT, List.append_assoc]
  cases he : c.super.data.toList.isEmpty with
  | true =>
    have e : classX c ++ r = [99, 108, 97, 115, 115] ++ 32 :: (c.name.data.toList ++ 32 :: 123 :: 10 :: (c.fields.flatMap fieldX ++ (c.methods.flatMap methX ++ 125 :: 10 :: r))) := by
      unfold classX; rw [he]; simp [List.append_assoc]
    rw [e, tk_word _ _ (by decide) (by decide) (by rfl), tk_blank _ (by decide) (by decide), tk_nameX h1 (by rfl), body]
    unfold classT; rw [he]; rfl
  | false =>
    have e : classX c ++ r = [99, 108, 97, 115, 115] ++ 32 :: (c.name.data.toList ++ 32 :: ([101, 120, 116, 101, 110, 100, 115] ++ 32 :: (c.super.data.toList ++ 32 :: 123 :: 10 :: (c.fields.flatMap fieldX ++ (c.methods.flatMap methX ++ 125 :: 10 :: r))))) := by
      unfold classX; rw [he]; simp [List.append_assoc]
    rw [e, tk_word _ _ (by decide) (by decide) (by rfl), tk_blank _ (by decide) (by decide), tk_nameX h1 (by rfl), tk_blank _ (by decide) (by decide), tk_word _ _ (by decide) (by decide) (by rfl), tk_blank _ (by decide) (by decide), tk_nameX (hsu he) (by rfl), body]
    unfold classT; rw [he]; rfl
theorem tk_prog {p : Program} (h : checkB p = true) : tk (progX p) = progT p := by
  unfold checkB at h
  simp only [Bool.and_eq_true, List.all_eq_true] at h
  have hC := fun r => tk_flat classX classT p.classes (fun c hc => tk_class (h.2 c hc)) r
  have e : progX p = p.classes.flatMap classX ++ ([109, 97, 105, 110] ++ 32 :: (brcX 0 (stmtsX p.main 1) ++ [10])) := by simp [progX, List.append_assoc]
  rw [e, hC, tk_word _ _ (by decide) (by decide) (by rfl), tk_blank _ (by decide) (by decide), tk_brc (fun r => tk_stmtsX p.main 1 (by rw [stmtsB_all, List.all_eq_true]; exact h.1) r), tk_blank _ (by decide) (by decide)]
  simp [progT, tk]
end V
end Go.Proofs.YtbmbmcdaabhgnaaDoor
end
section
set_option linter.unusedVariables false
set_option linter.unusedSimpArgs false
namespace Go.Proofs.YtbmbmcdaabhgnaaDoor
namespace V
open Go.RowKit
inductive Ss : Stmt → Prop
  | decl (ty nm : ByteArray) (es : List Expr) (h1 : isTypeB ty = true) (h2 : isNameB nm = true) (hl : es.length ≤ 1) (he : ∀ x ∈ es, exprB x = true) : Ss ⟨1, 0, ty, nm, es, [], []⟩
  | asg (y z : Expr) (hy : exprB y = true) (hz : exprB z = true) : Ss ⟨2, 0, e0, e0, [y, z], [], []⟩
  | iff (y : Expr) (th el : List Stmt) (hy : exprB y = true) (ht : ∀ x ∈ th, stmtB x = true) (hl : ∀ x ∈ el, stmtB x = true) : Ss ⟨3, 0, e0, e0, [y], th, el⟩
  | whl (y : Expr) (th : List Stmt) (hy : exprB y = true) (ht : ∀ x ∈ th, stmtB x = true) : Ss ⟨4, 0, e0, e0, [y], th, []⟩
  | prt (n : Int) (y : Expr) (hn : 0 ≤ n) (hy : exprB y = true) : Ss ⟨5, n, e0, e0, [y], [], []⟩
  | ret (y : Expr) (hy : exprB y = true) : Ss ⟨6, 0, e0, e0, [y], [], []⟩
  | doo (y : Expr) (hy : exprB y = true) : Ss ⟨7, 0, e0, e0, [y], [], []⟩
theorem ss_of {s : Stmt} (h : stmtB s = true) : Ss s := by
  obtain ⟨k, n, ty, nm, es, th, el⟩ := s
  obtain ⟨hk17, fe, f1, f2, f3, f4, fx, ft, fl⟩ := stmt_facts h
  rw [stmtB_eq] at h
  unfold stmtTop at h
  simp only [Bool.and_eq_true, decide_eq_true_eq] at h
  obtain ⟨⟨⟨⟨⟨⟨⟨⟨⟨⟨-, -⟩, -⟩, h4⟩, h5⟩, -⟩, -⟩, -⟩, -⟩, -⟩, -⟩ := h
  have hn : k ≠ 5 → n = 0 := fun e => by rw [if_neg e] at h5; simpa using h5
  have hty : k ≠ 1 → ty = e0 ∧ nm = e0 := fun e => by
    rw [if_neg e] at h4
    simp only [Bool.and_eq_true, toListX] at h4
    exact ⟨empty_of h4.1, empty_of h4.2⟩
  have hcase : k = 1 ∨ k = 2 ∨ k = 3 ∨ k = 4 ∨ k = 5 ∨ k = 6 ∨ k = 7 := by omega
  rcases hcase with rfl | rfl | rfl | rfl | rfl | rfl | rfl
  · obtain rfl := hn (by decide)
    obtain rfl := f3 (by decide) (by decide)
    obtain rfl := f4 (by decide)
    exact .decl ty nm es (f1 rfl).1 (f1 rfl).2 (by rw [if_pos rfl] at fe; omega) fx
  · obtain rfl := hn (by decide)
    obtain rfl := f3 (by decide) (by decide)
    obtain rfl := f4 (by decide)
    obtain ⟨rfl, rfl⟩ := hty (by decide)
    obtain ⟨y, z, rfl⟩ : ∃ y z, es = [y, z] := twoK (by rw [fe]; rfl)
    exact .asg y z (fx y (by simp)) (fx z (by simp))
  · obtain rfl := hn (by decide)
    obtain ⟨rfl, rfl⟩ := hty (by decide)
    obtain ⟨y, rfl⟩ : ∃ y, es = [y] := List.length_eq_one_iff.1 (by rw [fe]; rfl)
    exact .iff y th el (fx y (by simp)) ft fl
  · obtain rfl := hn (by decide)
    obtain rfl := f4 (by decide)
    obtain ⟨rfl, rfl⟩ := hty (by decide)
    obtain ⟨y, rfl⟩ : ∃ y, es = [y] := List.length_eq_one_iff.1 (by rw [fe]; rfl)
    exact .whl y th (fx y (by simp)) ft
  · obtain rfl := f3 (by decide) (by decide)
    obtain rfl := f4 (by decide)
    obtain ⟨rfl, rfl⟩ := hty (by decide)
    obtain ⟨y, rfl⟩ : ∃ y, es = [y] := List.length_eq_one_iff.1 (by rw [fe]; rfl)
    exact .prt n y f2.1 (fx y (by simp))
  · obtain rfl := hn (by decide)
    obtain rfl := f3 (by decide) (by decide)
    obtain rfl := f4 (by decide)
    obtain ⟨rfl, rfl⟩ := hty (by decide)
    obtain ⟨y, rfl⟩ : ∃ y, es = [y] := List.length_eq_one_iff.1 (by rw [fe]; rfl)
    exact .ret y (fx y (by simp))
  · obtain rfl := hn (by decide)
    obtain rfl := f3 (by decide) (by decide)
    obtain rfl := f4 (by decide)
    obtain ⟨rfl, rfl⟩ := hty (by decide)
    obtain ⟨y, rfl⟩ : ∃ y, es = [y] := List.length_eq_one_iff.1 (by rw [fe]; rfl)
    exact .doo y (fx y (by simp))
def Sec (l : List (List UInt8)) : Prop := ∀ t l0, l = t :: l0 → hk t = 4 → l0 = [] ∨ ∃ u l1, l0 = u :: l1 ∧ u.all withinB = false
theorem Sec.app {a b : List (List UInt8)} (ha : Sec a) (hne : a ≠ []) (hb : b = [] ∨ ∃ u l1, b = u :: l1 ∧ u.all withinB = false) : Sec (a ++ b) := by
  intro t l0 e ht
  cases a with
  | nil => exact absurd rfl hne
  | cons x a =>
    simp only [List.cons_append, List.cons.injEq] at e
    obtain ⟨rfl, rfl⟩ := e
    rcases ha x a rfl ht with rfl | ⟨u, l1, rfl, hu⟩
    · exact hb
    · exact .inr ⟨u, l1 ++ b, rfl, hu⟩
theorem sec_prim {p : Expr} (hp : exprB p = true) (hq : prim p) : Sec (tokE p 4) := by
  intro t l0 e ht
  obtain ⟨t', l', e', h'⟩ := prim_head hp hq
  rw [e'] at e
  simp only [List.cons.injEq] at e
  obtain ⟨rfl, rfl⟩ := e
  rw [ht] at h'
  cases sh_of hp with
  | var nm h =>
    have e' : [nm.data.toList] = t' :: l' := e'
    simp only [List.cons.injEq] at e'
    exact .inl e'.2.symm
  | bin k y z hk hy hz => simp [codeX, hk.1] at h'
  | fld => exact absurd (by simp) hq
  | elem => exact absurd (by simp) hq
  | len => exact absurd (by simp) hq
  | call => exact absurd (by simp) hq
  | _ => simp [codeX] at h'
theorem post_sign (p : Post) : ∃ u l1, p.tok = u :: l1 ∧ u.all withinB = false := by
  cases p <;> exact ⟨_, _, rfl, by decide⟩
theorem sec_four {x : Expr} (hx : exprB x = true) : Sec (tokE x 4) := by
  obtain ⟨p, ps, q1, q2, -, q4, -, -⟩ := spine_of _ x (Nat.le_refl _) hx
  obtain ⟨t, l, e, -⟩ := prim_fst q1 q2
  rw [q4]
  refine (sec_prim q1 q2).app (by rw [e]; simp) ?_
  cases ps with
  | nil => exact .inl rfl
  | cons p ps =>
    obtain ⟨u, l1, e, h⟩ := post_sign p
    exact .inr ⟨u, l1 ++ ps.flatMap Post.tok, by rw [List.flatMap_cons, e]; rfl, h⟩
theorem sign_sign {o : Int} : ∃ u l1, signT o = u :: l1 ∧ u.all withinB = false := by
  unfold signT
  split
  · exact ⟨_, _, rfl, by decide⟩
  split
  · exact ⟨_, _, rfl, by decide⟩
  split
  · exact ⟨_, _, rfl, by decide⟩
  split
  · exact ⟨_, _, rfl, by decide⟩
  split
  · exact ⟨_, _, rfl, by decide⟩
  · exact ⟨_, _, rfl, by decide⟩
theorem sec_down {L : Nat} (h1 : 1 ≤ L) (h3 : L ≤ 3) (h : ∀ x, exprB x = true → Sec (tokE x ((L : Int) + 1)) ∧ tokE x ((L : Int) + 1) ≠ []) : ∀ x, exprB x = true → Sec (tokE x L) ∧ tokE x L ≠ [] := by
  intro x hx
  obtain ⟨y, l, q1, -, q3, -, -⟩ := chain_of h1 h3 _ x (Nat.le_refl _) hx
  obtain ⟨a, b⟩ := h y q1
  rw [q3]
  refine ⟨a.app b ?_, by simp [b]⟩
  cases l with
  | nil => exact .inl rfl
  | cons p l =>
    obtain ⟨u, l1, e, h⟩ := sign_sign (o := p.1)
    exact .inr ⟨u, l1 ++ tokE p.2 ((L : Int) + 1) ++ flatO L l, by simp [flatO, e], h⟩
theorem sec_one {x : Expr} (hx : exprB x = true) : Sec (tokE x 1) ∧ tokE x 1 ≠ [] :=
  sec_down (L := 1) (by decide) (by decide) (sec_down (L := 2) (by decide) (by decide) (sec_down (L := 3) (by decide) (by decide) (fun x hx => ⟨sec_four hx, by obtain ⟨t, l, e, -⟩ := fst_four hx; show tokE x 4 ≠ []; rw [e]; simp⟩))) x hx
theorem decl_expr {ty nm : ByteArray} (h1 : isTypeB ty = true) (h2 : isNameB nm = true) {y : Expr} (hy : exprB y = true) {u : List UInt8} (hu : u.all withinB = false) {r s : List (List UInt8)} (e : typT ty.data.toList ++ nm.data.toList :: r = tokE y 1 ++ u :: s) : False := by
  obtain ⟨t, l, e1, hf⟩ := fst_one hy
  have hnot : ∀ w, isWordB w = true → w ∉ ([[110, 117, 108, 108], [116, 104, 105, 115], [110, 101, 119], [114, 101, 97, 100], [100, 101, 99, 108, 97, 115, 115, 105, 102, 121]] : List (List UInt8)) → w ≠ [40] → w.all digitB = false → t ≠ w := fun w h1 h2 h3 h4 => hf.ne h3 h2 h4 (.inl h1)
  have hint : t ≠ [105, 110, 116] := hnot _ (by decide) (by decide) (by decide) (by decide)
  unfold isTypeB at h1
  simp only [Bool.or_eq_true, beq_iff_eq] at h1
  rw [e1] at e
  rcases h1 with (h1 | h1) | h1
  · rw [h1] at e
    have e : [105, 110, 116] :: nm.data.toList :: r = t :: (l ++ u :: s) := e
    simp only [List.cons.injEq] at e
    exact hint e.1.symm
  · rw [h1] at e
    have e : [105, 110, 116] :: [91] :: [93] :: nm.data.toList :: r = t :: (l ++ u :: s) := e
    simp only [List.cons.injEq] at e
    exact hint e.1.symm
  · have hne : ty.data.toList ≠ [105, 110, 116, 91, 93] := by
      intro e; have q2 := (name_tk h1).2.1; rw [e] at q2; exact absurd q2 (by decide)
    unfold typT at e
    rw [if_neg hne] at e
    simp only [List.cons_append, List.nil_append, List.cons.injEq] at e
    obtain ⟨rfl, e⟩ := e
    have hw := (name_tk h2).2.1
    rcases (sec_one hy).1 _ _ e1 (hk_name h1) with rfl | ⟨v, l1, rfl, hv⟩
    · simp only [List.nil_append, List.cons.injEq] at e
      rw [← e.1, hw] at hu; cases hu
    · simp only [List.cons_append, List.cons.injEq] at e
      rw [← e.1, hw] at hv; cases hv
theorem type_cases {ty : ByteArray} (h : isTypeB ty = true) : typT ty.data.toList = [[105, 110, 116], [91], [93]] ∧ ty.data.toList = [105, 110, 116, 91, 93] ∨ typT ty.data.toList = [ty.data.toList] ∧ ty.data.toList.all withinB = true := by
  unfold isTypeB at h
  simp only [Bool.or_eq_true, beq_iff_eq] at h
  rcases h with (h | h) | h
  · right; rw [h]; exact ⟨rfl, by decide⟩
  · left; rw [h]; exact ⟨rfl, rfl⟩
  · right
    have q2 := (name_tk h).2.1
    refine ⟨?_, q2⟩
    unfold typT
    rw [if_neg]
    intro e; rw [e] at q2; exact absurd q2 (by decide)
theorem slot_inj {a b : Slot} (ha : slotB a = true) (hb : slotB b = true) {r s : List (List UInt8)} (e : slotT a ++ r = slotT b ++ s) : a = b ∧ r = s := by
  obtain ⟨ty, nm⟩ := a
  obtain ⟨ty', nm'⟩ := b
  unfold slotB at ha hb
  simp only [Bool.and_eq_true] at ha hb
  have n1 := (name_tk ha.2).2.1
  have n2 := (name_tk hb.2).2.1
  unfold slotT at e
  simp only [List.append_assoc, List.cons_append, List.nil_append] at e
  rcases type_cases ha.1 with ⟨t1, t2⟩ | ⟨t1, t2⟩ <;> rcases type_cases hb.1 with ⟨u1, u2⟩ | ⟨u1, u2⟩
  · rw [t1, u1] at e
    simp only [List.cons_append, List.nil_append, List.cons.injEq, true_and] at e
    obtain rfl := nameX (t2.trans u2.symm)
    obtain rfl := nameX e.1
    exact ⟨rfl, e.2⟩
  · rw [t1, u1] at e
    simp only [List.cons_append, List.nil_append, List.cons.injEq, true_and] at e
    rw [← e.2.1] at n2
    exact absurd n2 (by decide)
  · rw [t1, u1] at e
    simp only [List.cons_append, List.nil_append, List.cons.injEq, true_and] at e
    rw [e.2.1] at n1
    exact absurd n1 (by decide)
  · rw [t1, u1] at e
    simp only [List.cons_append, List.nil_append, List.cons.injEq, true_and] at e
    obtain rfl := nameX e.1
    obtain rfl := nameX e.2.1
    exact ⟨rfl, e.2.2⟩
theorem fol_eq {z : Expr} (hz : exprB z = true) (r : List (List UInt8)) : fol 1 ([61] :: (tokE z 1 ++ r)) = true := by
  obtain ⟨t, l, e, hf⟩ := fst_one hz
  have := hf.ne (u := [61]) (by decide) (by decide) (by decide) (.inr (by decide))
  rw [e]
  simp [fol, this]
theorem stmt_first {s : Stmt} (h : stmtB s = true) : ∃ t l, stmtT s = t :: l ∧ t ≠ [101, 108, 115, 101] ∧ t ≠ [125] := by
  cases ss_of h with
  | decl ty nm es h1 h2 hl he =>
    rcases type_cases h1 with ⟨t1, t2⟩ | ⟨t1, t2⟩
    · exact ⟨[105, 110, 116], _, by simp only [stmtT]; show typT ty.data.toList ++ _ = _; rw [t1]; rfl, by decide, by decide⟩
    · refine ⟨ty.data.toList, _, by simp only [stmtT]; show typT ty.data.toList ++ _ = _; rw [t1]; rfl, ?_, ?_⟩
      · intro e
        unfold isTypeB at h1
        simp only [Bool.or_eq_true, beq_iff_eq] at h1
        rcases h1 with (h1 | h1) | h1
        · rw [h1] at e; cases e
        · rw [h1] at e; cases e
        · exact name_not h1 (by decide) e
      · intro e; rw [e] at t2; exact absurd t2 (by decide)
  | asg y z hy hz =>
    obtain ⟨t, l, e, hf⟩ := fst_one hy
    refine ⟨t, _, by simp only [stmtT]; show tokE y 1 ++ _ = _; rw [e]; rfl, hf.ne (by decide) (by decide) (by decide) (.inl (by decide)), hf.ne (by decide) (by decide) (by decide) (.inr (by decide))⟩
  | iff y th el => exact ⟨_, _, by simp only [stmtT]; rfl, by decide, by decide⟩
  | whl y th => exact ⟨_, _, by simp only [stmtT]; rfl, by decide, by decide⟩
  | prt n y => exact ⟨_, _, by simp only [stmtT]; rfl, by decide, by decide⟩
  | ret y => exact ⟨_, _, by simp only [stmtT]; rfl, by decide, by decide⟩
  | doo y hy =>
    obtain ⟨t, l, e, hf⟩ := fst_one hy
    refine ⟨t, _, by simp only [stmtT]; show tokE y 1 ++ _ = _; rw [e]; rfl, hf.ne (by decide) (by decide) (by decide) (.inl (by decide)), hf.ne (by decide) (by decide) (by decide) (.inr (by decide))⟩
def sc (t : List UInt8) : Nat := if t = [105, 102] then 3 else if t = [119, 104, 105, 108, 101] then 4 else if t = [112, 114, 105, 110, 116] then 5 else if t = [114, 101, 116, 117, 114, 110] then 6 else 0
def codeS (s : Stmt) : Nat := if s.kind = 3 then 3 else if s.kind = 4 then 4 else if s.kind = 5 then 5 else if s.kind = 6 then 6 else 0
theorem sc_zero {t : List UInt8} (h1 : t ≠ [105, 102]) (h2 : t ≠ [119, 104, 105, 108, 101]) (h3 : t ≠ [112, 114, 105, 110, 116]) (h4 : t ≠ [114, 101, 116, 117, 114, 110]) : sc t = 0 := by
  unfold sc; rw [if_neg h1, if_neg h2, if_neg h3, if_neg h4]
theorem sc_fst {t : List UInt8} (hf : Fst t) : sc t = 0 :=
  sc_zero (hf.ne (by decide) (by decide) (by decide) (.inl (by decide))) (hf.ne (by decide) (by decide) (by decide) (.inl (by decide))) (hf.ne (by decide) (by decide) (by decide) (.inl (by decide))) (hf.ne (by decide) (by decide) (by decide) (.inl (by decide)))
theorem stmt_code {s : Stmt} (h : stmtB s = true) : ∃ t l, stmtT s = t :: l ∧ sc t = codeS s := by
  cases ss_of h with
  | decl ty nm es h1 h2 hl he =>
    rcases type_cases h1 with ⟨t1, t2⟩ | ⟨t1, t2⟩
    · exact ⟨[105, 110, 116], _, by simp only [stmtT]; show typT ty.data.toList ++ _ = _; rw [t1]; rfl, rfl⟩
    · refine ⟨ty.data.toList, _, by simp only [stmtT]; show typT ty.data.toList ++ _ = _; rw [t1]; rfl, ?_⟩
      unfold isTypeB at h1
      simp only [Bool.or_eq_true, beq_iff_eq] at h1
      rcases h1 with (h1 | h1) | h1
      · rw [h1]; rfl
      · rw [h1]; rfl
      · exact sc_zero (name_not h1 (by decide)) (name_not h1 (by decide)) (name_not h1 (by decide)) (name_not h1 (by decide))
  | asg y z hy hz =>
    obtain ⟨t, l, e, hf⟩ := fst_one hy
    exact ⟨t, _, by simp only [stmtT]; show tokE y 1 ++ _ = _; rw [e]; rfl, sc_fst hf⟩
  | iff y th el => exact ⟨_, _, by simp only [stmtT]; rfl, rfl⟩
  | whl y th => exact ⟨_, _, by simp only [stmtT]; rfl, rfl⟩
  | prt n y => exact ⟨_, _, by simp only [stmtT]; rfl, rfl⟩
  | ret y => exact ⟨_, _, by simp only [stmtT]; rfl, rfl⟩
  | doo y hy =>
    obtain ⟨t, l, e, hf⟩ := fst_one hy
    exact ⟨t, _, by simp only [stmtT]; show tokE y 1 ++ _ = _; rw [e]; rfl, sc_fst hf⟩
def noElse (r : List (List UInt8)) : Prop := r.head? ≠ some [101, 108, 115, 101]
def Sn (s s' : Stmt) : Prop := ∀ r r', noElse r → noElse r' → stmtT s ++ r = stmtT s' ++ r' → s = s' ∧ r = r'
theorem noElse_stmts {l : List Stmt} (hl : ∀ x ∈ l, stmtB x = true) (r : List (List UInt8)) : noElse (stmtsT l ++ [125] :: r) := by
  cases l with
  | nil => simp [stmtsT, noElse]
  | cons s l =>
    obtain ⟨t, l2, e, h1, -⟩ := stmt_first (hl s (by simp))
    simp [stmtsT, noElse, e, h1]
theorem stmts_inj {c : Nat} (H : ∀ s s', stmtB s = true → stmtB s' = true → cntS s + cntS s' < c → Sn s s') : ∀ {l l' : List Stmt}, (∀ x ∈ l, stmtB x = true) → (∀ x ∈ l', stmtB x = true) → cntSs l + cntSs l' < c → ∀ {r r' : List (List UInt8)}, stmtsT l ++ [125] :: r = stmtsT l' ++ [125] :: r' → l = l' ∧ r = r'
  | [], [], _, _, _, r, r', e => by simpa [stmtsT] using e
  | [], s :: l', _, h', _, r, r', e => by
    obtain ⟨t, l2, e1, -, h2⟩ := stmt_first (h' s (by simp))
    simp only [stmtsT, List.nil_append, e1, List.cons_append, List.cons.injEq] at e
    exact absurd e.1.symm h2
  | s :: l, [], h, _, _, r, r', e => by
    obtain ⟨t, l2, e1, -, h2⟩ := stmt_first (h s (by simp))
    simp only [stmtsT, List.nil_append, e1, List.cons_append, List.cons.injEq] at e
    exact absurd e.1 h2
  | s :: l, s' :: l', h, h', hc, r, r', e => by
    simp only [cntSs] at hc
    simp only [stmtsT, List.append_assoc] at e
    have hl : ∀ x ∈ l, stmtB x = true := fun x hx => h x (List.mem_cons_of_mem _ hx)
    have hl' : ∀ x ∈ l', stmtB x = true := fun x hx => h' x (List.mem_cons_of_mem _ hx)
    obtain ⟨rfl, e2⟩ := H s s' (h s (by simp)) (h' s' (by simp)) (by omega) _ _ (noElse_stmts hl r) (noElse_stmts hl' r') e
    obtain ⟨rfl, e3⟩ := stmts_inj H hl hl' (by omega) e2
    exact ⟨rfl, e3⟩
theorem brc_app (a r : List (List UInt8)) : brcT a ++ r = [123] :: (a ++ [125] :: r) := by simp [brcT]
theorem Sn_all : ∀ (n : Nat) (s s' : Stmt), stmtB s = true → stmtB s' = true → cntS s + cntS s' ≤ n → Sn s s' := by
  intro n
  induction n using Nat.strongRecOn with
  | ind n ih =>
  intro s s' hs hs' hn r r' hr hr' e
  have H : ∀ s s', stmtB s = true → stmtB s' = true → cntS s + cntS s' < n → Sn s s' := fun s s' h h' hc => ih _ hc s s' h h' (Nat.le_refl _)
  have hc : codeS s = codeS s' := by
    obtain ⟨t, l, e1, c1⟩ := stmt_code hs
    obtain ⟨t', l', e2, c2⟩ := stmt_code hs'
    rw [e1, e2] at e
    simp only [List.cons_append, List.cons.injEq] at e
    rw [← c1, ← c2, e.1]
  cases ss_of hs with
  | decl ty nm es h1 h2 hl he =>
    cases ss_of hs' with
    | decl ty' nm' es' h1' h2' hl' he' =>
      simp only [stmtT] at e
      have e : slotT ⟨ty, nm⟩ ++ (((if es.isEmpty then [] else [61] :: tokL es) ++ [[59]]) ++ r) = slotT ⟨ty', nm'⟩ ++ (((if es'.isEmpty then [] else [61] :: tokL es') ++ [[59]]) ++ r') := by
        have e : (typT ty.data.toList ++ nm.data.toList :: ((if es.isEmpty then [] else [61] :: tokL es) ++ [[59]])) ++ r = (typT ty'.data.toList ++ nm'.data.toList :: ((if es'.isEmpty then [] else [61] :: tokL es') ++ [[59]])) ++ r' := e
        simpa [slotT, List.append_assoc] using e
      obtain ⟨e1, e2⟩ := slot_inj (by unfold slotB; rw [h1, h2]; rfl) (by unfold slotB; rw [h1', h2']; rfl) e
      simp only [Slot.mk.injEq] at e1
      obtain ⟨rfl, rfl⟩ := e1
      match es, es', hl, hl', he, he', e2 with
      | [], [], _, _, _, _, e2 => exact ⟨rfl, by simpa using e2⟩
      | [], [y], _, _, _, _, e2 => simp at e2
      | [y], [], _, _, _, _, e2 => simp at e2
      | [y], [z], _, _, he, he', e2 =>
        have e2 : [61] :: (tokE y 1 ++ [[59]]) ++ r = [61] :: (tokE z 1 ++ [[59]]) ++ r' := e2
        simp only [List.cons_append, List.append_assoc, List.nil_append, List.cons.injEq, true_and] at e2
        obtain ⟨rfl, e3⟩ := tokE_inj (he y (by simp)) (he' z (by simp)) rfl rfl e2
        exact ⟨rfl, by simpa using e3⟩
    | asg y z hy hz =>
      simp only [stmtT] at e
      have e : typT ty.data.toList ++ nm.data.toList :: (((if es.isEmpty then [] else [61] :: tokL es) ++ [[59]]) ++ r) = tokE y 1 ++ [61] :: (tokE z 1 ++ [59] :: r') := by
        have e : (typT ty.data.toList ++ nm.data.toList :: ((if es.isEmpty then [] else [61] :: tokL es) ++ [[59]])) ++ r = (tokE y 1 ++ [61] :: (tokE z 1 ++ [[59]])) ++ r' := e
        simpa [List.append_assoc] using e
      exact (decl_expr h1 h2 hy (by decide) e).elim
    | doo y hy =>
      simp only [stmtT] at e
      have e : typT ty.data.toList ++ nm.data.toList :: (((if es.isEmpty then [] else [61] :: tokL es) ++ [[59]]) ++ r) = tokE y 1 ++ [59] :: r' := by
        have e : (typT ty.data.toList ++ nm.data.toList :: ((if es.isEmpty then [] else [61] :: tokL es) ++ [[59]])) ++ r = (tokE y 1 ++ [[59]]) ++ r' := e
        simpa [List.append_assoc] using e
      exact (decl_expr h1 h2 hy (by decide) e).elim
    | _ => simp [codeS] at hc
  | asg y z hy hz =>
    cases ss_of hs' with
    | decl ty nm es h1 h2 hl he =>
      simp only [stmtT] at e
      have e : typT ty.data.toList ++ nm.data.toList :: (((if es.isEmpty then [] else [61] :: tokL es) ++ [[59]]) ++ r') = tokE y 1 ++ [61] :: (tokE z 1 ++ [59] :: r) := by
        have e : (tokE y 1 ++ [61] :: (tokE z 1 ++ [[59]])) ++ r = (typT ty.data.toList ++ nm.data.toList :: ((if es.isEmpty then [] else [61] :: tokL es) ++ [[59]])) ++ r' := e
        simpa [List.append_assoc] using e.symm
      exact (decl_expr h1 h2 hy (by decide) e).elim
    | asg y' z' hy' hz' =>
      simp only [stmtT] at e
      have e : tokE y 1 ++ [61] :: (tokE z 1 ++ [59] :: r) = tokE y' 1 ++ [61] :: (tokE z' 1 ++ [59] :: r') := by
        have e : (tokE y 1 ++ [61] :: (tokE z 1 ++ [[59]])) ++ r = (tokE y' 1 ++ [61] :: (tokE z' 1 ++ [[59]])) ++ r' := e
        simpa [List.append_assoc] using e
      obtain ⟨rfl, e2⟩ := tokE_inj hy hy' (fol_eq hz _) (fol_eq hz' _) e
      simp only [List.cons.injEq, true_and] at e2
      obtain ⟨rfl, e3⟩ := tokE_inj hz hz' rfl rfl e2
      exact ⟨rfl, by simpa using e3⟩
    | doo y' hy' =>
      simp only [stmtT] at e
      have e : tokE y 1 ++ [61] :: (tokE z 1 ++ [59] :: r) = tokE y' 1 ++ [59] :: r' := by
        have e : (tokE y 1 ++ [61] :: (tokE z 1 ++ [[59]])) ++ r = (tokE y' 1 ++ [[59]]) ++ r' := e
        simpa [List.append_assoc] using e
      have := (tokE_inj hy hy' (fol_eq hz _) rfl e).2
      simp at this
    | _ => simp [codeS] at hc
  | iff y th el hy ht hl =>
    cases ss_of hs' with
    | iff y' th' el' hy' ht' hl' =>
      simp only [stmtT] at e
      have e : tokE y 1 ++ [41] :: (brcT (stmtsT th) ++ ((if el.isEmpty then [] else [101, 108, 115, 101] :: brcT (stmtsT el)) ++ r)) = tokE y' 1 ++ [41] :: (brcT (stmtsT th') ++ ((if el'.isEmpty then [] else [101, 108, 115, 101] :: brcT (stmtsT el')) ++ r')) := by
        have e : ([105, 102] :: [40] :: (tokE y 1 ++ [41] :: (brcT (stmtsT th) ++ (if el.isEmpty then [] else [101, 108, 115, 101] :: brcT (stmtsT el))))) ++ r = ([105, 102] :: [40] :: (tokE y' 1 ++ [41] :: (brcT (stmtsT th') ++ (if el'.isEmpty then [] else [101, 108, 115, 101] :: brcT (stmtsT el'))))) ++ r' := e
        simpa [List.append_assoc] using e
      obtain ⟨rfl, e2⟩ := tokE_inj hy hy' rfl rfl e
      simp only [List.cons.injEq, true_and, brc_app] at e2
      simp only [cntS] at hn
      obtain ⟨rfl, e3⟩ := stmts_inj H ht ht' (by omega) e2
      cases he : el.isEmpty with
      | true =>
        obtain rfl : el = [] := List.isEmpty_iff.1 he
        cases he' : el'.isEmpty with
        | true =>
          obtain rfl : el' = [] := List.isEmpty_iff.1 he'
          exact ⟨rfl, by simpa using e3⟩
        | false =>
          rw [he'] at e3
          have e3 : r = ([101, 108, 115, 101] :: brcT (stmtsT el')) ++ r' := e3
          rw [e3] at hr
          exact absurd rfl hr
      | false =>
        cases he' : el'.isEmpty with
        | true =>
          obtain rfl : el' = [] := List.isEmpty_iff.1 he'
          rw [he] at e3
          have e3 : ([101, 108, 115, 101] :: brcT (stmtsT el)) ++ r = r' := e3
          rw [← e3] at hr'
          exact absurd rfl hr'
        | false =>
          rw [he, he'] at e3
          have e3 : [101, 108, 115, 101] :: (brcT (stmtsT el) ++ r) = [101, 108, 115, 101] :: (brcT (stmtsT el') ++ r') := e3
          simp only [List.cons.injEq, true_and, brc_app] at e3
          obtain ⟨rfl, e4⟩ := stmts_inj H hl hl' (by omega) e3
          exact ⟨rfl, e4⟩
    | _ => simp [codeS] at hc
  | whl y th hy ht =>
    cases ss_of hs' with
    | whl y' th' hy' ht' =>
      simp only [stmtT] at e
      have e : tokE y 1 ++ [41] :: (brcT (stmtsT th) ++ r) = tokE y' 1 ++ [41] :: (brcT (stmtsT th') ++ r') := by
        have e : ([119, 104, 105, 108, 101] :: [40] :: (tokE y 1 ++ [41] :: (brcT (stmtsT th) ++ []))) ++ r = ([119, 104, 105, 108, 101] :: [40] :: (tokE y' 1 ++ [41] :: (brcT (stmtsT th') ++ []))) ++ r' := e
        simpa [List.append_assoc] using e
      obtain ⟨rfl, e2⟩ := tokE_inj hy hy' rfl rfl e
      simp only [List.cons.injEq, true_and, brc_app] at e2
      simp only [cntS] at hn
      obtain ⟨rfl, e3⟩ := stmts_inj H ht ht' (by omega) e2
      exact ⟨rfl, e3⟩
    | _ => simp [codeS] at hc
  | prt a y ha hy =>
    cases ss_of hs' with
    | prt b y' hb hy' =>
      simp only [stmtT] at e
      have e : [112, 114, 105, 110, 116] :: [40] :: Lib.itoa a :: [44] :: (tokE y 1 ++ [41] :: [59] :: r) = [112, 114, 105, 110, 116] :: [40] :: Lib.itoa b :: [44] :: (tokE y' 1 ++ [41] :: [59] :: r') := by
        have e : ([112, 114, 105, 110, 116] :: [40] :: Lib.itoa a :: [44] :: (tokE y 1 ++ [[41], [59]])) ++ r = ([112, 114, 105, 110, 116] :: [40] :: Lib.itoa b :: [44] :: (tokE y' 1 ++ [[41], [59]])) ++ r' := e
        simpa [List.append_assoc] using e
      simp only [List.cons.injEq, true_and] at e
      obtain ⟨e1, e2⟩ := e
      obtain rfl := itoa_inj ha hb e1
      obtain ⟨rfl, e3⟩ := tokE_inj hy hy' rfl rfl e2
      exact ⟨rfl, by simpa using e3⟩
    | _ => simp [codeS] at hc
  | ret y hy =>
    cases ss_of hs' with
    | ret y' hy' =>
      simp only [stmtT] at e
      have e : tokE y 1 ++ [59] :: r = tokE y' 1 ++ [59] :: r' := by
        have e : ([114, 101, 116, 117, 114, 110] :: (tokE y 1 ++ [[59]])) ++ r = ([114, 101, 116, 117, 114, 110] :: (tokE y' 1 ++ [[59]])) ++ r' := e
        simpa [List.append_assoc] using e
      obtain ⟨rfl, e3⟩ := tokE_inj hy hy' rfl rfl e
      exact ⟨rfl, by simpa using e3⟩
    | _ => simp [codeS] at hc
  | doo y hy =>
    cases ss_of hs' with
    | decl ty nm es h1 h2 hl he =>
      simp only [stmtT] at e
      have e : typT ty.data.toList ++ nm.data.toList :: (((if es.isEmpty then [] else [61] :: tokL es) ++ [[59]]) ++ r') = tokE y 1 ++ [59] :: r := by
        have e : (tokE y 1 ++ [[59]]) ++ r = (typT ty.data.toList ++ nm.data.toList :: ((if es.isEmpty then [] else [61] :: tokL es) ++ [[59]])) ++ r' := e
        simpa [List.append_assoc] using e.symm
      exact (decl_expr h1 h2 hy (by decide) e).elim
    | asg y' z' hy' hz' =>
      simp only [stmtT] at e
      have e : tokE y 1 ++ [59] :: r = tokE y' 1 ++ [61] :: (tokE z' 1 ++ [59] :: r') := by
        have e : (tokE y 1 ++ [[59]]) ++ r = (tokE y' 1 ++ [61] :: (tokE z' 1 ++ [[59]])) ++ r' := e
        simpa [List.append_assoc] using e
      have := (tokE_inj hy hy' rfl (fol_eq hz' _) e).2
      simp at this
    | doo y' hy' =>
      simp only [stmtT] at e
      have e : tokE y 1 ++ [59] :: r = tokE y' 1 ++ [59] :: r' := by
        have e : (tokE y 1 ++ [[59]]) ++ r = (tokE y' 1 ++ [[59]]) ++ r' := e
        simpa [List.append_assoc] using e
      obtain ⟨rfl, e3⟩ := tokE_inj hy hy' rfl rfl e
      exact ⟨rfl, by simpa using e3⟩
    | _ => simp [codeS] at hc
theorem blockT_inj {l l' : List Stmt} (hl : ∀ x ∈ l, stmtB x = true) (hl' : ∀ x ∈ l', stmtB x = true) {r r' : List (List UInt8)} (e : brcT (stmtsT l) ++ r = brcT (stmtsT l') ++ r') : l = l' ∧ r = r' := by
  simp only [brc_app, List.cons.injEq, true_and] at e
  exact stmts_inj (c := cntSs l + cntSs l' + 1) (fun s s' h h' _ => Sn_all _ s s' h h' (Nat.le_refl _)) hl hl' (by omega) e
theorem slots_inj : ∀ {l l' : List Slot}, (∀ s ∈ l, slotB s = true) → (∀ s ∈ l', slotB s = true) → ∀ {r r' : List (List UInt8)}, commaT (l.map slotT) ++ [41] :: r = commaT (l'.map slotT) ++ [41] :: r' → l = l' ∧ r = r'
  | [], [], _, _, r, r', e => by simpa [commaT] using e
  | [], b :: l', _, h', r, r', e => by
    exfalso
    have hb := h' b (by simp)
    unfold slotB at hb
    simp only [Bool.and_eq_true] at hb
    cases l' with
    | nil =>
      have e : [41] :: r = (typT b.type.data.toList ++ [b.name.data.toList]) ++ [41] :: r' := e
      rcases type_cases hb.1 with ⟨t1, t2⟩ | ⟨t1, t2⟩
      · rw [t1] at e; simp at e
      · rw [t1] at e
        simp only [List.cons_append, List.cons.injEq] at e
        rw [← e.1] at t2; exact absurd t2 (by decide)
    | cons c l' =>
      have e : [41] :: r = ((typT b.type.data.toList ++ [b.name.data.toList]) ++ [44] :: commaT ((c :: l').map slotT)) ++ [41] :: r' := e
      rcases type_cases hb.1 with ⟨t1, t2⟩ | ⟨t1, t2⟩
      · rw [t1] at e; simp at e
      · rw [t1] at e
        simp only [List.cons_append, List.cons.injEq] at e
        rw [← e.1] at t2; exact absurd t2 (by decide)
  | a :: l, [], h, _, r, r', e => by
    exfalso
    have hb := h a (by simp)
    unfold slotB at hb
    simp only [Bool.and_eq_true] at hb
    cases l with
    | nil =>
      have e : (typT a.type.data.toList ++ [a.name.data.toList]) ++ [41] :: r = [41] :: r' := e
      rcases type_cases hb.1 with ⟨t1, t2⟩ | ⟨t1, t2⟩
      · rw [t1] at e; simp at e
      · rw [t1] at e
        simp only [List.cons_append, List.cons.injEq] at e
        rw [e.1] at t2; exact absurd t2 (by decide)
    | cons c l =>
      have e : ((typT a.type.data.toList ++ [a.name.data.toList]) ++ [44] :: commaT ((c :: l).map slotT)) ++ [41] :: r = [41] :: r' := e
      rcases type_cases hb.1 with ⟨t1, t2⟩ | ⟨t1, t2⟩
      · rw [t1] at e; simp at e
      · rw [t1] at e
        simp only [List.cons_append, List.cons.injEq] at e
        rw [e.1] at t2; exact absurd t2 (by decide)
  | a :: l, b :: l', h, h', r, r', e => by
    have ha := h a (by simp)
    have hb := h' b (by simp)
    cases l with
    | nil =>
      cases l' with
      | nil =>
        have e : slotT a ++ [41] :: r = slotT b ++ [41] :: r' := e
        obtain ⟨rfl, e2⟩ := slot_inj ha hb e
        exact ⟨rfl, by simpa using e2⟩
      | cons c l' =>
        have e : slotT a ++ [41] :: r = (slotT b ++ [44] :: commaT ((c :: l').map slotT)) ++ [41] :: r' := e
        rw [List.append_assoc, List.cons_append] at e
        have := (slot_inj ha hb e).2
        simp at this
    | cons c l =>
      cases l' with
      | nil =>
        have e : (slotT a ++ [44] :: commaT ((c :: l).map slotT)) ++ [41] :: r = slotT b ++ [41] :: r' := e
        rw [List.append_assoc, List.cons_append] at e
        have := (slot_inj ha hb e).2
        simp at this
      | cons c' l' =>
        have e : (slotT a ++ [44] :: commaT ((c :: l).map slotT)) ++ [41] :: r = (slotT b ++ [44] :: commaT ((c' :: l').map slotT)) ++ [41] :: r' := e
        rw [List.append_assoc, List.cons_append, List.append_assoc, List.cons_append] at e
        obtain ⟨rfl, e2⟩ := slot_inj ha hb e
        simp only [List.cons.injEq, true_and] at e2
        obtain ⟨e3, e4⟩ := slots_inj (l := c :: l) (l' := c' :: l') (fun x hx => h x (List.mem_cons_of_mem _ hx)) (fun x hx => h' x (List.mem_cons_of_mem _ hx)) e2
        exact ⟨by rw [e3], e4⟩
theorem meth_inj {m m' : Method} (h : methodB m = true) (h' : methodB m' = true) {r r' : List (List UInt8)} (e : methT m ++ r = methT m' ++ r') : m = m' ∧ r = r' := by
  obtain ⟨ty, nm, ps, bd⟩ := m
  obtain ⟨ty', nm', ps', bd'⟩ := m'
  unfold methodB at h h'
  simp only [Bool.and_eq_true, decide_eq_true_eq, List.all_eq_true] at h h'
  obtain ⟨⟨⟨h1, h2⟩, h3⟩, h4⟩ := h
  obtain ⟨⟨⟨h1', h2'⟩, h3'⟩, h4'⟩ := h'
  have e : slotT ⟨ty, nm⟩ ++ [40] :: (commaT (ps.map slotT) ++ [41] :: (brcT (stmtsT bd) ++ r)) = slotT ⟨ty', nm'⟩ ++ [40] :: (commaT (ps'.map slotT) ++ [41] :: (brcT (stmtsT bd') ++ r')) := by simpa [methT, List.append_assoc] using e
  obtain ⟨e1, e2⟩ := slot_inj h1 h1' e
  simp only [Slot.mk.injEq] at e1
  obtain ⟨rfl, rfl⟩ := e1
  simp only [List.cons.injEq, true_and] at e2
  obtain ⟨rfl, e3⟩ := slots_inj h3 h3' e2
  obtain ⟨rfl, e4⟩ := blockT_inj h4 h4' e3
  exact ⟨rfl, e4⟩
theorem slot_first {s : Slot} (h : slotB s = true) : ∃ t l, slotT s = t :: l ∧ t ≠ [125] := by
  unfold slotB at h
  simp only [Bool.and_eq_true] at h
  unfold slotT
  rcases type_cases h.1 with ⟨t1, t2⟩ | ⟨t1, t2⟩
  · exact ⟨[105, 110, 116], _, by rw [t1]; rfl, by decide⟩
  · exact ⟨s.type.data.toList, _, by rw [t1]; rfl, fun e => by rw [e] at t2; exact absurd t2 (by decide)⟩
theorem meth_slot (m : Method) (r : List (List UInt8)) : methT m ++ r = slotT ⟨m.type, m.name⟩ ++ [40] :: (commaT (m.params.map slotT) ++ [41] :: (brcT (stmtsT m.body) ++ r)) := by simp [methT, List.append_assoc]
theorem meth_slotB {m : Method} (h : methodB m = true) : slotB ⟨m.type, m.name⟩ = true := by
  unfold methodB at h
  simp only [Bool.and_eq_true] at h
  exact h.1.1.1
theorem meths_inj : ∀ {l l' : List Method}, (∀ m ∈ l, methodB m = true) → (∀ m ∈ l', methodB m = true) → ∀ {r r' : List (List UInt8)}, l.flatMap methT ++ [125] :: r = l'.flatMap methT ++ [125] :: r' → l = l' ∧ r = r'
  | [], [], _, _, r, r', e => by simpa using e
  | [], b :: l', _, h', r, r', e => by
    obtain ⟨t, l2, e1, hne⟩ := slot_first (meth_slotB (h' b (by simp)))
    simp only [List.flatMap_cons, List.flatMap_nil, List.nil_append, List.append_assoc] at e
    rw [meth_slot, e1] at e
    simp only [List.cons_append, List.cons.injEq] at e
    exact absurd e.1.symm hne
  | a :: l, [], h, _, r, r', e => by
    obtain ⟨t, l2, e1, hne⟩ := slot_first (meth_slotB (h a (by simp)))
    simp only [List.flatMap_cons, List.flatMap_nil, List.nil_append, List.append_assoc] at e
    rw [meth_slot, e1] at e
    simp only [List.cons_append, List.cons.injEq] at e
    exact absurd e.1 hne
  | a :: l, b :: l', h, h', r, r', e => by
    simp only [List.flatMap_cons, List.append_assoc] at e
    obtain ⟨rfl, e2⟩ := meth_inj (h a (by simp)) (h' b (by simp)) e
    obtain ⟨rfl, e3⟩ := meths_inj (fun x hx => h x (List.mem_cons_of_mem _ hx)) (fun x hx => h' x (List.mem_cons_of_mem _ hx)) e2
    exact ⟨rfl, e3⟩
theorem fields_inj {ms ms' : List Method} (hm : ∀ m ∈ ms, methodB m = true) (hm' : ∀ m ∈ ms', methodB m = true) : ∀ {l l' : List Slot}, (∀ s ∈ l, slotB s = true) → (∀ s ∈ l', slotB s = true) → ∀ {r r' : List (List UInt8)}, l.flatMap fieldT ++ (ms.flatMap methT ++ [125] :: r) = l'.flatMap fieldT ++ (ms'.flatMap methT ++ [125] :: r') → l = l' ∧ ms = ms' ∧ r = r'
  | [], [], _, _, r, r', e => by
    obtain ⟨h1, h2⟩ := meths_inj hm hm' (by simpa using e)
    exact ⟨rfl, h1, h2⟩
  | [], b :: l', _, h', r, r', e => by
    exfalso
    simp only [List.flatMap_nil, List.nil_append, List.flatMap_cons, List.append_assoc, fieldT] at e
    cases ms with
    | nil =>
      obtain ⟨t, l2, e1, hne⟩ := slot_first (h' b (by simp))
      rw [e1] at e
      simp only [List.flatMap_nil, List.nil_append, List.cons_append, List.cons.injEq] at e
      exact hne e.1.symm
    | cons m ms =>
      simp only [List.flatMap_cons, List.append_assoc] at e
      rw [meth_slot] at e
      have := (slot_inj (meth_slotB (hm m (by simp))) (h' b (by simp)) e).2
      simp at this
  | a :: l, [], h, _, r, r', e => by
    exfalso
    simp only [List.flatMap_nil, List.nil_append, List.flatMap_cons, List.append_assoc, fieldT] at e
    cases ms' with
    | nil =>
      obtain ⟨t, l2, e1, hne⟩ := slot_first (h a (by simp))
      rw [e1] at e
      simp only [List.flatMap_nil, List.nil_append, List.cons_append, List.cons.injEq] at e
      exact hne e.1
    | cons m ms =>
      simp only [List.flatMap_cons, List.append_assoc] at e
      rw [meth_slot] at e
      have := (slot_inj (h a (by simp)) (meth_slotB (hm' m (by simp))) e).2
      simp at this
  | a :: l, b :: l', h, h', r, r', e => by
    simp only [List.flatMap_cons, List.append_assoc, fieldT, List.cons_append, List.nil_append] at e
    obtain ⟨rfl, e2⟩ := slot_inj (h a (by simp)) (h' b (by simp)) e
    simp only [List.cons.injEq, true_and] at e2
    obtain ⟨rfl, e3, e4⟩ := fields_inj hm hm' (l := l) (l' := l') (fun x hx => h x (List.mem_cons_of_mem _ hx)) (fun x hx => h' x (List.mem_cons_of_mem _ hx)) e2
    exact ⟨rfl, e3, e4⟩
theorem class_inj {c c' : Class} (h : classB c = true) (h' : classB c' = true) {r r' : List (List UInt8)} (e : classT c ++ r = classT c' ++ r') : c = c' ∧ r = r' := by
  obtain ⟨nm, su, fl, me⟩ := c
  obtain ⟨nm', su', fl', me'⟩ := c'
  unfold classB classTop at h h'
  simp only [Bool.and_eq_true, List.all_eq_true] at h h'
  obtain ⟨⟨⟨-, -⟩, h3⟩, h4⟩ := h
  obtain ⟨⟨⟨-, -⟩, h3'⟩, h4'⟩ := h'
  have bod : ∀ {a b : List (List UInt8)}, brcT (fl.flatMap fieldT ++ me.flatMap methT) ++ r = brcT (fl'.flatMap fieldT ++ me'.flatMap methT) ++ r' → fl = fl' ∧ me = me' ∧ r = r' := fun {a b} e => by
    simp only [brc_app, List.cons.injEq, true_and, List.append_assoc] at e
    exact fields_inj h4 h4' h3 h3' e
  simp only [classT, List.cons_append, List.cons.injEq, true_and, List.append_assoc] at e
  obtain ⟨e1, e2⟩ := e
  obtain rfl := nameX e1
  cases hs : su.data.toList.isEmpty with
  | true =>
    cases hs' : su'.data.toList.isEmpty with
    | true =>
      rw [hs, hs'] at e2
      obtain rfl := empty_of hs
      obtain rfl := empty_of hs'
      obtain ⟨rfl, rfl, rfl⟩ := bod (a := []) (b := []) e2
      exact ⟨rfl, rfl⟩
    | false =>
      rw [hs, hs'] at e2
      simp [brcT] at e2
  | false =>
    cases hs' : su'.data.toList.isEmpty with
    | true =>
      rw [hs, hs'] at e2
      simp [brcT] at e2
    | false =>
      rw [hs, hs'] at e2
      have e2 : [101, 120, 116, 101, 110, 100, 115] :: su.data.toList :: (brcT (fl.flatMap fieldT ++ me.flatMap methT) ++ r) = [101, 120, 116, 101, 110, 100, 115] :: su'.data.toList :: (brcT (fl'.flatMap fieldT ++ me'.flatMap methT) ++ r') := e2
      simp only [List.cons.injEq, true_and] at e2
      obtain rfl := nameX e2.1
      obtain ⟨rfl, rfl, rfl⟩ := bod (a := []) (b := []) e2.2
      exact ⟨rfl, rfl⟩
theorem classes_inj : ∀ {l l' : List Class}, (∀ c ∈ l, classB c = true) → (∀ c ∈ l', classB c = true) → ∀ {r r' : List (List UInt8)}, l.flatMap classT ++ [109, 97, 105, 110] :: r = l'.flatMap classT ++ [109, 97, 105, 110] :: r' → l = l' ∧ r = r'
  | [], [], _, _, r, r', e => by simpa using e
  | [], b :: l', _, _, r, r', e => by simp [classT] at e
  | a :: l, [], _, _, r, r', e => by simp [classT] at e
  | a :: l, b :: l', h, h', r, r', e => by
    simp only [List.flatMap_cons, List.append_assoc] at e
    obtain ⟨rfl, e2⟩ := class_inj (h a (by simp)) (h' b (by simp)) e
    obtain ⟨rfl, e3⟩ := classes_inj (fun x hx => h x (List.mem_cons_of_mem _ hx)) (fun x hx => h' x (List.mem_cons_of_mem _ hx)) e2
    exact ⟨rfl, e3⟩
theorem progX_inj {p q : Program} (hp : checkB p = true) (hq : checkB q = true) (e : progX p = progX q) : p = q := by
  have e := congrArg tk e
  rw [tk_prog hp, tk_prog hq] at e
  obtain ⟨cs, mn⟩ := p
  obtain ⟨cs', mn'⟩ := q
  unfold checkB at hp hq
  simp only [Bool.and_eq_true, List.all_eq_true] at hp hq
  unfold progT at e
  obtain ⟨rfl, e2⟩ := classes_inj hp.2 hq.2 e
  have e2 : brcT (stmtsT mn) ++ [] = brcT (stmtsT mn') ++ [] := by simpa using e2
  obtain ⟨rfl, -⟩ := blockT_inj hp.1 hq.1 e2
  rfl
end V
end Go.Proofs.YtbmbmcdaabhgnaaDoor
end
section
namespace Go.Proofs.YtbmbmcdaabhgnaaDoor
namespace V
open Go.RowKit
theorem treeErr_wf (b : Bool) : (Lit.int .i64 (treeErr b)).wf = true := by cases b <;> decide
theorem tree_ok (p : Program) (m : Mem) : COk Tryd.prog 14 [.agg (cProg p)] m (.c (.int .i64 (treeErr (checkB p)))) := by
  refine ⟨enters_of Tryd.func14 (by kernel_rfl) rfl, rfl, fun m' _ => ?_⟩
  intro w0 I0 B I w vals hm hv
  match vals, hv with
  | [v], ⟨h1, _⟩ =>
    obtain ⟨d, hp⟩ := rprog_of hm.there h1
    refine (check_any d w v p hm.globNow.max hp).mono ?_
    rintro e w' ⟨rfl, hb⟩
    exact ⟨_, I, rfl, hb, fun _ _ k => k, fun _ _ k => .inl k, .int (treeErr_wf _)⟩
end V
end Go.Proofs.YtbmbmcdaabhgnaaDoor
end
section
set_option linter.unusedVariables false
set_option linter.unusedSimpArgs false
namespace Go.Proofs.YtbmbmcdaabhgnaaDoor
namespace V
open Go.RowKit
theorem pgM_at {M : Mem} {j q i : Nat} {u : Bool} {t : Int} {bs : List UInt8} (hj : i ≠ j) (hq : i ≠ q) : pgM M j q u t bs i = M i := by
  unfold pgM; rw [upd_ne _ _ hq, upd_ne _ _ hj]
theorem line1 {M : Mem} {j q : Nat} {u : Bool} {bs : List UInt8} (h : PgAt M j q u 1 bs) (l : List ByteArray) (hl : l.length ≤ 1000000000) (hs : bs.length + 1 + (txtB l).length ≤ 140737488351232) :
    CallE Tryd.prog 24 [.ptr j 0, .c (.sl (l.map cStr))] M [q] (.tup []) (pgM M j q true 1 (bs ++ [9] ++ txtB l)) := line_ok (t := 1) h l hl hs
theorem block1 {M : Mem} {j q b : Nat} {u : Bool} {bs : List UInt8} (h : PgAt M j q u 1 bs) (hM : ∀ d, M (b + d) = none) (l : List Stmt) (hx : ∀ x ∈ l, StmtAt x) (hl : l.length ≤ 1000000000) (hs : bs.length + (brcX 1 (stmtsX l 2)).length ≤ 140737488351232) :
    CallE Tryd.prog 26 [.ptr j 0, .c (.sl (cStmts l))] M [q] (.tup []) (pgM M j q true 1 (bs ++ brcX 1 (stmtsX l 2))) := block_ok (t := 1) h hM l hx hl hs
theorem block0 {M : Mem} {j q b : Nat} {u : Bool} {bs : List UInt8} (h : PgAt M j q u 0 bs) (hM : ∀ d, M (b + d) = none) (l : List Stmt) (hx : ∀ x ∈ l, StmtAt x) (hl : l.length ≤ 1000000000) (hs : bs.length + (brcX 0 (stmtsX l 1)).length ≤ 140737488351232) :
    CallE Tryd.prog 26 [.ptr j 0, .c (.sl (cStmts l))] M [q] (.tup []) (pgM M j q true 0 (bs ++ brcX 0 (stmtsX l 1))) := block_ok (t := 0) h hM l hx hl hs
theorem flatX_take {α : Type} (f : α → List UInt8) {l : List α} {k : Nat} {x : α} (h : l[k]? = some x) : (l.take (k + 1)).flatMap f = (l.take k).flatMap f ++ f x := by
  rw [List.take_add_one, h, List.flatMap_append]; simp
theorem flatX_le {α : Type} (f : α → List UInt8) (l : List α) (k : Nat) : ((l.take k).flatMap f).length ≤ (l.flatMap f).length := by
  have : l.flatMap f = (l.take k).flatMap f ++ (l.drop k).flatMap f := by rw [← List.flatMap_append, List.take_append_drop]
  rw [this, List.length_append]; omega
def rowP (l : List Slot) (k : Nat) : List (List C) := (l.take k).map (fun s => [C.str ⟨(slotX s).toArray⟩]) ++ List.replicate (l.length - k) [C.str ⟨#[]⟩]
theorem rowP_zero (l : List Slot) : rowP l 0 = List.replicate l.length [C.str ⟨#[]⟩] := by simp [rowP]
theorem rowP_len {l : List Slot} {k : Nat} (h : k ≤ l.length) : (rowP l k).length = l.length := by simp [rowP]; omega
theorem rowP_at {l : List Slot} {k : Nat} (h : k < l.length) : (rowP l k)[k]? = some [C.str ⟨#[]⟩] := by
  unfold rowP
  have e : ((l.take k).map fun s => [C.str ⟨(slotX s).toArray⟩]).length = k := by rw [List.length_map, List.length_take]; omega
  rw [List.getElem?_append_right (by rw [e]; exact Nat.le_refl _), e, Nat.sub_self, List.getElem?_replicate, if_pos (by omega)]
theorem rowP_all (l : List Slot) : rowP l l.length = (l.map fun s => (⟨(slotX s).toArray⟩ : ByteArray)).map cStr := by simp [rowP, cStr]
theorem rowP_set {l : List Slot} {k : Nat} {s : Slot} (h : l[k]? = some s) : (rowP l k).set k [C.str ⟨(slotX s).toArray⟩] = rowP l (k + 1) := by
  have hk := (List.getElem?_eq_some_iff.1 h).1
  unfold rowP
  rw [List.take_add_one, h]
  rw [List.set_append_right _ _ (by simp; omega)]
  have : k - ((l.take k).map fun s => [C.str ⟨(slotX s).toArray⟩]).length = 0 := by simp; omega
  rw [this]
  obtain ⟨d, hd⟩ : ∃ d, l.length - k = d + 1 := ⟨l.length - k - 1, by omega⟩
  rw [hd, show l.length - (k + 1) = d by omega, List.replicate_succ]
  simp
theorem cntC_len : ∀ cs : List Class, cs.length ≤ (cs.map cntC).sum
  | [] => by simp
  | c :: cs => by have := cntC_len cs; simp only [List.length_cons, List.map_cons, List.sum_cons, cntC]; omega
theorem cntM_len : ∀ cs : List Method, cs.length ≤ (cs.map cntM).sum
  | [] => by simp
  | c :: cs => by have := cntM_len cs; simp only [List.length_cons, List.map_cons, List.sum_cons, cntM]; omega
def textP (p : Program) : ByteArray × Int := if checkB p then (if 8192 < (progX p).length then (⟨#[]⟩, 2) else (⟨(progX p).toArray⟩, 0)) else (⟨#[]⟩, 30)
set_option maxHeartbeats 8000000 in
theorem textP_ok (p : Program) (hc : cntP p ≤ 1048576) (m : Mem) : COk Tryd.prog 10 [.agg (cProg p)] m (.tup [(false, [.str (textP p).1]), (false, [.int .i64 (textP p).2])]) := by
  have hck := tree_ok p
  have hlen : checkB p = true → (progX p).length ≤ 10000000000000 := fun h => progX_len h hc
  obtain ⟨cs, mn⟩ := p
  simp only [cProg] at hck ⊢
  refine (ok_pure tab_ok Tryd.func10 (by kernel_rfl) rfl rfl (by rfl) (by rfl) (by rfl) (fun R hkeep => ?_) m)
  repeat (first | refine W.seq ?_ | refine W.block ?_ | refine W.skip ?_ | refine W.exit ?_ | refine W.region tab_ok 0 (by decide) (exec_run (by simp only [exa, beq_self_eq_true, ByteArray.size, Nat.reduceAdd, Nat.reduceLeDiff, Nat.reduceEqDiff, Nat.reduceMul, Int.reduceToNat, reduceIte, Int.reduceLE, Int.reduceNeg]; rfl)) ?_)
  (repeat (first | refine W.seq ?_ | refine W.block ?_ | refine W.skip ?_ | refine W.exit ?_))
  refine W.regionK tab_ok 0 (by decide) ?_
  refine runk_split 1 (by simp only [exa, beq_self_eq_true, ByteArray.size, Nat.reduceAdd, Nat.reduceLeDiff, Nat.reduceEqDiff, Nat.reduceMul, Int.reduceToNat, reduceIte, Int.reduceLE, Int.reduceNeg]; rfl) ?_
  refine runk_call rfl rfl rfl rfl rfl (by simp) (cvs_cons cv_refl cvs_nil) (hck _) ?_
  refine runk_exec (by simp only [exa, beq_self_eq_true, ByteArray.size, Nat.reduceAdd, Nat.reduceLeDiff, Nat.reduceEqDiff, Nat.reduceMul, Int.reduceToNat, reduceIte, Int.reduceLE, Int.reduceNeg]; rfl) ?_
  repeat (first | refine W.seq ?_ | refine W.block ?_ | refine W.skip ?_ | refine W.exit ?_ | refine W.region tab_ok 0 (by decide) (exec_run (by simp only [exa, beq_self_eq_true, ByteArray.size, Nat.reduceAdd, Nat.reduceLeDiff, Nat.reduceEqDiff, Nat.reduceMul, Int.reduceToNat, reduceIte, Int.reduceLE, Int.reduceNeg]; rfl)) ?_)
  cases hb : checkB ⟨cs, mn⟩ with
  | false =>
    refine W.cond rfl (fun _ => ?_) (fun h => absurd h (by decide))
    repeat (first | refine W.seq ?_ | refine W.block ?_ | refine W.skip ?_ | refine W.exit ?_ | refine W.region tab_ok 0 (by decide) (exec_run (by simp only [exa, beq_self_eq_true, ByteArray.size, Nat.reduceAdd, Nat.reduceLeDiff, Nat.reduceEqDiff, Nat.reduceMul, Int.reduceToNat, reduceIte, Int.reduceLE, Int.reduceNeg]; rfl)) ?_)
    refine W.ret ⟨.inr rfl, by rfl, ?_⟩
    simp only [Tryd.f10, resA, resOne, toT, fin, exa, beq_self_eq_true, ByteArray.size, Nat.reduceAdd, Nat.reduceLeDiff, Nat.reduceEqDiff, Nat.reduceMul, Int.reduceToNat, reduceIte, Int.reduceLE, Int.reduceNeg]
    simp [textP, hb, treeErr]
  | true =>
    have hlen := hlen hb
    refine W.cond rfl (fun h => absurd h (by decide)) (fun _ => ?_)
    repeat (first | refine W.seq ?_ | refine W.block ?_ | refine W.skip ?_ | refine W.exit ?_ | refine W.region tab_ok 0 (by decide) (exec_run (by simp only [exa, beq_self_eq_true, ByteArray.size, Nat.reduceAdd, Nat.reduceLeDiff, Nat.reduceEqDiff, Nat.reduceMul, Int.reduceToNat, reduceIte, Int.reduceLE, Int.reduceNeg]; rfl)) ?_)
    refine W.newRowBox true 21 1 300 5 1 (tyb := 47) (cells := [A.nilv (.pointer none), .nil, .c (.int .i64 0)]) rfl rfl rfl ?_
    obtain ⟨M, hM⟩ : ∃ M, M = upd (upd (upd (upd Mem.nil 1 (some (.box 33 [.c (.sl (cs.map cClass)), .c (.sl (cStmts mn))]))) 21 (some (.box 47 [.nilv (.pointer none), .nil, .c (.int .i64 0)]))) 300 (some (rowO true 5 1 []))) 21 (some (.box 47 ([A.nilv (.pointer none), .nil, .c (.int .i64 0)].set 1 (.own 300)))) := ⟨_, rfl⟩
    rw [← hM]
    have hp : PgAt M 21 300 false 0 [] := by
      rw [hM]
      refine ⟨rfl, rfl, by decide, fun i o ho hi => ?_⟩
      rw [upd_ne _ _ hi] at ho
      by_cases e1 : i = 300
      · subst e1; rw [upd_same] at ho; cases ho; rfl
      rw [upd_ne _ _ e1, upd_ne _ _ hi] at ho
      by_cases e2 : i = 1
      · subst e2; rw [upd_same] at ho; cases ho; rfl
      · rw [upd_ne _ _ e2] at ho; cases ho
    have hf : ∀ d, M (400 + d) = none := fun d => by
      rw [hM, upd_ne _ _ (by omega), upd_ne _ _ (by omega), upd_ne _ _ (by omega), upd_ne _ _ (by omega)]; rfl
    have hM1 : M 1 = some (.box 33 [.c (.sl (cs.map cClass)), .c (.sl (cStmts mn))]) := by rw [hM]; rfl
    have hN : M 7 = none ∧ M 9 = none ∧ M 11 = none ∧ M 14 = none ∧ M 77 = none := by rw [hM]; exact ⟨rfl, rfl, rfl, rfl, rfl⟩
    obtain ⟨hM7, hM9, hM11, hM14, hM77⟩ := hN
    have hpw : ∀ u t bs, PgAt (pgM M 21 300 u t bs) 21 300 u t bs := fun u t bs => hp.pgM
    have hWF : ∀ u t bs, WFm (pgM M 21 300 u t bs) := fun u t bs => by
      refine pgM_wf hp ?_
      rw [hM]
      repeat (first | exact mwf_nil _ | refine mwf_upd ?_ (by simp [A.ids, O.ids, upd_app, rowO]))
    clear hM
    have hbC : ∀ c ∈ cs, classB c = true := by
      unfold checkB at hb
      simp only [Bool.and_eq_true, List.all_eq_true] at hb
      exact hb.2
    have hbM : ∀ s ∈ mn, stmtB s = true := by
      unfold checkB at hb
      simp only [Bool.and_eq_true, List.all_eq_true] at hb
      exact hb.1
    have hcnt : (cs.map cntC).sum + cntSs mn ≤ 1048576 := hc
    have hcl : cs.length ≤ 1048576 := by
      have := cntC_len cs
      omega
    have hpl : (cs.flatMap classX).length + (5 + (brcX 0 (stmtsX mn 1)).length + 1) ≤ 10000000000000 := by
      simp only [progX, List.length_append, List.length_cons, List.length_nil] at hlen
      omega
    have hpj : ∀ (u : Bool) (t' : Int) (bs' : List UInt8), pgM M 21 300 u t' bs' 1 = some (.box 33 [.c (.sl (cs.map cClass)), .c (.sl (cStmts mn))]) := fun u t' bs' => by rw [pgM_at (by decide) (by decide)]; exact hM1
    repeat (first | refine W.seq ?_ | refine W.block ?_ | refine W.skip ?_ | refine W.exit ?_ | refine W.region tab_ok 0 (by decide) (exec_run (by simp only [exa, beq_self_eq_true, ByteArray.size, Nat.reduceAdd, Nat.reduceLeDiff, Nat.reduceEqDiff, Nat.reduceMul, Int.reduceToNat, reduceIte, Int.reduceLE, Int.reduceNeg, hM1, List.length_map]; rfl)) ?_)
    refine W.loop (ι := Nat) (fun k => ⟨upd (upd (upd (upd (upd (fun _ => .top) 1 (.ptr 1 0)) 5 (.ptr 21 0)) 23 (.c (.sl (cs.map cClass)))) 24 (.c (.int .i64 cs.length))) 25 (.c (.int .i64 k)), pgM M 21 300 (decide (0 < k)) 0 ((cs.take k).flatMap classX)⟩) (fun k => k ≤ cs.length) (fun k => cs.length - k) 0 ?start (Nat.zero_le _) ?round
    case start =>
      refine le_mk ?sle ?mle ?swf ?mwf (fun i hi => absurd hi (by rw [hkeep]; exact id)) (by rfl)
      case swf => repeat (first | exact swf_top _ | refine swf_upd ?_ (by simp [A.ids, pgM, upd_app, hM1]))
      case mwf => exact hWF _ _ _
      case mle => exact mle_refl' (pgM_same hp).symm
      case sle => repeat (first | exact sle_top _ | exact sle_refl _ | refine sle_upd ?_ (by first | rfl | (simp only [upd_app, killS_app, A.kill, entry_zero, entry_succ, Nat.reduceEqDiff, reduceIte, List.length_map]; done)))
    case round =>
      intro k hk
      repeat (first | refine W.seq ?_ | refine W.block ?_ | refine W.skip ?_ | refine W.exit ?_ | refine W.region tab_ok 0 (by decide) (exec_run (by simp only [exa, beq_self_eq_true, ByteArray.size, Nat.reduceAdd, Nat.reduceLeDiff, Nat.reduceEqDiff, Nat.reduceMul, Int.reduceToNat, reduceIte, Int.reduceLE, Int.reduceNeg]; rfl)) ?_)
      refine W.cond rfl ?_ ?_
      · intro hlt
        simp only [decide_eq_true_eq, Int.ofNat_lt] at hlt
        obtain ⟨c, hxk⟩ : ∃ c, cs[k]? = some c := ⟨_, List.getElem?_eq_getElem hlt⟩
        have htk := flatX_take classX hxk
        have hle := flatX_le classX cs (k + 1)
        have hln := congrArg List.length htk
        simp only [List.length_append] at hln
        have hat := at_map (f := cClass) hxk
        have hcm := List.mem_of_getElem? hxk
        have hcb := hbC c hcm
        have hcc := sumX_mem cntC cs c hcm
        obtain ⟨cnm, csu, cfl, cme⟩ := c
        simp only [cClass] at hat
        obtain ⟨B0, hB0⟩ : ∃ B0, (cs.take k).flatMap classX = B0 := ⟨_, rfl⟩
        obtain ⟨u0, hu0⟩ : ∃ u0, decide (0 < k) = u0 := ⟨_, rfl⟩
        rw [hB0] at htk hln ⊢
        rw [hu0]
        have h7n : ∀ u t bs, pgM M 21 300 u t bs 7 = none := fun u t bs => pgM_none hp hM7
        repeat (first | refine W.seq ?_ | refine W.block ?_ | refine W.skip ?_ | refine W.exit ?_ | refine W.region tab_ok 0 (by decide) (exec_run (by simp only [exa, beq_self_eq_true, ByteArray.size, Nat.reduceAdd, Nat.reduceLeDiff, Nat.reduceEqDiff, Nat.reduceMul, Int.reduceToNat, reduceIte, Int.reduceLE, Int.reduceNeg, hat, h7n]; rfl)) ?_)
        simp only [upd_upd]
        rw [← pgM_upd (by decide) (by decide)]
        obtain ⟨M7, hM7d⟩ : ∃ M7, M7 = upd M 7 (some (.box 57 [.c (.str cnm), .c (.str csu), .c (.sl (cfl.map cSlot)), .c (.sl (cme.map cMethod))])) := ⟨_, rfl⟩
        rw [← hM7d]
        have hp7 : PgAt M7 21 300 false 0 [] := by rw [hM7d]; exact hp.new hM7 rfl
        have hm7 : ∀ u t bs, pgM M7 21 300 u t bs 7 = some (.box 57 [.c (.str cnm), .c (.str csu), .c (.sl (cfl.map cSlot)), .c (.sl (cme.map cMethod))]) := fun u t bs => by rw [pgM_at (by decide) (by decide), hM7d, upd_same]
        have hN7 : M7 9 = none ∧ M7 11 = none ∧ M7 14 = none ∧ M7 77 = none := by rw [hM7d]; exact ⟨hM9, hM11, hM14, hM77⟩
        have hf7 : ∀ d, M7 (400 + d) = none := fun d => by rw [hM7d, upd_ne _ _ (by omega)]; exact hf d
        have hWF7 : ∀ u t bs, WFm (pgM M7 21 300 u t bs) := fun u t bs => by
          rw [hM7d, pgM_upd (by decide) (by decide)]
          exact mwf_some (hWF u t bs) (fun i hi => by simp [O.ids, A.ids] at hi)
        have off7 : ∀ u t bs, MLe (pgM M7 21 300 u t bs) (pgM M 21 300 u t bs) := fun u t bs => by
          rw [hM7d, pgM_upd (by decide) (by decide)]
          exact mle_off (pgM_none hp hM7)
        obtain ⟨hN9, hN11, hN14, hN77⟩ := hN7
        have hv1 : (M7 1).isSome = true := by rw [hM7d, upd_ne _ _ (by decide), hM1]; rfl
        have hv7 : (M7 7).isSome = true := by rw [hM7d, upd_same]; rfl
        clear hM7d
        obtain ⟨su, hsu⟩ : ∃ su, (if csu.data.toList.isEmpty then [] else [32, 101, 120, 116, 101, 110, 100, 115, 32] ++ csu.data.toList) = su := ⟨_, rfl⟩
        have hcx : classX ⟨cnm, csu, cfl, cme⟩ = [99, 108, 97, 115, 115, 32] ++ cnm.data.toList ++ su ++ [32, 123, 10] ++ cfl.flatMap fieldX ++ cme.flatMap methX ++ [125, 10] := by rw [← hsu]; rfl
        rw [hcx] at hln htk
        obtain ⟨FX, hFX⟩ : ∃ FX, cfl.flatMap fieldX = FX := ⟨_, rfl⟩
        obtain ⟨MX, hMX⟩ : ∃ MX, cme.flatMap methX = MX := ⟨_, rfl⟩
        rw [hFX, hMX] at hln htk
        simp only [List.length_append, List.length_cons, List.length_nil] at hln
        have hcnl : cnm.data.toList.length = cnm.size := by rw [Array.length_toList]; rfl
        have hs : B0.length + (6 + cnm.size + su.length + 3 + FX.length + MX.length + 2) ≤ 10000000000000 := by omega
        (repeat (first | refine W.seq ?_ | refine W.block ?_ | refine W.skip ?_ | refine W.exit ?_))
        refine W.regionK tab_ok 0 (by decide) ?_
        refine runk_split 4 (by simp only [exa, beq_self_eq_true, ByteArray.size, Nat.reduceAdd, Nat.reduceLeDiff, Nat.reduceEqDiff, Nat.reduceMul, Int.reduceToNat, reduceIte, Int.reduceLE, Int.reduceNeg, killS_app, A.kill, Nat.reduceEqDiff, if_false, reduceIte, hm7]; rfl) ?_
        refine runk_callE (D := [300]) rfl rfl rfl rfl rfl (fun i hi => by rw [hkeep]; exact id) (by simp) (by first | exact cvs_cons cv_refl (cvs_cons cv_refl cvs_nil) | exact cvs_cons cv_refl cvs_nil) (layM hp7 u0 B0 [⟨#[99, 108, 97, 115, 115, 32]⟩, cnm] (by simp) (by simp) (by simp [txtB]; omega)) ?_
        simp only [killL, putS]
        refine runk_exec (by simp only [exa, beq_self_eq_true, ByteArray.size, Nat.reduceAdd, Nat.reduceLeDiff, Nat.reduceEqDiff, Nat.reduceMul, Int.reduceToNat, reduceIte, Int.reduceLE, Int.reduceNeg]; rfl) ?_
        obtain ⟨B1, hB1⟩ : ∃ B1, B0 ++ txtB [⟨#[99, 108, 97, 115, 115, 32]⟩, cnm] = B1 := ⟨_, rfl⟩
        have hl1 : B1.length = B0.length + 6 + cnm.size := by rw [← hB1]; simp [txtB]; omega
        rw [hB1]
        refine W.seqJoin (ι := Unit) (fun _ => ⟨upd (upd (upd (upd (upd (upd (fun _ => .top) 1 (.ptr 1 0)) 5 (.ptr 21 0)) 7 (.ptr 7 0)) 23 (.c (.sl (cs.map cClass)))) 24 (.c (.int .i64 cs.length))) 25 (.c (.int .i64 k)), pgM M7 21 300 true 0 (B1 ++ su)⟩) (fun _ => True) ?first ?rest
        case first =>
          repeat (first | refine W.seq ?_ | refine W.block ?_ | refine W.skip ?_ | refine W.exit ?_ | refine W.region tab_ok 0 (by decide) (exec_run (by simp only [exa, beq_self_eq_true, ByteArray.size, Nat.reduceAdd, Nat.reduceLeDiff, Nat.reduceEqDiff, Nat.reduceMul, Int.reduceToNat, reduceIte, Int.reduceLE, Int.reduceNeg, hm7, killS_app, A.kill, Nat.reduceEqDiff, if_false, reduceIte]; rfl)) ?_)
          cases hce : csu.data.toList.isEmpty with
          | true =>
            have hsu0 : su = [] := by rw [← hsu, hce]; rfl
            have hcl0 : csu.toList = [] := by rw [toListX]; exact List.isEmpty_iff.1 hce
            rw [hcl0]
            refine W.cond rfl (fun h => absurd h (by decide)) (fun _ => W.skip ?_)
            refine ⟨by simp, fun c K' hk => W.weaken ?le (hk () trivial)⟩
            case le =>
              refine le_mk ?sle ?mle ?swf ?mwf (fun i hi => absurd hi (by rw [hkeep]; exact id)) (by rfl)
              case swf =>
                repeat (first | exact swf_top _ | refine swf_upd ?_ (by simp [A.ids, pgM, upd_app, hv1, hv7]))
              case mwf => exact hWF7 _ _ _
              case mle => exact mle_eq (congrArg (pgM M7 21 300 true 0) (by simp [hsu0])) (mle_refl _)
              case sle =>
                repeat (first | exact sle_top _ | exact sle_refl _ | refine sle_upd ?_ (by first | rfl | (simp only [upd_app, killS_app, A.kill, entry_zero, entry_succ, Nat.reduceEqDiff, reduceIte, List.length_map]; done)))
          | false =>
            have hsu1 : su = txtB [⟨#[32, 101, 120, 116, 101, 110, 100, 115, 32]⟩, csu] := by rw [← hsu, hce]; simp [txtB]
            have hcl0 : (!(csu.toList == [])) = true := by
              rw [toListX]
              cases hq : csu.data.toList with
              | nil => rw [hq] at hce; cases hce
              | cons a b => rfl
            refine W.cond rfl (fun _ => ?_) (fun h => absurd (hcl0.symm.trans h) (by decide))
            refine W.regionK tab_ok 0 (by decide) ?_
            refine runk_split 4 (by simp only [exa, beq_self_eq_true, ByteArray.size, Nat.reduceAdd, Nat.reduceLeDiff, Nat.reduceEqDiff, Nat.reduceMul, Int.reduceToNat, reduceIte, Int.reduceLE, Int.reduceNeg, killS_app, A.kill, Nat.reduceEqDiff, if_false, reduceIte, hm7]; rfl) ?_
            refine runk_callE (D := [300]) rfl rfl rfl rfl rfl (fun i hi => by rw [hkeep]; exact id) (by simp) (by first | exact cvs_cons cv_refl (cvs_cons cv_refl cvs_nil) | exact cvs_cons cv_refl cvs_nil) (layM hp7 true B1 [⟨#[32, 101, 120, 116, 101, 110, 100, 115, 32]⟩, csu] (by simp) (by simp) (by rw [← hsu1]; omega)) ?_
            simp only [killL, putS]
            refine runk_exec (by simp only [exa, beq_self_eq_true, ByteArray.size, Nat.reduceAdd, Nat.reduceLeDiff, Nat.reduceEqDiff, Nat.reduceMul, Int.reduceToNat, reduceIte, Int.reduceLE, Int.reduceNeg]; rfl) ?_
            refine ⟨by simp, fun c K' hk => W.weaken ?le (hk () trivial)⟩
            case le =>
              refine le_mk ?sle ?mle ?swf ?mwf (fun i hi => absurd hi (by rw [hkeep]; exact id)) (by rfl)
              case swf =>
                repeat (first | exact swf_top _ | refine swf_upd ?_ (by simp [A.ids, pgM, upd_app, hv1, hv7]))
              case mwf => exact hWF7 _ _ _
              case mle => exact mle_eq (congrArg (pgM M7 21 300 true 0) (by simp [hsu1])) (mle_refl _)
              case sle =>
                repeat (first | exact sle_top _ | exact sle_refl _ | refine sle_upd ?_ (by first | rfl | (simp only [upd_app, killS_app, A.kill, entry_zero, entry_succ, Nat.reduceEqDiff, reduceIte, List.length_map]; done)))
        case rest =>
          rintro - -
          have hpj7 : ∀ (t' : Int) (bs' : List UInt8), pgM M7 21 300 true t' bs' 21 = some (.box 47 [.ptr 21 0, .own 300, .c (.int .i64 t')]) := fun t' bs' => by
            unfold pgM; rw [upd_ne _ _ (by decide), upd_same]; rfl
          have hw1 : IntKind.i64.wrap (0 + 1) = 1 := by decide
          have hw2 : IntKind.i64.wrap (1 - 1) = 0 := by decide
          obtain ⟨B2, hB2⟩ : ∃ B2, B1 ++ su = B2 := ⟨_, rfl⟩
          have hl2 : B2.length = B1.length + su.length := by rw [← hB2, List.length_append]
          rw [hB2]
          (repeat (first | refine W.seq ?_ | refine W.block ?_ | refine W.skip ?_ | refine W.exit ?_))
          refine W.regionK tab_ok 0 (by decide) ?_
          refine runk_split 2 (by simp only [exa, beq_self_eq_true, ByteArray.size, Nat.reduceAdd, Nat.reduceLeDiff, Nat.reduceEqDiff, Nat.reduceMul, Int.reduceToNat, reduceIte, Int.reduceLE, Int.reduceNeg, killS_app, A.kill, Nat.reduceEqDiff, if_false, reduceIte, hm7]; rfl) ?_
          refine runk_callE (D := [300]) rfl rfl rfl rfl rfl (fun i hi => by rw [hkeep]; exact id) (by simp) (by first | exact cvs_cons cv_refl (cvs_cons cv_refl cvs_nil) | exact cvs_cons cv_refl cvs_nil) (layM hp7 true B2 [⟨#[32, 123, 10]⟩] (by simp) (by simp) (by simp [txtB]; omega)) ?_
          simp only [killL, putS]
          refine runk_exec (by simp only [exa, beq_self_eq_true, ByteArray.size, Nat.reduceAdd, Nat.reduceLeDiff, Nat.reduceEqDiff, Nat.reduceMul, Int.reduceToNat, reduceIte, Int.reduceLE, Int.reduceNeg]; rfl) ?_
          obtain ⟨B3, hB3⟩ : ∃ B3, B2 ++ txtB [⟨#[32, 123, 10]⟩] = B3 := ⟨_, rfl⟩
          have hl3 : B3.length = B2.length + 3 := by rw [← hB3]; simp [txtB]
          rw [hB3]
          repeat (first | refine W.seq ?_ | refine W.block ?_ | refine W.skip ?_ | refine W.exit ?_ | refine W.region tab_ok 0 (by decide) (exec_run (by simp only [exa, beq_self_eq_true, ByteArray.size, Nat.reduceAdd, Nat.reduceLeDiff, Nat.reduceEqDiff, Nat.reduceMul, Int.reduceToNat, reduceIte, Int.reduceLE, Int.reduceNeg, hpj7, hw1, hw2, killS_app, A.kill, Nat.reduceEqDiff, if_false, reduceIte]; rfl)) ?_)
          rw [tab_up (by decide)]
          repeat (first | refine W.seq ?_ | refine W.block ?_ | refine W.skip ?_ | refine W.exit ?_ | refine W.region tab_ok 0 (by decide) (exec_run (by simp only [exa, beq_self_eq_true, ByteArray.size, Nat.reduceAdd, Nat.reduceLeDiff, Nat.reduceEqDiff, Nat.reduceMul, Int.reduceToNat, reduceIte, Int.reduceLE, Int.reduceNeg, hm7, hw1, hw2, List.length_map, killS_app, A.kill, Nat.reduceEqDiff, if_false, reduceIte]; rfl)) ?_)
          have hcb' := hcb
          unfold classB classTop at hcb'
          simp only [Bool.and_eq_true, List.all_eq_true] at hcb'
          obtain ⟨⟨-, hfb⟩, hmb⟩ := hcb'
          have hfl := sumX_one cfl
          have hcml := cntM_len cme
          have hcc2 : 1 + cfl.length + (cme.map cntM).sum ≤ 1048576 := Nat.le_trans hcc (by omega)
          refine W.loop (ι := Nat) (fun k2 => ⟨upd (upd (upd (upd (upd (upd (upd (upd (upd (fun _ => .top) 1 (.ptr 1 0)) 5 (.ptr 21 0)) 7 (.ptr 7 0)) 23 (.c (.sl (cs.map cClass)))) 24 (.c (.int .i64 cs.length))) 25 (.c (.int .i64 k))) 53 (.c (.sl (cfl.map cSlot)))) 54 (.c (.int .i64 cfl.length))) 55 (.c (.int .i64 k2)), pgM M7 21 300 true 1 (B3 ++ (cfl.take k2).flatMap fieldX)⟩) (fun k2 => k2 ≤ cfl.length) (fun k2 => cfl.length - k2) 0 ?start2 (Nat.zero_le _) ?round2
          case start2 =>
            refine le_mk ?sle ?mle ?swf ?mwf (fun i hi => absurd hi (by rw [hkeep]; exact id)) (by rfl)
            case swf =>
              repeat (first | exact swf_top _ | refine swf_upd ?_ (by simp [A.ids, pgM, upd_app, hv1, hv7]))
            case mwf => exact hWF7 _ _ _
            case mle => simp only [List.take_zero, List.flatMap_nil, List.append_nil]; exact mle_refl _
            case sle =>
              repeat (first | exact sle_top _ | exact sle_refl _ | refine sle_upd ?_ (by first | rfl | (simp only [upd_app, killS_app, A.kill, entry_zero, entry_succ, Nat.reduceEqDiff, reduceIte, List.length_map]; done)))
          case round2 =>
            intro k2 hk2
            repeat (first | refine W.seq ?_ | refine W.block ?_ | refine W.skip ?_ | refine W.exit ?_ | refine W.region tab_ok 0 (by decide) (exec_run (by simp only [exa, beq_self_eq_true, ByteArray.size, Nat.reduceAdd, Nat.reduceLeDiff, Nat.reduceEqDiff, Nat.reduceMul, Int.reduceToNat, reduceIte, Int.reduceLE, Int.reduceNeg]; rfl)) ?_)
            refine W.cond rfl ?_ ?_
            · intro hlt2
              simp only [decide_eq_true_eq, Int.ofNat_lt] at hlt2
              obtain ⟨f, hxk2⟩ : ∃ f, cfl[k2]? = some f := ⟨_, List.getElem?_eq_getElem hlt2⟩
              have htk2 := flatX_take fieldX hxk2
              have hle2 := flatX_le fieldX cfl (k2 + 1)
              rw [hFX] at hle2
              have hln2 := congrArg List.length htk2
              simp only [List.length_append] at hln2
              have hat2 := at_map (f := cSlot) hxk2
              obtain ⟨fty, fnm⟩ := f
              simp only [cSlot] at hat2
              have hfx : fieldX ⟨fty, fnm⟩ = [9] ++ txtB [fty, ⟨#[32]⟩, fnm, ⟨#[59, 10]⟩] := by simp [fieldX, slotX, txtB]
              rw [hfx] at htk2 hln2
              simp only [List.length_append, List.length_cons, List.length_nil] at hln2
              obtain ⟨B4, hB4⟩ : ∃ B4, B3 ++ (cfl.take k2).flatMap fieldX = B4 := ⟨_, rfl⟩
              have hl4 : B4.length = B3.length + ((cfl.take k2).flatMap fieldX).length := by rw [← hB4, List.length_append]
              rw [hB4]
              have h9n : ∀ u t bs, pgM M7 21 300 u t bs 9 = none := fun u t bs => pgM_none hp7 hN9
              repeat (first | refine W.seq ?_ | refine W.block ?_ | refine W.skip ?_ | refine W.exit ?_ | refine W.region tab_ok 0 (by decide) (exec_run (by simp only [exa, beq_self_eq_true, ByteArray.size, Nat.reduceAdd, Nat.reduceLeDiff, Nat.reduceEqDiff, Nat.reduceMul, Int.reduceToNat, reduceIte, Int.reduceLE, Int.reduceNeg, hat2, h9n]; rfl)) ?_)
              simp only [upd_upd]
              rw [← pgM_upd (by decide) (by decide)]
              obtain ⟨M9, hM9d⟩ : ∃ M9, M9 = upd M7 9 (some (.box 60 [.c (.str fty), .c (.str fnm)])) := ⟨_, rfl⟩
              rw [← hM9d]
              have hp9 : PgAt M9 21 300 false 0 [] := by rw [hM9d]; exact hp7.new hN9 rfl
              have hm9 : ∀ u t bs, pgM M9 21 300 u t bs 9 = some (.box 60 [.c (.str fty), .c (.str fnm)]) := fun u t bs => by rw [pgM_at (by decide) (by decide), hM9d, upd_same]
              have off9 : ∀ u t bs, MLe (pgM M9 21 300 u t bs) (pgM M7 21 300 u t bs) := fun u t bs => by
                rw [hM9d, pgM_upd (by decide) (by decide)]
                exact mle_off (pgM_none hp7 hN9)
              have hli := line1 (hp9.pgM (u' := true) (t' := 1) (bs' := B4)) [fty, ⟨#[32]⟩, fnm, ⟨#[59, 10]⟩] (by simp) (by omega)
              rw [pgM_pgM (by decide)] at hli
              (repeat (first | refine W.seq ?_ | refine W.block ?_ | refine W.skip ?_ | refine W.exit ?_))
              refine W.regionK tab_ok 0 (by decide) ?_
              refine runk_split 6 (by simp only [exa, beq_self_eq_true, ByteArray.size, Nat.reduceAdd, Nat.reduceLeDiff, Nat.reduceEqDiff, Nat.reduceMul, Int.reduceToNat, reduceIte, Int.reduceLE, Int.reduceNeg, killS_app, A.kill, Nat.reduceEqDiff, if_false, reduceIte, hm9]; rfl) ?_
              refine runk_callE (D := [300]) rfl rfl rfl rfl rfl (fun i hi => by rw [hkeep]; exact id) (by simp) (by first | exact cvs_cons cv_refl (cvs_cons cv_refl cvs_nil) | exact cvs_cons cv_refl cvs_nil) hli ?_
              simp only [killL, putS]
              refine runk_exec (by simp only [exa, beq_self_eq_true, ByteArray.size, Nat.reduceAdd, Nat.reduceLeDiff, Nat.reduceEqDiff, Nat.reduceMul, Int.reduceToNat, reduceIte, Int.reduceLE, Int.reduceNeg]; rfl) ?_
              repeat (first | refine W.seq ?_ | refine W.block ?_ | refine W.skip ?_ | refine W.exit ?_ | refine W.region tab_ok 0 (by decide) (exec_run (by simp only [exa, beq_self_eq_true, ByteArray.size, Nat.reduceAdd, Nat.reduceLeDiff, Nat.reduceEqDiff, Nat.reduceMul, Int.reduceToNat, reduceIte, Int.reduceLE, Int.reduceNeg, killS_app, A.kill, Nat.reduceEqDiff, if_false, reduceIte]; rfl)) ?_)
              refine ⟨k2 + 1, hlt2, by omega, ?_⟩
              refine le_mk ?sle ?mle ?swf ?mwf (fun i hi => absurd hi (by rw [hkeep]; exact id)) (by rfl)
              case swf =>
                repeat (first | exact swf_top _ | refine swf_upd ?_ (by simp [A.ids, pgM, upd_app, hv1, hv7]))
              case mwf => exact hWF7 _ _ _
              case mle => exact mle_eq (congrArg (pgM M7 21 300 true 1) (by rw [htk2, ← hB4]; simp [List.append_assoc])) (off9 _ _ _)
              case sle =>
                repeat (first | exact sle_top _ | exact sle_refl _ | refine sle_upd ?_ (by first | rfl | (simp only [upd_app, killS_app, A.kill, entry_zero, entry_succ, Nat.reduceEqDiff, reduceIte, wrap_succ (show k2 + 1 < 9223372036854775808 by omega)]; done)))
            · intro hge2
              simp only [decide_eq_false_iff_not, Int.ofNat_lt] at hge2
              obtain rfl : k2 = cfl.length := by omega
              rw [List.take_length, hFX]
              repeat (first | refine W.seq ?_ | refine W.block ?_ | refine W.skip ?_ | refine W.exit ?_ | refine W.region tab_ok 0 (by decide) (exec_run (by simp only [exa, beq_self_eq_true, ByteArray.size, Nat.reduceAdd, Nat.reduceLeDiff, Nat.reduceEqDiff, Nat.reduceMul, Int.reduceToNat, reduceIte, Int.reduceLE, Int.reduceNeg, hm7, List.length_map]; rfl)) ?_)
              refine W.loop (ι := Nat) (fun k3 => ⟨upd (upd (upd (upd (upd (upd (upd (upd (upd (fun _ => .top) 1 (.ptr 1 0)) 5 (.ptr 21 0)) 7 (.ptr 7 0)) 23 (.c (.sl (cs.map cClass)))) 24 (.c (.int .i64 cs.length))) 25 (.c (.int .i64 k))) 68 (.c (.sl (cme.map cMethod)))) 69 (.c (.int .i64 cme.length))) 70 (.c (.int .i64 k3)), pgM M7 21 300 true 1 (B3 ++ FX ++ (cme.take k3).flatMap methX)⟩) (fun k3 => k3 ≤ cme.length) (fun k3 => cme.length - k3) 0 ?start3 (Nat.zero_le _) ?round3
              case start3 =>
                refine le_mk ?sle ?mle ?swf ?mwf (fun i hi => absurd hi (by rw [hkeep]; exact id)) (by rfl)
                case swf =>
                  repeat (first | exact swf_top _ | refine swf_upd ?_ (by simp [A.ids, pgM, upd_app, hv1, hv7]))
                case mwf => exact hWF7 _ _ _
                case mle => simp only [List.take_zero, List.flatMap_nil, List.append_nil]; exact mle_refl _
                case sle =>
                  repeat (first | exact sle_top _ | exact sle_refl _ | refine sle_upd ?_ (by first | rfl | (simp only [upd_app, killS_app, A.kill, entry_zero, entry_succ, Nat.reduceEqDiff, reduceIte, List.length_map]; done)))
              case round3 =>
                intro k3 hk3
                repeat (first | refine W.seq ?_ | refine W.block ?_ | refine W.skip ?_ | refine W.exit ?_ | refine W.region tab_ok 0 (by decide) (exec_run (by simp only [exa, beq_self_eq_true, ByteArray.size, Nat.reduceAdd, Nat.reduceLeDiff, Nat.reduceEqDiff, Nat.reduceMul, Int.reduceToNat, reduceIte, Int.reduceLE, Int.reduceNeg]; rfl)) ?_)
                refine W.cond rfl ?_ ?_
                · intro hlt3
                  simp only [decide_eq_true_eq, Int.ofNat_lt] at hlt3
                  obtain ⟨me, hxk3⟩ : ∃ me, cme[k3]? = some me := ⟨_, List.getElem?_eq_getElem hlt3⟩
                  have htk3 := flatX_take methX hxk3
                  have hle3 := flatX_le methX cme (k3 + 1)
                  rw [hMX] at hle3
                  have hln3 := congrArg List.length htk3
                  simp only [List.length_append] at hln3
                  have hat3 := at_map (f := cMethod) hxk3
                  have hmm := List.mem_of_getElem? hxk3
                  have hmB := hmb me hmm
                  have hmc := sumX_mem cntM cme me hmm
                  obtain ⟨mty, mnm, ps, bd⟩ := me
                  simp only [cMethod] at hat3
                  unfold methodB at hmB
                  simp only [Bool.and_eq_true, decide_eq_true_eq, List.all_eq_true] at hmB
                  obtain ⟨⟨⟨-, hp4⟩, hpB⟩, hbB⟩ := hmB
                  simp only [cntM] at hmc
                  have hmx : methX ⟨mty, mnm, ps, bd⟩ = [9] ++ txtB [mty, ⟨#[32]⟩, mnm, ⟨#[40]⟩, ⟨(commaX (ps.map slotX)).toArray⟩, ⟨#[41, 32]⟩] ++ brcX 1 (stmtsX bd 2) ++ txtB [⟨#[10]⟩] := by simp [methX, txtB]
                  obtain ⟨CX, hCX⟩ : ∃ CX, commaX (ps.map slotX) = CX := ⟨_, rfl⟩
                  have hCl : CX.length ≤ 140 := by
                    have := commaX_len (ps.map slotX) (fun x hx => by
                      obtain ⟨s, hs, rfl⟩ := List.mem_map.1 hx
                      exact slotX_len (hpB s hs))
                    rw [List.length_map, hCX] at this
                    omega
                  rw [hmx, hCX] at htk3 hln3
                  simp only [List.length_append, List.length_cons, List.length_nil] at hln3
                  obtain ⟨B5, hB5⟩ : ∃ B5, B3 ++ FX ++ (cme.take k3).flatMap methX = B5 := ⟨_, rfl⟩
                  have hl5 : B5.length = B3.length + FX.length + ((cme.take k3).flatMap methX).length := by rw [← hB5, List.length_append, List.length_append]
                  rw [hB5]
                  have h11n : ∀ u t bs, pgM M7 21 300 u t bs 11 = none := fun u t bs => pgM_none hp7 hN11
                  have h77n : ∀ u t bs, pgM M7 21 300 u t bs 77 = none := fun u t bs => pgM_none hp7 hN77
                  have q1 : ps.length * 16 ≤ 140737488355328 := by omega
                  have q2 : (ps.length : Int) ≤ 9223372036854775807 := by omega
                  have q0 : (0 : Int) ≤ (ps.length : Int) := by omega
                  repeat (first | refine W.seq ?_ | refine W.block ?_ | refine W.skip ?_ | refine W.exit ?_ | refine W.region tab_ok 0 (by decide) (exec_run (by simp only [exa, beq_self_eq_true, ByteArray.size, Nat.reduceAdd, Nat.reduceLeDiff, Nat.reduceEqDiff, Nat.reduceMul, Int.reduceToNat, reduceIte, Int.reduceLE, Int.reduceNeg, hat3, h11n, h77n, List.length_map, Int.toNat_natCast, q1, q2, q0, and_self]; rfl)) ?_)
                  simp only [upd_upd]
                  rw [← pgM_upd (by decide) (by decide)]
                  obtain ⟨M11, hM11d⟩ : ∃ M11, M11 = upd M7 11 (some (.box 62 [.c (.str mty), .c (.str mnm), .c (.sl (ps.map cSlot)), .c (.sl (cStmts bd))])) := ⟨_, rfl⟩
                  rw [← hM11d]
                  have hp11 : PgAt M11 21 300 false 0 [] := by rw [hM11d]; exact hp7.new hN11 rfl
                  have hm11 : ∀ u t bs, pgM M11 21 300 u t bs 11 = some (.box 62 [.c (.str mty), .c (.str mnm), .c (.sl (ps.map cSlot)), .c (.sl (cStmts bd))]) := fun u t bs => by rw [pgM_at (by decide) (by decide), hM11d, upd_same]
                  have hN1 : M11 14 = none ∧ M11 77 = none := by rw [hM11d]; exact ⟨hN14, hN77⟩
                  obtain ⟨hN14', hN77'⟩ := hN1
                  have hf11 : ∀ d, M11 (400 + d) = none := fun d => by rw [hM11d, upd_ne _ _ (by omega)]; exact hf7 d
                  have hv11 : (M11 1).isSome = true ∧ (M11 7).isSome = true ∧ (M11 11).isSome = true := by rw [hM11d]; exact ⟨hv1, hv7, rfl⟩
                  obtain ⟨hv1', hv7', hv11'⟩ := hv11
                  have hWF11 : ∀ u t bs, WFm (pgM M11 21 300 u t bs) := fun u t bs => by
                    rw [hM11d, pgM_upd (by decide) (by decide)]
                    exact mwf_some (hWF7 u t bs) (fun i hi => by simp [O.ids, A.ids] at hi)
                  have off11 : ∀ u t bs, MLe (pgM M11 21 300 u t bs) (pgM M7 21 300 u t bs) := fun u t bs => by
                    rw [hM11d, pgM_upd (by decide) (by decide)]
                    exact mle_off (pgM_none hp7 hN11)
                  clear hM11d
                  have h77m : ∀ u t bs, pgM M11 21 300 u t bs 77 = none := fun u t bs => pgM_none hp11 hN77'
                  have h14n : ∀ u t bs, pgM M11 21 300 u t bs 14 = none := fun u t bs => pgM_none hp11 hN14'
                  refine W.loop (ι := Nat) (fun k4 => ⟨upd (upd (upd (upd (upd (upd (upd (upd (upd (upd (upd (upd (upd (upd (fun _ => .top) 1 (.ptr 1 0)) 5 (.ptr 21 0)) 7 (.ptr 7 0)) 11 (.ptr 11 0)) 12 (.own 77)) 23 (.c (.sl (cs.map cClass)))) 24 (.c (.int .i64 cs.length))) 25 (.c (.int .i64 k))) 68 (.c (.sl (cme.map cMethod)))) 69 (.c (.int .i64 cme.length))) 70 (.c (.int .i64 k3))) 79 (.c (.sl (ps.map cSlot)))) 80 (.c (.int .i64 ps.length))) 81 (.c (.int .i64 k4)), upd (pgM M11 21 300 true 1 B5) 77 (some (.mrow 9 1 (rowP ps k4)))⟩) (fun k4 => k4 ≤ ps.length) (fun k4 => ps.length - k4) 0 ?start4 (Nat.zero_le _) ?round4
                  case start4 =>
                    refine le_mk ?sle ?mle ?swf ?mwf (fun i hi => absurd hi (by rw [hkeep]; exact id)) (by rfl)
                    case swf =>
                      repeat (first | exact swf_top _ | refine swf_upd ?_ (by simp [A.ids, pgM, upd_app, hv1', hv7', hv11']))
                    case mwf => exact mwf_some (hWF11 _ _ _) (fun i hi => by simp [O.ids] at hi)
                    case mle => rw [rowP_zero]; exact mle_refl _
                    case sle =>
                      repeat (first | exact sle_top _ | exact sle_refl _ | refine sle_upd ?_ (by first | rfl | (simp only [upd_app, killS_app, A.kill, entry_zero, entry_succ, Nat.reduceEqDiff, reduceIte, List.length_map]; done)))
                  case round4 =>
                    intro k4 hk4
                    have hrl := rowP_len hk4
                    repeat (first | refine W.seq ?_ | refine W.block ?_ | refine W.skip ?_ | refine W.exit ?_ | refine W.region tab_ok 0 (by decide) (exec_run (by simp only [exa, beq_self_eq_true, ByteArray.size, Nat.reduceAdd, Nat.reduceLeDiff, Nat.reduceEqDiff, Nat.reduceMul, Int.reduceToNat, reduceIte, Int.reduceLE, Int.reduceNeg]; rfl)) ?_)
                    refine W.cond rfl ?_ ?_
                    · intro hlt4
                      simp only [decide_eq_true_eq, Int.ofNat_lt] at hlt4
                      obtain ⟨f, hxk4⟩ : ∃ f, ps[k4]? = some f := ⟨_, List.getElem?_eq_getElem hlt4⟩
                      have hset := rowP_set hxk4
                      have hat4 := at_map (f := cSlot) hxk4
                      have hfl4 := slotX_len (hpB f (List.mem_of_getElem? hxk4))
                      obtain ⟨fty, fnm⟩ := f
                      obtain ⟨tyl, rfl⟩ : ∃ nl, fty = strX nl := ⟨_, strX_of fty⟩
                      obtain ⟨nml, rfl⟩ : ∃ nl, fnm = strX nl := ⟨_, strX_of fnm⟩
                      have hsx : slotX ⟨strX tyl, strX nml⟩ = tyl ++ [32] ++ nml := by simp [slotX, strX]
                      rw [hsx] at hset hfl4
                      simp only [List.length_append, List.length_cons, List.length_nil] at hfl4
                      simp only [cSlot] at hat4
                      repeat (first | refine W.seq ?_ | refine W.block ?_ | refine W.skip ?_ | refine W.exit ?_ | refine W.region tab_ok 0 (by decide) (exec_run (by simp only [exa, beq_self_eq_true, ByteArray.size, Nat.reduceAdd, Nat.reduceLeDiff, Nat.reduceEqDiff, Nat.reduceMul, Int.reduceToNat, reduceIte, Int.reduceLE, Int.reduceNeg, hat4, h14n]; rfl)) ?_)
                      have k40 : (0 : Int) ≤ (k4 : Int) := by omega
                      refine W.regionK tab_ok 0 (by decide) ?_
                      refine runk_exec (by simp (disch := omega) only [exa, beq_self_eq_true, ByteArray.size, Nat.reduceAdd, Nat.reduceLeDiff, Nat.reduceEqDiff, Nat.reduceMul, Int.reduceToNat, reduceIte, Int.reduceLE, Int.reduceNeg, app_bytes, if_le, List.length_append, List.length_cons, List.length_nil, Int.toNat_natCast, hrl, hlt4, k40, and_self, rowP_at hlt4, List.drop_succ_cons, List.drop_nil, hset, if_true]; rfl) ?_
                      repeat (first | refine W.seq ?_ | refine W.block ?_ | refine W.skip ?_ | refine W.exit ?_ | refine W.region tab_ok 0 (by decide) (exec_run (by simp only [exa, beq_self_eq_true, ByteArray.size, Nat.reduceAdd, Nat.reduceLeDiff, Nat.reduceEqDiff, Nat.reduceMul, Int.reduceToNat, reduceIte, Int.reduceLE, Int.reduceNeg]; rfl)) ?_)
                      refine ⟨k4 + 1, hlt4, by omega, ?_⟩
                      refine le_mk ?sle ?mle ?swf ?mwf (fun i hi => absurd hi (by rw [hkeep]; exact id)) (by rfl)
                      case swf =>
                        repeat (first | exact swf_top _ | refine swf_upd ?_ (by simp [A.ids, pgM, upd_app, hv1', hv7', hv11']))
                      case mwf => exact mwf_some (hWF11 _ _ _) (fun i hi => by simp [O.ids] at hi)
                      case mle =>
                        intro i
                        by_cases e1 : i = 77
                        · subst e1; exact .inr rfl
                        by_cases e2 : i = 14
                        · subst e2; exact .inl (by simp only [upd_app, Nat.reduceEqDiff, if_false]; exact h14n _ _ _)
                        · exact .inr (by simp only [upd_app, e1, e2, if_false])
                      case sle =>
                        repeat (first | exact sle_top _ | exact sle_refl _ | refine sle_upd ?_ (by first | rfl | (simp only [upd_app, killS_app, A.kill, entry_zero, entry_succ, Nat.reduceEqDiff, reduceIte, wrap_succ (show k4 + 1 < 9223372036854775808 by omega)]; done)))
                    · intro hge4
                      simp only [decide_eq_false_iff_not, Int.ofNat_lt] at hge4
                      obtain rfl : k4 = ps.length := by omega
                      rw [rowP_all]
                      rw [← pgM_upd (by decide) (by decide)]
                      obtain ⟨M77, hM77d⟩ : ∃ M77, M77 = upd M11 77 (some (.mrow 9 1 ((ps.map fun s => (⟨(slotX s).toArray⟩ : ByteArray)).map cStr))) := ⟨_, rfl⟩
                      rw [← hM77d]
                      have hp77 : PgAt M77 21 300 false 0 [] := by rw [hM77d]; exact hp11.new hN77' rfl
                      have hm77 : ∀ u t bs, pgM M77 21 300 u t bs 11 = some (.box 62 [.c (.str mty), .c (.str mnm), .c (.sl (ps.map cSlot)), .c (.sl (cStmts bd))]) := fun u t bs => by
                        rw [pgM_at (by decide) (by decide), hM77d, upd_ne _ _ (by decide)]
                        have := hm11 true 0 []
                        rwa [pgM_at (by decide) (by decide)] at this
                      have hr77 : ∀ u t bs, pgM M77 21 300 u t bs 77 = some (.mrow 9 1 ((ps.map fun s => (⟨(slotX s).toArray⟩ : ByteArray)).map cStr)) := fun u t bs => by rw [pgM_at (by decide) (by decide), hM77d, upd_same]
                      have hf77 : ∀ d, M77 (400 + d) = none := fun d => by rw [hM77d, upd_ne _ _ (by omega)]; exact hf11 d
                      have off77 : ∀ u t bs, MLe (pgM M77 21 300 u t bs) (pgM M11 21 300 u t bs) := fun u t bs => by
                        rw [hM77d, pgM_upd (by decide) (by decide)]
                        exact mle_off (pgM_none hp11 hN77')
                      clear hM77d
                      have hjl : (ps.map fun s => (⟨(slotX s).toArray⟩ : ByteArray)).map (fun s => s.data.toList) = ps.map slotX := by rw [List.map_map]; exact List.map_congr_left fun s _ => by simp
                      have hjo := fun m => join_ok (ps.map fun s => (⟨(slotX s).toArray⟩ : ByteArray)) (by rw [List.length_map]; omega) (by rw [hjl, hCX]; omega) m
                      rw [hjl, hCX] at hjo
                      have hli := line1 (hp77.pgM (u' := true) (t' := 1) (bs' := B5)) [mty, ⟨#[32]⟩, mnm, ⟨#[40]⟩, ⟨CX.toArray⟩, ⟨#[41, 32]⟩] (by simp) (by omega)
                      rw [pgM_pgM (by decide)] at hli
                      obtain ⟨B6, hB6⟩ : ∃ B6, B5 ++ [9] ++ txtB [mty, ⟨#[32]⟩, mnm, ⟨#[40]⟩, ⟨CX.toArray⟩, ⟨#[41, 32]⟩] = B6 := ⟨_, rfl⟩
                      have hl6 : B6.length = B5.length + 1 + (txtB [mty, ⟨#[32]⟩, mnm, ⟨#[40]⟩, ⟨CX.toArray⟩, ⟨#[41, 32]⟩]).length := by rw [← hB6, List.length_append, List.length_append]; rfl
                      rw [hB6] at hli
                      have ht10 : (txtB [(⟨#[10]⟩ : ByteArray)]).length = 1 := rfl
                      have hl7 : (B6 ++ brcX 1 (stmtsX bd 2)).length + 1 ≤ 10000000000000 := by rw [List.length_append]; omega
                      have hmS : ∀ x ∈ bd, StmtAt x := fun x hx => stmt_at _ x (Nat.le_refl _) (hbB x hx) (by have := cntS_mem hx; omega)
                      have hbdl := cntSs_len bd
                      have hbk := block1 (hp77.pgM (u' := true) (t' := 1) (bs' := B6)) (b := 400) (fun d => pgM_none hp77 (hf77 d)) bd hmS (by omega) (by omega)
                      rw [pgM_pgM (by decide)] at hbk
                      (repeat (first | refine W.seq ?_ | refine W.block ?_ | refine W.skip ?_ | refine W.exit ?_))
                      refine W.regionDK tab_ok 0 follows_mixed (by kernel_rfl) (by decide) ?_
                      refine runk_split 6 (by simp only [exa, beq_self_eq_true, ByteArray.size, Nat.reduceAdd, Nat.reduceLeDiff, Nat.reduceEqDiff, Nat.reduceMul, Int.reduceToNat, reduceIte, Int.reduceLE, Int.reduceNeg, hm77]; rfl) ?_
                      refine runk_callR rfl rfl rfl rfl rfl (by simp) (cvrs_cons (cvr_row (hr77 true 1 B5)) (cvrs_cons cvr_refl cvrs_nil)) (by rfl) (by rfl) hjo ?_
                      refine runk_split 1 (by simp only [exa, beq_self_eq_true, ByteArray.size, Nat.reduceAdd, Nat.reduceLeDiff, Nat.reduceEqDiff, Nat.reduceMul, Int.reduceToNat, reduceIte, Int.reduceLE, Int.reduceNeg, killS_app, A.kill, Nat.reduceEqDiff, if_false, reduceIte, hm77]; rfl) ?_
                      refine runk_callE (D := [300]) rfl rfl rfl rfl rfl (fun i hi => by rw [hkeep]; exact id) (by simp) (by first | exact cvs_cons cv_refl (cvs_cons cv_refl cvs_nil) | exact cvs_cons cv_refl cvs_nil) hli ?_
                      simp only [killL, putS]
                      refine runk_exec (by simp only [exa, beq_self_eq_true, ByteArray.size, Nat.reduceAdd, Nat.reduceLeDiff, Nat.reduceEqDiff, Nat.reduceMul, Int.reduceToNat, reduceIte, Int.reduceLE, Int.reduceNeg]; rfl) ?_
                      (repeat (first | refine W.seq ?_ | refine W.block ?_ | refine W.skip ?_ | refine W.exit ?_))
                      refine W.regionK tab_ok 0 (by decide) ?_
                      refine runk_split 3 (by simp only [exa, beq_self_eq_true, ByteArray.size, Nat.reduceAdd, Nat.reduceLeDiff, Nat.reduceEqDiff, Nat.reduceMul, Int.reduceToNat, reduceIte, Int.reduceLE, Int.reduceNeg, killS_app, A.kill, Nat.reduceEqDiff, if_false, reduceIte, hm77]; rfl) ?_
                      refine runk_callE (D := [300]) rfl rfl rfl rfl rfl (fun i hi => by rw [hkeep]; exact id) (by simp) (by first | exact cvs_cons cv_refl (cvs_cons cv_refl cvs_nil) | exact cvs_cons cv_refl cvs_nil) hbk ?_
                      simp only [killL, putS]
                      refine runk_exec (by simp only [exa, beq_self_eq_true, ByteArray.size, Nat.reduceAdd, Nat.reduceLeDiff, Nat.reduceEqDiff, Nat.reduceMul, Int.reduceToNat, reduceIte, Int.reduceLE, Int.reduceNeg]; rfl) ?_
                      (repeat (first | refine W.seq ?_ | refine W.block ?_ | refine W.skip ?_ | refine W.exit ?_))
                      refine W.regionK tab_ok 0 (by decide) ?_
                      have hly := lay_ok (hp77.pgM (u' := true) (t' := 1) (bs' := B6 ++ brcX 1 (stmtsX bd 2))) [⟨#[10]⟩] (by decide) (by rw [ht10]; omega)
                      rw [pgM_pgM (by decide), show layU true [(⟨#[10]⟩ : ByteArray)] = true from rfl] at hly
                      refine runk_split 2 (by simp only [exa, beq_self_eq_true, ByteArray.size, Nat.reduceAdd, Nat.reduceLeDiff, Nat.reduceEqDiff, Nat.reduceMul, Int.reduceToNat, reduceIte, Int.reduceLE, Int.reduceNeg, killS_app, A.kill, Nat.reduceEqDiff, if_false, reduceIte]; rfl) ?_
                      refine runk_callE (D := [300]) rfl rfl rfl rfl rfl (fun i hi => by rw [hkeep]; exact id) (by simp) (by first | exact cvs_cons cv_refl (cvs_cons cv_refl cvs_nil) | exact cvs_cons cv_refl cvs_nil) hly ?_
                      simp only [killL, putS]
                      refine runk_exec (by simp only [exa, beq_self_eq_true, ByteArray.size, Nat.reduceAdd, Nat.reduceLeDiff, Nat.reduceEqDiff, Nat.reduceMul, Int.reduceToNat, reduceIte, Int.reduceLE, Int.reduceNeg]; rfl) ?_
                      repeat (first | refine W.seq ?_ | refine W.block ?_ | refine W.skip ?_ | refine W.exit ?_ | refine W.region tab_ok 0 (by decide) (exec_run (by simp only [exa, beq_self_eq_true, ByteArray.size, Nat.reduceAdd, Nat.reduceLeDiff, Nat.reduceEqDiff, Nat.reduceMul, Int.reduceToNat, reduceIte, Int.reduceLE, Int.reduceNeg, killS_app, A.kill, Nat.reduceEqDiff, if_false, reduceIte]; rfl)) ?_)
                      refine ⟨k3 + 1, hlt3, by omega, ?_⟩
                      refine le_mk ?sle ?mle ?swf ?mwf (fun i hi => absurd hi (by rw [hkeep]; exact id)) (by rfl)
                      case swf =>
                        repeat (first | exact swf_top _ | refine swf_upd ?_ (by simp [A.ids, pgM, upd_app, hv1, hv7]))
                      case mwf => exact hWF7 _ _ _
                      case mle =>
                        refine mle_eq (congrArg (pgM M7 21 300 true 1) ?_) (fun i => ?_) (a := pgM M7 21 300 true 1 (B6 ++ brcX 1 (stmtsX bd 2) ++ txtB [⟨#[10]⟩]))
                        · rw [htk3, ← hB6, ← hB5]; simp [List.append_assoc]
                        · rcases off11 true 1 (B6 ++ brcX 1 (stmtsX bd 2) ++ txtB [⟨#[10]⟩]) i with e | e
                          · exact .inl e
                          · rcases off77 true 1 (B6 ++ brcX 1 (stmtsX bd 2) ++ txtB [⟨#[10]⟩]) i with e2 | e2
                            · exact .inl (e.trans e2)
                            · exact .inr (e.trans e2)
                      case sle =>
                        repeat (first | exact sle_top _ | exact sle_refl _ | refine sle_upd ?_ (by first | rfl | (simp only [upd_app, killS_app, A.kill, entry_zero, entry_succ, Nat.reduceEqDiff, reduceIte, wrap_succ (show k3 + 1 < 9223372036854775808 by omega)]; done)))
                · intro hge3
                  simp only [decide_eq_false_iff_not, Int.ofNat_lt] at hge3
                  obtain rfl : k3 = cme.length := by omega
                  rw [List.take_length, hMX]
                  repeat (first | refine W.seq ?_ | refine W.block ?_ | refine W.skip ?_ | refine W.exit ?_ | refine W.region tab_ok 0 (by decide) (exec_run (by simp only [exa, beq_self_eq_true, ByteArray.size, Nat.reduceAdd, Nat.reduceLeDiff, Nat.reduceEqDiff, Nat.reduceMul, Int.reduceToNat, reduceIte, Int.reduceLE, Int.reduceNeg, hpj7, hw2]; rfl)) ?_)
                  rw [tab_up (by decide)]
                  obtain ⟨B9, hB9⟩ : ∃ B9, B3 ++ FX ++ MX = B9 := ⟨_, rfl⟩
                  have hl9 : B9.length = B3.length + FX.length + MX.length := by rw [← hB9, List.length_append, List.length_append]
                  rw [hB9]
                  (repeat (first | refine W.seq ?_ | refine W.block ?_ | refine W.skip ?_ | refine W.exit ?_))
                  refine W.regionK tab_ok 0 (by decide) ?_
                  refine runk_split 2 (by simp only [exa, beq_self_eq_true, ByteArray.size, Nat.reduceAdd, Nat.reduceLeDiff, Nat.reduceEqDiff, Nat.reduceMul, Int.reduceToNat, reduceIte, Int.reduceLE, Int.reduceNeg, killS_app, A.kill, Nat.reduceEqDiff, if_false, reduceIte]; rfl) ?_
                  refine runk_callE (D := [300]) rfl rfl rfl rfl rfl (fun i hi => by rw [hkeep]; exact id) (by simp) (by first | exact cvs_cons cv_refl (cvs_cons cv_refl cvs_nil) | exact cvs_cons cv_refl cvs_nil) (layM hp7 true B9 [⟨#[125, 10]⟩] (by simp) (by simp) (by simp [txtB]; omega)) ?_
                  simp only [killL, putS]
                  refine runk_exec (by simp only [exa, beq_self_eq_true, ByteArray.size, Nat.reduceAdd, Nat.reduceLeDiff, Nat.reduceEqDiff, Nat.reduceMul, Int.reduceToNat, reduceIte, Int.reduceLE, Int.reduceNeg]; rfl) ?_
                  repeat (first | refine W.seq ?_ | refine W.block ?_ | refine W.skip ?_ | refine W.exit ?_ | refine W.region tab_ok 0 (by decide) (exec_run (by simp only [exa, beq_self_eq_true, ByteArray.size, Nat.reduceAdd, Nat.reduceLeDiff, Nat.reduceEqDiff, Nat.reduceMul, Int.reduceToNat, reduceIte, Int.reduceLE, Int.reduceNeg, killS_app, A.kill, Nat.reduceEqDiff, if_false, reduceIte]; rfl)) ?_)
                  refine ⟨k + 1, hlt, by omega, ?_⟩
                  rw [show decide (0 < k + 1) = true by simp]
                  refine le_mk ?sle ?mle ?swf ?mwf (fun i hi => absurd hi (by rw [hkeep]; exact id)) (by rfl)
                  case swf =>
                    repeat (first | exact swf_top _ | refine swf_upd ?_ (by simp [A.ids, pgM, upd_app, hM1]))
                  case mwf => exact hWF _ _ _
                  case mle => exact mle_eq (congrArg (pgM M 21 300 true 0) (by rw [htk, ← hB9, ← hB3, ← hB2, ← hB1]; simp [txtB, List.append_assoc])) (off7 _ _ _)
                  case sle =>
                    repeat (first | exact sle_top _ | exact sle_refl _ | refine sle_upd ?_ (by first | rfl | (simp only [upd_app, killS_app, A.kill, entry_zero, entry_succ, Nat.reduceEqDiff, reduceIte, wrap_succ (show k + 1 < 9223372036854775808 by omega)]; done)))
      · intro hge
        simp only [decide_eq_false_iff_not, Int.ofNat_lt] at hge
        obtain rfl : k = cs.length := by omega
        rw [List.take_length]
        obtain ⟨u0, hu0⟩ : ∃ u0, decide (0 < cs.length) = u0 := ⟨_, rfl⟩
        obtain ⟨B0, hB0⟩ : ∃ B0, cs.flatMap classX = B0 := ⟨_, rfl⟩
        rw [hu0, hB0]
        rw [hB0] at hpl
        have hmS : ∀ x ∈ mn, StmtAt x := fun x hx => stmt_at _ x (Nat.le_refl _) (hbM x hx) (by have := cntS_mem hx; omega)
        have hml := cntSs_len mn
        repeat (first | refine W.seq ?_ | refine W.block ?_ | refine W.skip ?_ | refine W.exit ?_ | refine W.region tab_ok 0 (by decide) (exec_run (by simp only [exa, beq_self_eq_true, ByteArray.size, Nat.reduceAdd, Nat.reduceLeDiff, Nat.reduceEqDiff, Nat.reduceMul, Int.reduceToNat, reduceIte, Int.reduceLE, Int.reduceNeg]; rfl)) ?_)
        (repeat (first | refine W.seq ?_ | refine W.block ?_ | refine W.skip ?_ | refine W.exit ?_))
        refine W.regionK tab_ok 0 (by decide) ?_
        refine runk_split 2 (by simp only [exa, beq_self_eq_true, ByteArray.size, Nat.reduceAdd, Nat.reduceLeDiff, Nat.reduceEqDiff, Nat.reduceMul, Int.reduceToNat, reduceIte, Int.reduceLE, Int.reduceNeg, killS_app, A.kill, Nat.reduceEqDiff, if_false, reduceIte]; rfl) ?_
        refine runk_callE (D := [300]) rfl rfl rfl rfl rfl (fun i hi => by rw [hkeep]; exact id) (by simp) (by first | exact cvs_cons cv_refl (cvs_cons cv_refl cvs_nil) | exact cvs_cons cv_refl cvs_nil) (layM hp u0 B0 [⟨#[109, 97, 105, 110, 32]⟩] (by simp) (by simp) (by simp [txtB]; omega)) ?_
        simp only [killL, putS]
        refine runk_exec (by simp only [exa, beq_self_eq_true, ByteArray.size, Nat.reduceAdd, Nat.reduceLeDiff, Nat.reduceEqDiff, Nat.reduceMul, Int.reduceToNat, reduceIte, Int.reduceLE, Int.reduceNeg]; rfl) ?_
        have hb0 := block0 (hp.pgM (u' := true) (t' := 0) (bs' := B0 ++ txtB [⟨#[109, 97, 105, 110, 32]⟩])) (b := 400) (fun d => pgM_none hp (hf d)) mn hmS (by omega) (by simp [txtB]; omega)
        rw [pgM_pgM (by decide)] at hb0
        (repeat (first | refine W.seq ?_ | refine W.block ?_ | refine W.skip ?_ | refine W.exit ?_))
        refine W.regionK tab_ok 0 (by decide) ?_
        refine runk_split 3 (by simp only [exa, beq_self_eq_true, ByteArray.size, Nat.reduceAdd, Nat.reduceLeDiff, Nat.reduceEqDiff, Nat.reduceMul, Int.reduceToNat, reduceIte, Int.reduceLE, Int.reduceNeg, killS_app, A.kill, Nat.reduceEqDiff, if_false, reduceIte, hpj]; rfl) ?_
        refine runk_callE (D := [300]) rfl rfl rfl rfl rfl (fun i hi => by rw [hkeep]; exact id) (by simp) (by first | exact cvs_cons cv_refl (cvs_cons cv_refl cvs_nil) | exact cvs_cons cv_refl cvs_nil) hb0 ?_
        simp only [killL, putS]
        refine runk_exec (by simp only [exa, beq_self_eq_true, ByteArray.size, Nat.reduceAdd, Nat.reduceLeDiff, Nat.reduceEqDiff, Nat.reduceMul, Int.reduceToNat, reduceIte, Int.reduceLE, Int.reduceNeg]; rfl) ?_
        (repeat (first | refine W.seq ?_ | refine W.block ?_ | refine W.skip ?_ | refine W.exit ?_))
        refine W.regionK tab_ok 0 (by decide) ?_
        refine runk_split 2 (by simp only [exa, beq_self_eq_true, ByteArray.size, Nat.reduceAdd, Nat.reduceLeDiff, Nat.reduceEqDiff, Nat.reduceMul, Int.reduceToNat, reduceIte, Int.reduceLE, Int.reduceNeg, killS_app, A.kill, Nat.reduceEqDiff, if_false, reduceIte]; rfl) ?_
        refine runk_callE (D := [300]) rfl rfl rfl rfl rfl (fun i hi => by rw [hkeep]; exact id) (by simp) (by first | exact cvs_cons cv_refl (cvs_cons cv_refl cvs_nil) | exact cvs_cons cv_refl cvs_nil) (layM hp true (B0 ++ txtB [⟨#[109, 97, 105, 110, 32]⟩] ++ brcX 0 (stmtsX mn 1)) [⟨#[10]⟩] (by simp) (by simp) (by simp [txtB]; omega)) ?_
        simp only [killL, putS]
        refine runk_exec (by simp only [exa, beq_self_eq_true, ByteArray.size, Nat.reduceAdd, Nat.reduceLeDiff, Nat.reduceEqDiff, Nat.reduceMul, Int.reduceToNat, reduceIte, Int.reduceLE, Int.reduceNeg]; rfl) ?_
        have hPX : B0 ++ txtB [⟨#[109, 97, 105, 110, 32]⟩] ++ brcX 0 (stmtsX mn 1) ++ txtB [⟨#[10]⟩] = progX ⟨cs, mn⟩ := by rw [← hB0]; simp [txtB, progX, List.append_assoc]
        rw [hPX]
        have hd := done_ok (hp.pgM (u' := true) (t' := 0) (bs' := progX ⟨cs, mn⟩)) (by simp [progX]) (by omega)
        (repeat (first | refine W.seq ?_ | refine W.block ?_ | refine W.skip ?_ | refine W.exit ?_))
        refine W.regionK tab_ok 0 (by decide) ?_
        refine runk_split 1 (by simp only [exa, beq_self_eq_true, ByteArray.size, Nat.reduceAdd, Nat.reduceLeDiff, Nat.reduceEqDiff, Nat.reduceMul, Int.reduceToNat, reduceIte, Int.reduceLE, Int.reduceNeg, killS_app, A.kill, Nat.reduceEqDiff, if_false, reduceIte]; rfl) ?_
        refine runk_callE (D := []) rfl rfl rfl rfl rfl (fun j hj => by simp at hj) (by simp) (cvs_cons cv_refl cvs_nil) hd ?_
        simp only [killL, putS]
        unfold pgDoneR
        by_cases hl : 8192 < (progX ⟨cs, mn⟩).length
        · rw [if_pos hl]
          refine runk_exec (by simp only [exa, beq_self_eq_true, ByteArray.size, Nat.reduceAdd, Nat.reduceLeDiff, Nat.reduceEqDiff, Nat.reduceMul, Int.reduceToNat, reduceIte, Int.reduceLE, Int.reduceNeg]; rfl) ?_
          repeat (first | refine W.seq ?_ | refine W.block ?_ | refine W.skip ?_ | refine W.exit ?_ | refine W.region tab_ok 0 (by decide) (exec_run (by simp only [exa, beq_self_eq_true, ByteArray.size, Nat.reduceAdd, Nat.reduceLeDiff, Nat.reduceEqDiff, Nat.reduceMul, Int.reduceToNat, reduceIte, Int.reduceLE, Int.reduceNeg]; rfl)) ?_)
          refine W.ret ⟨.inr rfl, by rfl, ?_⟩
          simp only [Tryd.f10, resA, resOne, toT, fin, exa, beq_self_eq_true, ByteArray.size, Nat.reduceAdd, Nat.reduceLeDiff, Nat.reduceEqDiff, Nat.reduceMul, Int.reduceToNat, reduceIte, Int.reduceLE, Int.reduceNeg]
          simp [textP, hb, hl]
        · rw [if_neg hl]
          refine runk_exec (by simp only [exa, beq_self_eq_true, ByteArray.size, Nat.reduceAdd, Nat.reduceLeDiff, Nat.reduceEqDiff, Nat.reduceMul, Int.reduceToNat, reduceIte, Int.reduceLE, Int.reduceNeg]; rfl) ?_
          repeat (first | refine W.seq ?_ | refine W.block ?_ | refine W.skip ?_ | refine W.exit ?_ | refine W.region tab_ok 0 (by decide) (exec_run (by simp only [exa, beq_self_eq_true, ByteArray.size, Nat.reduceAdd, Nat.reduceLeDiff, Nat.reduceEqDiff, Nat.reduceMul, Int.reduceToNat, reduceIte, Int.reduceLE, Int.reduceNeg]; rfl)) ?_)
          refine W.ret ⟨.inr rfl, by rfl, ?_⟩
          simp only [Tryd.f10, resA, resOne, toT, fin, exa, beq_self_eq_true, ByteArray.size, Nat.reduceAdd, Nat.reduceLeDiff, Nat.reduceEqDiff, Nat.reduceMul, Int.reduceToNat, reduceIte, Int.reduceLE, Int.reduceNeg]
          simp [textP, hb, hl]
end V
end Go.Proofs.YtbmbmcdaabhgnaaDoor
end
section
set_option linter.unusedVariables false
set_option linter.unusedSimpArgs false
namespace Go.Proofs.YtbmbmcdaabhgnaaDoor
namespace V
open Go.RowKit
theorem eqX_comm {α β : Type} {a b : α} {c d : β} (h : a = b ↔ c = d) : eqX a b = eqX c d := by
  by_cases e : a = b
  · rw [eqX_true e, eqX_true (h.1 e)]
  · rw [eqX_false e, eqX_false (fun e2 => e (h.2 e2))]
set_option maxHeartbeats 8000000 in
theorem same_ok (p p' : Program) (hc : cntP p ≤ 1048576) (m : Mem) : COk Tryd.prog 13 [.agg (cProg p), .agg (cProg p')] m (.c (.bool (eqX p p'))) := by
  obtain ⟨cs, mn⟩ := p
  obtain ⟨cs', mn'⟩ := p'
  unfold cntP at hc
  simp only at hc
  have hcl := cntC_len cs
  have hsm := sameS_ok (cntSs mn) mn mn' (Nat.le_refl _) (by omega)
  have hX : eqX (⟨cs, mn⟩ : Program) ⟨cs', mn'⟩ = eqX (cs, mn) (cs', mn') := eqX_comm (by simp)
  rw [hX]
  simp only [cProg]
  refine (ok_pure tab_ok Tryd.func13 (by kernel_rfl) rfl rfl (by rfl) (by rfl) (by rfl) (fun R hkeep => ?_) m)
  repeat (first | refine W.seq ?_ | refine W.block ?_ | refine W.skip ?_ | refine W.exit ?_ | refine W.region tab_ok 0 (by decide) (exec_run (by simp only [exa, beq_self_eq_true, ByteArray.size, Nat.reduceAdd, Nat.reduceLeDiff, Nat.reduceEqDiff, Nat.reduceMul, Int.reduceToNat, reduceIte, Int.reduceLE, Int.reduceNeg]; rfl)) ?_)
  (repeat (first | refine W.seq ?_ | refine W.block ?_ | refine W.skip ?_ | refine W.exit ?_))
  refine W.regionK tab_ok 0 (by decide) ?_
  by_cases hle : cs.length = cs'.length
  case neg =>
    have hle2 : ((cs.length : Int) = (cs'.length : Int)) = False := eq_false (by omega)
    rw [eqX_false (fun e => hle (by rw [(Prod.mk.inj e).1]))]
    refine runk_exec (by simp only [exa, beq_self_eq_true, ByteArray.size, Nat.reduceAdd, Nat.reduceLeDiff, Nat.reduceEqDiff, Nat.reduceMul, Int.reduceToNat, reduceIte, Int.reduceLE, Int.reduceNeg, decide_true, decide_false, Bool.not_true, Bool.not_false, eq_self, bytes_beq, eqX_true rfl, List.length_map, hle2]; rfl) ?_
    (repeat (first | refine W.seq ?_ | refine W.block ?_ | refine W.skip ?_ | refine W.exit ?_))
    refine W.cond rfl (fun _ => ?_) (fun h => absurd h (by decide))
    repeat (first | refine W.seq ?_ | refine W.block ?_ | refine W.skip ?_ | refine W.exit ?_ | refine W.region tab_ok 0 (by decide) (exec_run (by simp only [exa, beq_self_eq_true, ByteArray.size, Nat.reduceAdd, Nat.reduceLeDiff, Nat.reduceEqDiff, Nat.reduceMul, Int.reduceToNat, reduceIte, Int.reduceLE, Int.reduceNeg]; rfl)) ?_)
    refine W.ret ⟨.inr rfl, by rfl, ?_⟩
    simp only [Tryd.f13, resA, resOne, toT, fin, exa, beq_self_eq_true, ByteArray.size, Nat.reduceAdd, Nat.reduceLeDiff, Nat.reduceEqDiff, Nat.reduceMul, Int.reduceToNat, reduceIte, Int.reduceLE, Int.reduceNeg]
  have hle2 : ((cs.length : Int) = (cs'.length : Int)) = True := eq_true (by omega)
  refine runk_split 12 (by simp only [exa, beq_self_eq_true, ByteArray.size, Nat.reduceAdd, Nat.reduceLeDiff, Nat.reduceEqDiff, Nat.reduceMul, Int.reduceToNat, reduceIte, Int.reduceLE, Int.reduceNeg, decide_true, decide_false, Bool.not_true, Bool.not_false, eq_self, bytes_beq, eqX_true rfl, List.length_map, hle2]; rfl) ?_
  refine runk_call rfl rfl rfl rfl rfl (by simp) (cvs_cons cv_refl (cvs_cons cv_refl cvs_nil)) (hsm _) ?_
  by_cases hm : mn = mn'
  case neg =>
    rw [eqX_false hm, eqX_false (fun e => hm (Prod.mk.inj e).2)]
    refine runk_exec (by simp only [exa, beq_self_eq_true, ByteArray.size, Nat.reduceAdd, Nat.reduceLeDiff, Nat.reduceEqDiff, Nat.reduceMul, Int.reduceToNat, reduceIte, Int.reduceLE, Int.reduceNeg, decide_true, decide_false, Bool.not_true, Bool.not_false, eq_self, bytes_beq, eqX_true rfl]; rfl) ?_
    (repeat (first | refine W.seq ?_ | refine W.block ?_ | refine W.skip ?_ | refine W.exit ?_))
    refine W.cond rfl (fun _ => ?_) (fun h => absurd h (by decide))
    repeat (first | refine W.seq ?_ | refine W.block ?_ | refine W.skip ?_ | refine W.exit ?_ | refine W.region tab_ok 0 (by decide) (exec_run (by simp only [exa, beq_self_eq_true, ByteArray.size, Nat.reduceAdd, Nat.reduceLeDiff, Nat.reduceEqDiff, Nat.reduceMul, Int.reduceToNat, reduceIte, Int.reduceLE, Int.reduceNeg]; rfl)) ?_)
    refine W.ret ⟨.inr rfl, by rfl, ?_⟩
    simp only [Tryd.f13, resA, resOne, toT, fin, exa, beq_self_eq_true, ByteArray.size, Nat.reduceAdd, Nat.reduceLeDiff, Nat.reduceEqDiff, Nat.reduceMul, Int.reduceToNat, reduceIte, Int.reduceLE, Int.reduceNeg]
  subst hm
  rw [eqX_true (rfl : mn = mn)]
  have hX2 : eqX (cs, mn) (cs', mn) = eqX cs cs' := eqX_comm (by simp)
  rw [hX2]
  refine runk_exec (by simp only [exa, beq_self_eq_true, ByteArray.size, Nat.reduceAdd, Nat.reduceLeDiff, Nat.reduceEqDiff, Nat.reduceMul, Int.reduceToNat, reduceIte, Int.reduceLE, Int.reduceNeg, decide_true, decide_false, Bool.not_true, Bool.not_false, eq_self, bytes_beq, eqX_true rfl]; rfl) ?_
  (repeat (first | refine W.seq ?_ | refine W.block ?_ | refine W.skip ?_ | refine W.exit ?_))
  refine W.cond rfl (fun h => absurd h (by decide)) (fun _ => ?_)
  repeat (first | refine W.seq ?_ | refine W.block ?_ | refine W.skip ?_ | refine W.exit ?_ | refine W.region tab_ok 0 (by decide) (exec_run (by simp only [exa, beq_self_eq_true, ByteArray.size, Nat.reduceAdd, Nat.reduceLeDiff, Nat.reduceEqDiff, Nat.reduceMul, Int.reduceToNat, reduceIte, Int.reduceLE, Int.reduceNeg, List.length_map]; rfl)) ?_)
  refine W.loop (ι := Nat) (fun k => ⟨upd (upd (upd (upd (upd (fun _ => .top) 2 (.ptr 2 0)) 3 (.ptr 3 0)) 27 (.c (.sl (cs.map cClass)))) 28 (.c (.int .i64 cs.length))) 29 (.c (.int .i64 k)),
    upd (upd Mem.nil 2 (some (.box 33 [.c (.sl (cs.map cClass)), .c (.sl (cStmts mn))]))) 3 (some (.box 33 [.c (.sl (cs'.map cClass)), .c (.sl (cStmts mn))]))⟩) (fun k => k ≤ cs.length ∧ cs.take k = cs'.take k) (fun k => cs.length - k) 0 ?start ⟨Nat.zero_le _, rfl⟩ ?round
  case start =>
    refine le_mk ?sle ?mle ?swf ?mwf ?kept (by rfl)
    case kept => exact kept_not hkeep
    case swf => repeat (first | exact swf_top _ | refine swf_upd ?_ (by simp [A.ids, upd_app]))
    case mwf => repeat (first | exact mwf_nil _ | refine mwf_upd ?_ (by simp [A.ids, O.ids, upd_app]))
    case mle => repeat (first | exact mle_nil _ | exact mle_refl _ | refine mle_upd ?_ (by first | rfl | (simp only [upd_app, killM_app, Nat.reduceEqDiff, reduceIte, List.length_map]; done)))
    case sle => repeat (first | exact sle_top _ | exact sle_refl _ | refine sle_upd ?_ (by first | rfl | (simp only [upd_app, entry_zero, entry_succ, Nat.reduceEqDiff, reduceIte, List.length_map]; done)))
  case round =>
    rintro k ⟨hk, htk⟩
    repeat (first | refine W.seq ?_ | refine W.block ?_ | refine W.skip ?_ | refine W.exit ?_ | refine W.region tab_ok 0 (by decide) (exec_run (by simp only [exa, beq_self_eq_true, ByteArray.size, Nat.reduceAdd, Nat.reduceLeDiff, Nat.reduceEqDiff, Nat.reduceMul, Int.reduceToNat, reduceIte, Int.reduceLE, Int.reduceNeg]; rfl)) ?_)
    refine W.cond rfl ?_ ?_
    · intro hlt
      simp only [decide_eq_true_eq, Int.ofNat_lt] at hlt
      obtain ⟨x, hxk⟩ : ∃ x, cs[k]? = some x := ⟨_, List.getElem?_eq_getElem hlt⟩
      obtain ⟨y, hyk⟩ : ∃ y, cs'[k]? = some y := ⟨_, List.getElem?_eq_getElem (by omega)⟩
      have hat := at_map (f := cClass) hxk
      have hat' := at_map (f := cClass) hyk
      have hcm := sumX_mem cntC cs x (List.mem_of_getElem? hxk)
      obtain ⟨xn, xs, xf, xm⟩ := x
      obtain ⟨yn, ys, yf, ym⟩ := y
      simp only [cntC] at hcm
      have hml := cntM_len xm
      have hslf := sameSl_ok xf yf (by omega)
      simp only [cClass] at hat hat'
      repeat (first | refine W.seq ?_ | refine W.block ?_ | refine W.skip ?_ | refine W.exit ?_ | refine W.region tab_ok 0 (by decide) (exec_run (by simp only [exa, beq_self_eq_true, ByteArray.size, Nat.reduceAdd, Nat.reduceLeDiff, Nat.reduceEqDiff, Nat.reduceMul, Int.reduceToNat, reduceIte, Int.reduceLE, Int.reduceNeg, hat]; rfl)) ?_)
      repeat (first | refine W.seq ?_ | refine W.block ?_ | refine W.skip ?_ | refine W.exit ?_ | refine W.region tab_ok 0 (by decide) (exec_run (by simp only [exa, beq_self_eq_true, ByteArray.size, Nat.reduceAdd, Nat.reduceLeDiff, Nat.reduceEqDiff, Nat.reduceMul, Int.reduceToNat, reduceIte, Int.reduceLE, Int.reduceNeg, hat']; rfl)) ?_)
      (repeat (first | refine W.seq ?_ | refine W.block ?_ | refine W.skip ?_ | refine W.exit ?_))
      refine W.regionK tab_ok 0 (by decide) ?_
      by_cases e1 : xn = yn
      case neg =>
        have hne := eqX_false (ne_at hxk hyk (fun h => e1 (congrArg Class.name h)))
        rw [hne]
        refine runk_exec (by simp only [exa, beq_self_eq_true, ByteArray.size, Nat.reduceAdd, Nat.reduceLeDiff, Nat.reduceEqDiff, Nat.reduceMul, Int.reduceToNat, reduceIte, Int.reduceLE, Int.reduceNeg, decide_true, decide_false, Bool.not_true, Bool.not_false, eq_self, bytes_beq, eqX_true rfl, hat, hat', eqX_false e1]; rfl) ?_
        (repeat (first | refine W.seq ?_ | refine W.block ?_ | refine W.skip ?_ | refine W.exit ?_))
        refine W.cond rfl (fun _ => ?_) (fun h => absurd h (by decide))
        repeat (first | refine W.seq ?_ | refine W.block ?_ | refine W.skip ?_ | refine W.exit ?_ | refine W.region tab_ok 0 (by decide) (exec_run (by simp only [exa, beq_self_eq_true, ByteArray.size, Nat.reduceAdd, Nat.reduceLeDiff, Nat.reduceEqDiff, Nat.reduceMul, Int.reduceToNat, reduceIte, Int.reduceLE, Int.reduceNeg]; rfl)) ?_)
        refine W.ret ⟨.inr rfl, by rfl, ?_⟩
        simp only [Tryd.f13, resA, resOne, toT, fin, exa, beq_self_eq_true, ByteArray.size, Nat.reduceAdd, Nat.reduceLeDiff, Nat.reduceEqDiff, Nat.reduceMul, Int.reduceToNat, reduceIte, Int.reduceLE, Int.reduceNeg]
      subst e1
      by_cases e2 : xs = ys
      case neg =>
        have hne := eqX_false (ne_at hxk hyk (fun h => e2 (congrArg Class.super h)))
        rw [hne]
        refine runk_exec (by simp only [exa, beq_self_eq_true, ByteArray.size, Nat.reduceAdd, Nat.reduceLeDiff, Nat.reduceEqDiff, Nat.reduceMul, Int.reduceToNat, reduceIte, Int.reduceLE, Int.reduceNeg, decide_true, decide_false, Bool.not_true, Bool.not_false, eq_self, bytes_beq, eqX_true rfl, hat, hat', eqX_false e2]; rfl) ?_
        (repeat (first | refine W.seq ?_ | refine W.block ?_ | refine W.skip ?_ | refine W.exit ?_))
        refine W.cond rfl (fun _ => ?_) (fun h => absurd h (by decide))
        repeat (first | refine W.seq ?_ | refine W.block ?_ | refine W.skip ?_ | refine W.exit ?_ | refine W.region tab_ok 0 (by decide) (exec_run (by simp only [exa, beq_self_eq_true, ByteArray.size, Nat.reduceAdd, Nat.reduceLeDiff, Nat.reduceEqDiff, Nat.reduceMul, Int.reduceToNat, reduceIte, Int.reduceLE, Int.reduceNeg]; rfl)) ?_)
        refine W.ret ⟨.inr rfl, by rfl, ?_⟩
        simp only [Tryd.f13, resA, resOne, toT, fin, exa, beq_self_eq_true, ByteArray.size, Nat.reduceAdd, Nat.reduceLeDiff, Nat.reduceEqDiff, Nat.reduceMul, Int.reduceToNat, reduceIte, Int.reduceLE, Int.reduceNeg]
      subst e2
      refine runk_split 17 (by simp only [exa, beq_self_eq_true, ByteArray.size, Nat.reduceAdd, Nat.reduceLeDiff, Nat.reduceEqDiff, Nat.reduceMul, Int.reduceToNat, reduceIte, Int.reduceLE, Int.reduceNeg, decide_true, decide_false, Bool.not_true, Bool.not_false, eq_self, bytes_beq, eqX_true rfl, hat, hat']; rfl) ?_
      refine runk_call rfl rfl rfl rfl rfl (by simp) (cvs_cons cv_refl (cvs_cons cv_refl cvs_nil)) (hslf _) ?_
      by_cases e3 : xf = yf
      case neg =>
        rw [eqX_false e3]
        have hne := eqX_false (ne_at hxk hyk (fun h => e3 (congrArg Class.fields h)))
        rw [hne]
        refine runk_exec (by simp only [exa, beq_self_eq_true, ByteArray.size, Nat.reduceAdd, Nat.reduceLeDiff, Nat.reduceEqDiff, Nat.reduceMul, Int.reduceToNat, reduceIte, Int.reduceLE, Int.reduceNeg, decide_true, decide_false, Bool.not_true, Bool.not_false, eq_self, bytes_beq, eqX_true rfl, hat, hat']; rfl) ?_
        (repeat (first | refine W.seq ?_ | refine W.block ?_ | refine W.skip ?_ | refine W.exit ?_))
        refine W.cond rfl (fun _ => ?_) (fun h => absurd h (by decide))
        repeat (first | refine W.seq ?_ | refine W.block ?_ | refine W.skip ?_ | refine W.exit ?_ | refine W.region tab_ok 0 (by decide) (exec_run (by simp only [exa, beq_self_eq_true, ByteArray.size, Nat.reduceAdd, Nat.reduceLeDiff, Nat.reduceEqDiff, Nat.reduceMul, Int.reduceToNat, reduceIte, Int.reduceLE, Int.reduceNeg]; rfl)) ?_)
        refine W.ret ⟨.inr rfl, by rfl, ?_⟩
        simp only [Tryd.f13, resA, resOne, toT, fin, exa, beq_self_eq_true, ByteArray.size, Nat.reduceAdd, Nat.reduceLeDiff, Nat.reduceEqDiff, Nat.reduceMul, Int.reduceToNat, reduceIte, Int.reduceLE, Int.reduceNeg]
      subst e3
      rw [eqX_true (rfl : xf = xf)]
      by_cases e4 : xm.length = ym.length
      case neg =>
        have e5 : ((xm.length : Int) = (ym.length : Int)) = False := eq_false (by omega)
        have e6 : xm ≠ ym := fun e => e4 (by rw [e])
        have hne := eqX_false (ne_at hxk hyk (fun h => e6 (congrArg Class.methods h)))
        rw [hne]
        refine runk_exec (by simp only [exa, beq_self_eq_true, ByteArray.size, Nat.reduceAdd, Nat.reduceLeDiff, Nat.reduceEqDiff, Nat.reduceMul, Int.reduceToNat, reduceIte, Int.reduceLE, Int.reduceNeg, decide_true, decide_false, Bool.not_true, Bool.not_false, eq_self, bytes_beq, eqX_true rfl, hat, hat', e5, List.length_map]; rfl) ?_
        (repeat (first | refine W.seq ?_ | refine W.block ?_ | refine W.skip ?_ | refine W.exit ?_))
        refine W.cond rfl (fun _ => ?_) (fun h => absurd h (by decide))
        repeat (first | refine W.seq ?_ | refine W.block ?_ | refine W.skip ?_ | refine W.exit ?_ | refine W.region tab_ok 0 (by decide) (exec_run (by simp only [exa, beq_self_eq_true, ByteArray.size, Nat.reduceAdd, Nat.reduceLeDiff, Nat.reduceEqDiff, Nat.reduceMul, Int.reduceToNat, reduceIte, Int.reduceLE, Int.reduceNeg]; rfl)) ?_)
        refine W.ret ⟨.inr rfl, by rfl, ?_⟩
        simp only [Tryd.f13, resA, resOne, toT, fin, exa, beq_self_eq_true, ByteArray.size, Nat.reduceAdd, Nat.reduceLeDiff, Nat.reduceEqDiff, Nat.reduceMul, Int.reduceToNat, reduceIte, Int.reduceLE, Int.reduceNeg]
      have e5 : ((xm.length : Int) = (ym.length : Int)) = True := eq_true (by omega)
      refine runk_exec (by simp only [exa, beq_self_eq_true, ByteArray.size, Nat.reduceAdd, Nat.reduceLeDiff, Nat.reduceEqDiff, Nat.reduceMul, Int.reduceToNat, reduceIte, Int.reduceLE, Int.reduceNeg, decide_true, decide_false, Bool.not_true, Bool.not_false, eq_self, bytes_beq, eqX_true rfl, hat, hat', e5, List.length_map]; rfl) ?_
      (repeat (first | refine W.seq ?_ | refine W.block ?_ | refine W.skip ?_ | refine W.exit ?_))
      refine W.cond rfl (fun h => absurd h (by decide)) (fun _ => ?_)
      repeat (first | refine W.seq ?_ | refine W.block ?_ | refine W.skip ?_ | refine W.exit ?_ | refine W.region tab_ok 0 (by decide) (exec_run (by simp only [exa, beq_self_eq_true, ByteArray.size, Nat.reduceAdd, Nat.reduceLeDiff, Nat.reduceEqDiff, Nat.reduceMul, Int.reduceToNat, reduceIte, Int.reduceLE, Int.reduceNeg, List.length_map]; rfl)) ?_)
      refine W.loop (ι := Nat) (fun k2 => ⟨upd (upd (upd (upd (upd (upd (upd (upd (upd (upd (fun _ => .top) 2 (.ptr 2 0)) 3 (.ptr 3 0)) 6 (.ptr 6 0)) 7 (.ptr 7 0)) 27 (.c (.sl (cs.map cClass)))) 28 (.c (.int .i64 cs.length))) 29 (.c (.int .i64 k))) 69 (.c (.sl (xm.map cMethod)))) 70 (.c (.int .i64 xm.length))) 71 (.c (.int .i64 k2)),
        upd (upd (upd (upd Mem.nil 2 (some (.box 33 [.c (.sl (cs.map cClass)), .c (.sl (cStmts mn))]))) 3 (some (.box 33 [.c (.sl (cs'.map cClass)), .c (.sl (cStmts mn))])))
          6 (some (.box 57 [.c (.str xn), .c (.str xs), .c (.sl (xf.map cSlot)), .c (.sl (xm.map cMethod))]))) 7 (some (.box 57 [.c (.str xn), .c (.str xs), .c (.sl (xf.map cSlot)), .c (.sl (ym.map cMethod))]))⟩) (fun k2 => k2 ≤ xm.length ∧ xm.take k2 = ym.take k2) (fun k2 => xm.length - k2) 0 ?start2 ⟨Nat.zero_le _, rfl⟩ ?round2
      case start2 =>
        refine le_mk ?sle ?mle ?swf ?mwf ?kept (by rfl)
        case kept => exact kept_not hkeep
        case swf => repeat (first | exact swf_top _ | refine swf_upd ?_ (by simp [A.ids, upd_app]))
        case mwf => repeat (first | exact mwf_nil _ | refine mwf_upd ?_ (by simp [A.ids, O.ids, upd_app]))
        case mle => repeat (first | exact mle_nil _ | exact mle_refl _ | refine mle_upd ?_ (by first | rfl | (simp only [upd_app, killM_app, Nat.reduceEqDiff, reduceIte, List.length_map]; done)))
        case sle => repeat (first | exact sle_top _ | exact sle_refl _ | refine sle_upd ?_ (by first | rfl | (simp only [upd_app, entry_zero, entry_succ, Nat.reduceEqDiff, reduceIte, List.length_map]; done)))
      case round2 =>
        rintro k2 ⟨hk2, htk2⟩
        repeat (first | refine W.seq ?_ | refine W.block ?_ | refine W.skip ?_ | refine W.exit ?_ | refine W.region tab_ok 0 (by decide) (exec_run (by simp only [exa, beq_self_eq_true, ByteArray.size, Nat.reduceAdd, Nat.reduceLeDiff, Nat.reduceEqDiff, Nat.reduceMul, Int.reduceToNat, reduceIte, Int.reduceLE, Int.reduceNeg]; rfl)) ?_)
        refine W.cond rfl ?_ ?_
        · intro hlt2
          simp only [decide_eq_true_eq, Int.ofNat_lt] at hlt2
          obtain ⟨a, hak⟩ : ∃ x, xm[k2]? = some x := ⟨_, List.getElem?_eq_getElem hlt2⟩
          obtain ⟨b, hbk⟩ : ∃ y, ym[k2]? = some y := ⟨_, List.getElem?_eq_getElem (by omega)⟩
          have hat2 := at_map (f := cMethod) hak
          have hat2' := at_map (f := cMethod) hbk
          have hcm2 := sumX_mem cntM xm a (List.mem_of_getElem? hak)
          have hneq : a ≠ b → eqX cs cs' = false := fun h => eqX_false (ne_at hxk hyk (fun e => ne_at hak hbk h (congrArg Class.methods e)))
          obtain ⟨at1, an, ap, ab⟩ := a
          obtain ⟨bt, bn, bp, bb⟩ := b
          simp only [cntM] at hcm2
          have hslp := sameSl_ok ap bp (by omega)
          have hsb := sameS_ok (cntSs ab) ab bb (Nat.le_refl _) (by omega)
          simp only [cMethod] at hat2 hat2'
          repeat (first | refine W.seq ?_ | refine W.block ?_ | refine W.skip ?_ | refine W.exit ?_ | refine W.region tab_ok 0 (by decide) (exec_run (by simp only [exa, beq_self_eq_true, ByteArray.size, Nat.reduceAdd, Nat.reduceLeDiff, Nat.reduceEqDiff, Nat.reduceMul, Int.reduceToNat, reduceIte, Int.reduceLE, Int.reduceNeg, hat2]; rfl)) ?_)
          repeat (first | refine W.seq ?_ | refine W.block ?_ | refine W.skip ?_ | refine W.exit ?_ | refine W.region tab_ok 0 (by decide) (exec_run (by simp only [exa, beq_self_eq_true, ByteArray.size, Nat.reduceAdd, Nat.reduceLeDiff, Nat.reduceEqDiff, Nat.reduceMul, Int.reduceToNat, reduceIte, Int.reduceLE, Int.reduceNeg, hat2']; rfl)) ?_)
          (repeat (first | refine W.seq ?_ | refine W.block ?_ | refine W.skip ?_ | refine W.exit ?_))
          refine W.regionK tab_ok 0 (by decide) ?_
          by_cases f1 : at1 = bt
          case neg =>
            rw [hneq (fun e => f1 (congrArg Method.type e))]
            refine runk_exec (by simp only [exa, beq_self_eq_true, ByteArray.size, Nat.reduceAdd, Nat.reduceLeDiff, Nat.reduceEqDiff, Nat.reduceMul, Int.reduceToNat, reduceIte, Int.reduceLE, Int.reduceNeg, decide_true, decide_false, Bool.not_true, Bool.not_false, eq_self, bytes_beq, eqX_true rfl, eqX_false f1]; rfl) ?_
            (repeat (first | refine W.seq ?_ | refine W.block ?_ | refine W.skip ?_ | refine W.exit ?_))
            refine W.cond rfl (fun _ => ?_) (fun h => absurd h (by decide))
            repeat (first | refine W.seq ?_ | refine W.block ?_ | refine W.skip ?_ | refine W.exit ?_ | refine W.region tab_ok 0 (by decide) (exec_run (by simp only [exa, beq_self_eq_true, ByteArray.size, Nat.reduceAdd, Nat.reduceLeDiff, Nat.reduceEqDiff, Nat.reduceMul, Int.reduceToNat, reduceIte, Int.reduceLE, Int.reduceNeg]; rfl)) ?_)
            refine W.ret ⟨.inr rfl, by rfl, ?_⟩
            simp only [Tryd.f13, resA, resOne, toT, fin, exa, beq_self_eq_true, ByteArray.size, Nat.reduceAdd, Nat.reduceLeDiff, Nat.reduceEqDiff, Nat.reduceMul, Int.reduceToNat, reduceIte, Int.reduceLE, Int.reduceNeg]
          subst f1
          by_cases f2 : an = bn
          case neg =>
            rw [hneq (fun e => f2 (congrArg Method.name e))]
            refine runk_exec (by simp only [exa, beq_self_eq_true, ByteArray.size, Nat.reduceAdd, Nat.reduceLeDiff, Nat.reduceEqDiff, Nat.reduceMul, Int.reduceToNat, reduceIte, Int.reduceLE, Int.reduceNeg, decide_true, decide_false, Bool.not_true, Bool.not_false, eq_self, bytes_beq, eqX_true rfl, eqX_false f2]; rfl) ?_
            (repeat (first | refine W.seq ?_ | refine W.block ?_ | refine W.skip ?_ | refine W.exit ?_))
            refine W.cond rfl (fun _ => ?_) (fun h => absurd h (by decide))
            repeat (first | refine W.seq ?_ | refine W.block ?_ | refine W.skip ?_ | refine W.exit ?_ | refine W.region tab_ok 0 (by decide) (exec_run (by simp only [exa, beq_self_eq_true, ByteArray.size, Nat.reduceAdd, Nat.reduceLeDiff, Nat.reduceEqDiff, Nat.reduceMul, Int.reduceToNat, reduceIte, Int.reduceLE, Int.reduceNeg]; rfl)) ?_)
            refine W.ret ⟨.inr rfl, by rfl, ?_⟩
            simp only [Tryd.f13, resA, resOne, toT, fin, exa, beq_self_eq_true, ByteArray.size, Nat.reduceAdd, Nat.reduceLeDiff, Nat.reduceEqDiff, Nat.reduceMul, Int.reduceToNat, reduceIte, Int.reduceLE, Int.reduceNeg]
          subst f2
          refine runk_split 17 (by simp only [exa, beq_self_eq_true, ByteArray.size, Nat.reduceAdd, Nat.reduceLeDiff, Nat.reduceEqDiff, Nat.reduceMul, Int.reduceToNat, reduceIte, Int.reduceLE, Int.reduceNeg, decide_true, decide_false, Bool.not_true, Bool.not_false, eq_self, bytes_beq, eqX_true rfl]; rfl) ?_
          refine runk_call rfl rfl rfl rfl rfl (by simp) (cvs_cons cv_refl (cvs_cons cv_refl cvs_nil)) (hslp _) ?_
          by_cases f3 : ap = bp
          case neg =>
            rw [eqX_false f3, hneq (fun e => f3 (congrArg Method.params e))]
            refine runk_exec (by simp only [exa, beq_self_eq_true, ByteArray.size, Nat.reduceAdd, Nat.reduceLeDiff, Nat.reduceEqDiff, Nat.reduceMul, Int.reduceToNat, reduceIte, Int.reduceLE, Int.reduceNeg, decide_true, decide_false, Bool.not_true, Bool.not_false, eq_self, bytes_beq, eqX_true rfl]; rfl) ?_
            (repeat (first | refine W.seq ?_ | refine W.block ?_ | refine W.skip ?_ | refine W.exit ?_))
            refine W.cond rfl (fun _ => ?_) (fun h => absurd h (by decide))
            repeat (first | refine W.seq ?_ | refine W.block ?_ | refine W.skip ?_ | refine W.exit ?_ | refine W.region tab_ok 0 (by decide) (exec_run (by simp only [exa, beq_self_eq_true, ByteArray.size, Nat.reduceAdd, Nat.reduceLeDiff, Nat.reduceEqDiff, Nat.reduceMul, Int.reduceToNat, reduceIte, Int.reduceLE, Int.reduceNeg]; rfl)) ?_)
            refine W.ret ⟨.inr rfl, by rfl, ?_⟩
            simp only [Tryd.f13, resA, resOne, toT, fin, exa, beq_self_eq_true, ByteArray.size, Nat.reduceAdd, Nat.reduceLeDiff, Nat.reduceEqDiff, Nat.reduceMul, Int.reduceToNat, reduceIte, Int.reduceLE, Int.reduceNeg]
          subst f3
          rw [eqX_true (rfl : ap = ap)]
          refine runk_split 7 (by simp only [exa, beq_self_eq_true, ByteArray.size, Nat.reduceAdd, Nat.reduceLeDiff, Nat.reduceEqDiff, Nat.reduceMul, Int.reduceToNat, reduceIte, Int.reduceLE, Int.reduceNeg, decide_true, decide_false, Bool.not_true, Bool.not_false, eq_self, bytes_beq, eqX_true rfl]; rfl) ?_
          refine runk_call rfl rfl rfl rfl rfl (by simp) (cvs_cons cv_refl (cvs_cons cv_refl cvs_nil)) (hsb _) ?_
          by_cases f4 : ab = bb
          case neg =>
            rw [eqX_false f4, hneq (fun e => f4 (congrArg Method.body e))]
            refine runk_exec (by simp only [exa, beq_self_eq_true, ByteArray.size, Nat.reduceAdd, Nat.reduceLeDiff, Nat.reduceEqDiff, Nat.reduceMul, Int.reduceToNat, reduceIte, Int.reduceLE, Int.reduceNeg, decide_true, decide_false, Bool.not_true, Bool.not_false, eq_self, bytes_beq, eqX_true rfl]; rfl) ?_
            (repeat (first | refine W.seq ?_ | refine W.block ?_ | refine W.skip ?_ | refine W.exit ?_))
            refine W.cond rfl (fun _ => ?_) (fun h => absurd h (by decide))
            repeat (first | refine W.seq ?_ | refine W.block ?_ | refine W.skip ?_ | refine W.exit ?_ | refine W.region tab_ok 0 (by decide) (exec_run (by simp only [exa, beq_self_eq_true, ByteArray.size, Nat.reduceAdd, Nat.reduceLeDiff, Nat.reduceEqDiff, Nat.reduceMul, Int.reduceToNat, reduceIte, Int.reduceLE, Int.reduceNeg]; rfl)) ?_)
            refine W.ret ⟨.inr rfl, by rfl, ?_⟩
            simp only [Tryd.f13, resA, resOne, toT, fin, exa, beq_self_eq_true, ByteArray.size, Nat.reduceAdd, Nat.reduceLeDiff, Nat.reduceEqDiff, Nat.reduceMul, Int.reduceToNat, reduceIte, Int.reduceLE, Int.reduceNeg]
          subst f4
          rw [eqX_true (rfl : ab = ab)]
          refine runk_exec (by simp only [exa, beq_self_eq_true, ByteArray.size, Nat.reduceAdd, Nat.reduceLeDiff, Nat.reduceEqDiff, Nat.reduceMul, Int.reduceToNat, reduceIte, Int.reduceLE, Int.reduceNeg, decide_true, decide_false, Bool.not_true, Bool.not_false, eq_self, bytes_beq, eqX_true rfl]; rfl) ?_
          (repeat (first | refine W.seq ?_ | refine W.block ?_ | refine W.skip ?_ | refine W.exit ?_))
          refine W.cond rfl (fun h => absurd h (by decide)) (fun _ => ?_)
          repeat (first | refine W.seq ?_ | refine W.block ?_ | refine W.skip ?_ | refine W.exit ?_ | refine W.region tab_ok 0 (by decide) (exec_run (by simp only [exa, beq_self_eq_true, ByteArray.size, Nat.reduceAdd, Nat.reduceLeDiff, Nat.reduceEqDiff, Nat.reduceMul, Int.reduceToNat, reduceIte, Int.reduceLE, Int.reduceNeg]; rfl)) ?_)
          refine ⟨k2 + 1, ⟨hlt2, take_next htk2 hak hbk⟩, by omega, ?_⟩
          refine le_mk ?sle ?mle ?swf ?mwf ?kept (by rfl)
          case kept => exact kept_not hkeep
          case swf => repeat (first | exact swf_top _ | refine swf_upd ?_ (by simp [A.ids, upd_app]))
          case mwf => repeat (first | exact mwf_nil _ | refine mwf_upd ?_ (by simp [A.ids, O.ids, upd_app]))
          case mle => repeat (first | exact mle_nil _ | exact mle_refl _ | refine mle_upd ?_ (by first | rfl | (simp only [upd_app, killM_app, Nat.reduceEqDiff, reduceIte, wrap_succ (show k2 + 1 < 9223372036854775808 by omega)]; done)))
          case sle => repeat (first | exact sle_top _ | exact sle_refl _ | refine sle_upd ?_ (by first | rfl | (simp only [upd_app, entry_zero, entry_succ, Nat.reduceEqDiff, reduceIte, wrap_succ (show k2 + 1 < 9223372036854775808 by omega)]; done)))
        · intro hge2
          simp only [decide_eq_false_iff_not, Int.ofNat_lt] at hge2
          obtain rfl : k2 = xm.length := by omega
          have hmm : xm = ym := by rw [List.take_length, e4, List.take_length] at htk2; exact htk2
          subst hmm
          repeat (first | refine W.seq ?_ | refine W.block ?_ | refine W.skip ?_ | refine W.exit ?_ | refine W.region tab_ok 0 (by decide) (exec_run (by simp only [exa, beq_self_eq_true, ByteArray.size, Nat.reduceAdd, Nat.reduceLeDiff, Nat.reduceEqDiff, Nat.reduceMul, Int.reduceToNat, reduceIte, Int.reduceLE, Int.reduceNeg]; rfl)) ?_)
          refine ⟨k + 1, ⟨hlt, take_next htk hxk hyk⟩, by omega, ?_⟩
          refine le_mk ?sle ?mle ?swf ?mwf ?kept (by rfl)
          case kept => exact kept_not hkeep
          case swf => repeat (first | exact swf_top _ | refine swf_upd ?_ (by simp [A.ids, upd_app]))
          case mwf => repeat (first | exact mwf_nil _ | refine mwf_upd ?_ (by simp [A.ids, O.ids, upd_app]))
          case mle => repeat (first | exact mle_nil _ | exact mle_refl _ | refine mle_upd ?_ (by first | rfl | (simp only [upd_app, killM_app, Nat.reduceEqDiff, reduceIte, wrap_succ (show k + 1 < 9223372036854775808 by omega)]; done)))
          case sle => repeat (first | exact sle_top _ | exact sle_refl _ | refine sle_upd ?_ (by first | rfl | (simp only [upd_app, entry_zero, entry_succ, Nat.reduceEqDiff, reduceIte, wrap_succ (show k + 1 < 9223372036854775808 by omega)]; done)))
    · intro hge
      simp only [decide_eq_false_iff_not, Int.ofNat_lt] at hge
      obtain rfl : k = cs.length := by omega
      have : cs = cs' := by rw [List.take_length, hle, List.take_length] at htk; exact htk
      rw [eqX_true this]
      repeat (first | refine W.seq ?_ | refine W.block ?_ | refine W.skip ?_ | refine W.exit ?_ | refine W.region tab_ok 0 (by decide) (exec_run (by simp only [exa, beq_self_eq_true, ByteArray.size, Nat.reduceAdd, Nat.reduceLeDiff, Nat.reduceEqDiff, Nat.reduceMul, Int.reduceToNat, reduceIte, Int.reduceLE, Int.reduceNeg]; rfl)) ?_)
      refine W.ret ⟨.inr rfl, by rfl, ?_⟩
      simp only [Tryd.f13, resA, resOne, toT, fin, exa, beq_self_eq_true, ByteArray.size, Nat.reduceAdd, Nat.reduceLeDiff, Nat.reduceEqDiff, Nat.reduceMul, Int.reduceToNat, reduceIte, Int.reduceLE, Int.reduceNeg]
end V
end Go.Proofs.YtbmbmcdaabhgnaaDoor
end
section
set_option linter.unusedVariables false
set_option linter.unusedSimpArgs false
namespace Go.Proofs.YtbmbmcdaabhgnaaDoor
namespace V
open Go.RowKit
theorem main_text : textP ⟨[], []⟩ = (⟨#[109, 97, 105, 110, 32, 123, 10, 125, 10]⟩, 0) := by decide +kernel
theorem main3_ok (m : Mem) : COk Tryd.prog 12 [] m (.c (.bool true)) := by
  have h1 := textP_ok ⟨[], []⟩ (by decide)
  rw [main_text] at h1
  simp only [cProg, cStmts, List.map_nil] at h1
  refine (ok_pure tab_ok Tryd.func12 (by kernel_rfl) rfl rfl (by rfl) (by rfl) (by rfl) (fun R hkeep => ?_) m)
  repeat (first | refine W.seq ?_ | refine W.block ?_ | refine W.skip ?_ | refine W.exit ?_ | refine W.region tab_ok 0 (by decide) (exec_run (by simp only [exa, beq_self_eq_true, ByteArray.size, Nat.reduceAdd, Nat.reduceLeDiff, Nat.reduceEqDiff, Nat.reduceMul, Int.reduceToNat, reduceIte, Int.reduceLE, Int.reduceNeg]; rfl)) ?_)
  (repeat (first | refine W.seq ?_ | refine W.block ?_ | refine W.skip ?_))
  refine W.regionK tab_ok 0 (by decide) ?_
  refine runk_split 1 (by simp only [exa, beq_self_eq_true, ByteArray.size, Nat.reduceAdd, Nat.reduceLeDiff, Nat.reduceEqDiff, Nat.reduceMul, Int.reduceToNat, reduceIte, Int.reduceLE, Int.reduceNeg]; rfl) ?_
  refine runk_call rfl rfl rfl rfl rfl (by simp) (cvs_cons cv_refl cvs_nil) (h1 _) ?_
  refine runk_exec (by simp only [exa, beq_self_eq_true, ByteArray.size, Nat.reduceAdd, Nat.reduceLeDiff, Nat.reduceEqDiff, Nat.reduceMul, Int.reduceToNat, reduceIte, Int.reduceLE, Int.reduceNeg]; rfl) ?_
  repeat (first | refine W.seq ?_ | refine W.block ?_ | refine W.skip ?_ | refine W.exit ?_ | refine W.region tab_ok 0 (by decide) (exec_run (by simp only [exa, beq_self_eq_true, ByteArray.size, Nat.reduceAdd, Nat.reduceLeDiff, Nat.reduceEqDiff, Nat.reduceMul, Int.reduceToNat, reduceIte, Int.reduceLE, Int.reduceNeg]; rfl)) ?_)
  refine W.ret ⟨.inr rfl, by rfl, ?_⟩
  simp only [Tryd.f12, resA, resOne, toT, fin, exa, beq_self_eq_true, ByteArray.size, Nat.reduceAdd, Nat.reduceLeDiff, Nat.reduceEqDiff, Nat.reduceMul, Int.reduceToNat, reduceIte, Int.reduceLE, Int.reduceNeg]
end V
end Go.Proofs.YtbmbmcdaabhgnaaDoor
end
section
set_option linter.unusedVariables false
set_option linter.unusedSimpArgs false
namespace Go.Proofs.YtbmbmcdaabhgnaaDoor
namespace V
open Go.RowKit
theorem textP_cases (p : Program) : (textP p).2 ≠ 0 ∨ (checkB p = true ∧ textP p = (strX (progX p), 0)) := by
  unfold textP
  by_cases h : checkB p = true
  · rw [if_pos h]
    by_cases hl : 8192 < (progX p).length
    · rw [if_pos hl]; exact .inl (by simp)
    · rw [if_neg hl]; exact .inr ⟨h, rfl⟩
  · rw [if_neg h]; exact .inl (by simp)
theorem strX_inj {a b : List UInt8} (h : strX a = strX b) : a = b := by simpa [strX] using h
theorem lawApart_ok (p q : Program) (hp : cntP p ≤ 1048576) (hq : cntP q ≤ 1048576) (m : Mem) : COk Tryd.prog 5 [.agg (cProg p), .agg (cProg q)] m (.c (.bool true)) := by
  have h1 := textP_ok p hp
  have h2 := textP_ok q hq
  have h3 := same_ok p q hp
  have c1 := textP_cases p
  have c2 := textP_cases q
  have hI : checkB p = true → checkB q = true → eqX (strX (progX p)) (strX (progX q)) = eqX p q := fun a b => eqX_comm ⟨fun e => progX_inj a b (strX_inj e), fun e => by rw [e]⟩
  obtain ⟨cs, mn⟩ := p
  obtain ⟨cs', mn'⟩ := q
  obtain ⟨tp, htp⟩ : ∃ u, textP ⟨cs, mn⟩ = u := ⟨_, rfl⟩
  obtain ⟨tq, htq⟩ : ∃ u, textP ⟨cs', mn'⟩ = u := ⟨_, rfl⟩
  rw [htp] at h1 c1
  rw [htq] at h2 c2
  obtain ⟨s1, e1⟩ := tp
  obtain ⟨s2, e2⟩ := tq
  simp only [cProg] at h1 h2 h3 ⊢
  simp only at c1 c2
  refine (ok_pure tab_ok Tryd.func5 (by kernel_rfl) rfl rfl (by rfl) (by rfl) (by rfl) (fun R hkeep => ?_) m)
  repeat (first | refine W.seq ?_ | refine W.block ?_ | refine W.skip ?_ | refine W.exit ?_ | refine W.region tab_ok 0 (by decide) (exec_run (by simp only [exa, beq_self_eq_true, ByteArray.size, Nat.reduceAdd, Nat.reduceLeDiff, Nat.reduceEqDiff, Nat.reduceMul, Int.reduceToNat, reduceIte, Int.reduceLE, Int.reduceNeg]; rfl)) ?_)
  (repeat (first | refine W.seq ?_ | refine W.block ?_ | refine W.skip ?_))
  refine W.regionK tab_ok 0 (by decide) ?_
  refine runk_split 0 (by simp only [exa, beq_self_eq_true, ByteArray.size, Nat.reduceAdd, Nat.reduceLeDiff, Nat.reduceEqDiff, Nat.reduceMul, Int.reduceToNat, reduceIte, Int.reduceLE, Int.reduceNeg]; rfl) ?_
  refine runk_call rfl rfl rfl rfl rfl (by simp) cvs_nil (main3_ok _) ?_
  refine runk_exec (by simp only [exa, beq_self_eq_true, ByteArray.size, Nat.reduceAdd, Nat.reduceLeDiff, Nat.reduceEqDiff, Nat.reduceMul, Int.reduceToNat, reduceIte, Int.reduceLE, Int.reduceNeg]; rfl) ?_
  (repeat (first | refine W.seq ?_ | refine W.block ?_ | refine W.skip ?_))
  refine W.regionK tab_ok 0 (by decide) ?_
  refine runk_split 1 (by simp only [exa, beq_self_eq_true, ByteArray.size, Nat.reduceAdd, Nat.reduceLeDiff, Nat.reduceEqDiff, Nat.reduceMul, Int.reduceToNat, reduceIte, Int.reduceLE, Int.reduceNeg]; rfl) ?_
  refine runk_call rfl rfl rfl rfl rfl (by simp) (cvs_cons cv_refl cvs_nil) (h1 _) ?_
  refine runk_exec (by simp only [exa, beq_self_eq_true, ByteArray.size, Nat.reduceAdd, Nat.reduceLeDiff, Nat.reduceEqDiff, Nat.reduceMul, Int.reduceToNat, reduceIte, Int.reduceLE, Int.reduceNeg]; rfl) ?_
  (repeat (first | refine W.seq ?_ | refine W.block ?_ | refine W.skip ?_))
  refine W.regionK tab_ok 0 (by decide) ?_
  refine runk_split 1 (by simp only [exa, beq_self_eq_true, ByteArray.size, Nat.reduceAdd, Nat.reduceLeDiff, Nat.reduceEqDiff, Nat.reduceMul, Int.reduceToNat, reduceIte, Int.reduceLE, Int.reduceNeg]; rfl) ?_
  refine runk_call rfl rfl rfl rfl rfl (by simp) (cvs_cons cv_refl cvs_nil) (h2 _) ?_
  refine runk_exec (by simp only [exa, beq_self_eq_true, ByteArray.size, Nat.reduceAdd, Nat.reduceLeDiff, Nat.reduceEqDiff, Nat.reduceMul, Int.reduceToNat, reduceIte, Int.reduceLE, Int.reduceNeg]; rfl) ?_
  rcases c1 with c1 | ⟨b1, c1⟩
  · have d1 : (e1 = 0) = False := eq_false c1
    repeat (first | refine W.seq ?_ | refine W.block ?_ | refine W.skip ?_ | refine W.exit ?_ | refine W.region tab_ok 0 (by decide) (exec_run (by simp only [exa, beq_self_eq_true, ByteArray.size, Nat.reduceAdd, Nat.reduceLeDiff, Nat.reduceEqDiff, Nat.reduceMul, Int.reduceToNat, reduceIte, Int.reduceLE, Int.reduceNeg, d1, decide_false, Bool.not_false]; rfl)) ?_)
    refine W.cond rfl (fun _ => ?_) (fun h => absurd h (by decide))
    repeat (first | refine W.seq ?_ | refine W.block ?_ | refine W.skip ?_ | refine W.exit ?_ | refine W.region tab_ok 0 (by decide) (exec_run (by simp only [exa, beq_self_eq_true, ByteArray.size, Nat.reduceAdd, Nat.reduceLeDiff, Nat.reduceEqDiff, Nat.reduceMul, Int.reduceToNat, reduceIte, Int.reduceLE, Int.reduceNeg]; rfl)) ?_)
    refine W.ret ⟨.inr rfl, by rfl, ?_⟩
    simp only [Tryd.f5, resA, resOne, toT, fin, exa, beq_self_eq_true, ByteArray.size, Nat.reduceAdd, Nat.reduceLeDiff, Nat.reduceEqDiff, Nat.reduceMul, Int.reduceToNat, reduceIte, Int.reduceLE, Int.reduceNeg]
  simp only [Prod.mk.injEq] at c1
  obtain ⟨rfl, rfl⟩ := c1
  rcases c2 with c2 | ⟨b2, c2⟩
  · have d1 : (e2 = 0) = False := eq_false c2
    repeat (first | refine W.seq ?_ | refine W.block ?_ | refine W.skip ?_ | refine W.exit ?_ | refine W.region tab_ok 0 (by decide) (exec_run (by simp only [exa, beq_self_eq_true, ByteArray.size, Nat.reduceAdd, Nat.reduceLeDiff, Nat.reduceEqDiff, Nat.reduceMul, Int.reduceToNat, reduceIte, Int.reduceLE, Int.reduceNeg, d1, decide_false, Bool.not_false]; rfl)) ?_)
    refine W.cond rfl (fun _ => ?_) (fun h => absurd h (by decide))
    repeat (first | refine W.seq ?_ | refine W.block ?_ | refine W.skip ?_ | refine W.exit ?_ | refine W.region tab_ok 0 (by decide) (exec_run (by simp only [exa, beq_self_eq_true, ByteArray.size, Nat.reduceAdd, Nat.reduceLeDiff, Nat.reduceEqDiff, Nat.reduceMul, Int.reduceToNat, reduceIte, Int.reduceLE, Int.reduceNeg]; rfl)) ?_)
    refine W.ret ⟨.inr rfl, by rfl, ?_⟩
    simp only [Tryd.f5, resA, resOne, toT, fin, exa, beq_self_eq_true, ByteArray.size, Nat.reduceAdd, Nat.reduceLeDiff, Nat.reduceEqDiff, Nat.reduceMul, Int.reduceToNat, reduceIte, Int.reduceLE, Int.reduceNeg]
  simp only [Prod.mk.injEq] at c2
  obtain ⟨rfl, rfl⟩ := c2
  repeat (first | refine W.seq ?_ | refine W.block ?_ | refine W.skip ?_ | refine W.exit ?_ | refine W.region tab_ok 0 (by decide) (exec_run (by simp only [exa, beq_self_eq_true, ByteArray.size, Nat.reduceAdd, Nat.reduceLeDiff, Nat.reduceEqDiff, Nat.reduceMul, Int.reduceToNat, reduceIte, Int.reduceLE, Int.reduceNeg]; rfl)) ?_)
  refine W.cond rfl (fun h => absurd h (by decide)) (fun _ => ?_)
  (repeat (first | refine W.seq ?_ | refine W.block ?_ | refine W.skip ?_))
  refine W.regionK tab_ok 0 (by decide) ?_
  refine runk_split 7 (by simp only [exa, beq_self_eq_true, ByteArray.size, Nat.reduceAdd, Nat.reduceLeDiff, Nat.reduceEqDiff, Nat.reduceMul, Int.reduceToNat, reduceIte, Int.reduceLE, Int.reduceNeg, bytes_beq, hI b1 b2]; rfl) ?_
  refine runk_call rfl rfl rfl rfl rfl (by simp) (cvs_cons cv_refl (cvs_cons cv_refl cvs_nil)) (h3 _) ?_
  refine runk_exec (by simp only [exa, beq_self_eq_true, ByteArray.size, Nat.reduceAdd, Nat.reduceLeDiff, Nat.reduceEqDiff, Nat.reduceMul, Int.reduceToNat, reduceIte, Int.reduceLE, Int.reduceNeg, beq_self_eq_true]; rfl) ?_
  repeat (first | refine W.seq ?_ | refine W.block ?_ | refine W.skip ?_ | refine W.exit ?_ | refine W.region tab_ok 0 (by decide) (exec_run (by simp only [exa, beq_self_eq_true, ByteArray.size, Nat.reduceAdd, Nat.reduceLeDiff, Nat.reduceEqDiff, Nat.reduceMul, Int.reduceToNat, reduceIte, Int.reduceLE, Int.reduceNeg]; rfl)) ?_)
  refine W.ret ⟨.inr rfl, by rfl, ?_⟩
  simp only [Tryd.f5, resA, resOne, toT, fin, exa, beq_self_eq_true, ByteArray.size, Nat.reduceAdd, Nat.reduceLeDiff, Nat.reduceEqDiff, Nat.reduceMul, Int.reduceToNat, reduceIte, Int.reduceLE, Int.reduceNeg]
end V
end Go.Proofs.YtbmbmcdaabhgnaaDoor
end
section
set_option linter.unusedVariables false
set_option linter.unusedSimpArgs false
namespace Go.Proofs.YtbmbmcdaabhgnaaDoor
open Go.ChangeShapes Go.WideShapes Go.ChangeAt Go.RowKit
open Go.ChangeMaps (open_string shut_string)
open V
theorem showApart_met (os : Os) : laidMet Tryd.prog Rows.showApartUptoRow.laid ((laidWorld os).forCall (fun _ _ => 0) ⟨#[], #[.agg #[.slice none 0 0, .slice none 0 0], .agg #[.slice none 0 0, .slice none 0 0]], []⟩).memory :=
  laidMet_of_run' 8 (by kernel_rfl) (by kernel_rfl)
theorem showApart_reads (os : Os) {H : Type} (enc : TypeId × Value → H) : ∃ places, DataW.whole enc Tryd.prog ((laidWorld os).forCall (fun _ _ => 0) ⟨#[], #[.agg #[.slice none 0 0, .slice none 0 0], .agg #[.slice none 0 0, .slice none 0 0]], []⟩).memory Tryd.f5.params.toList Rows.showApartSpec.vars false (#[.agg #[.slice none 0 0, .slice none 0 0], .agg #[.slice none 0 0, .slice none 0 0]] : Array Value).toList 8 = some ([.agg [.nil, .nil], .agg [.nil, .nil]], [], places) :=
  ⟨[], by kernel_rfl⟩
set_option maxRecDepth 100000 in
set_option maxHeartbeats 4000000 in
theorem showApart_lifted (os : Os) (started : os.Started) (H : Type) (enc : TypeId × Value → H) (F : Stop.Interp) :
    ReturnsInHanded {} Tryd.checked os 5 .any ((Rows.OpenSpec.upto Rows.showApartSpec).preRow enc Tryd.prog Tryd.f5 Rows.showApartUptoRow.domain false Rows.showApartUptoRow.laid) (((Rows.OpenSpec.upto Rows.showApartSpec).at F).post enc Tryd.prog Tryd.f5 false true false false) := by
  obtain ⟨places, hx⟩ := showApart_reads os enc
  refine returnsInHanded_of_row (C := Tryd.checked) (s := Rows.OpenSpec.upto Rows.showApartSpec) own started (by kernel_rfl) Tryd.func5
    (witness_row_at (enc := enc) (C := Tryd.checked) false (laidWorld os) #[.agg #[.slice none 0 0, .slice none 0 0], .agg #[.slice none 0 0, .slice none 0 0]] rfl (by kernel_rfl) (by kernel_rfl) (by kernel_rfl)
      (OpenSpec.preRow_of_cond 8 hx (by kernel_rfl) (fun k hk => by cases hk; rfl) (by kernel_rfl) (showApart_met os))) ?_
  intro W base args ds gs before hval0 hW _ hcond hsz0 hL hsh _
  have hbulk : Rows.uptoBulkAll (ds ++ gs) ≤ 1048576 := of_decide_eq_true (hcond _ rfl)
  clear hcond
  have hval : ∀ (j : Nat) t v, Tryd.f5.params[j]? = some t → args[j]? = some v → Value.okWide Tryd.prog W .any base t v := hval0
  have hW' := hW
  obtain ⟨p, q, hA0, hV, rfl, hfz, hnd⟩ := hW
  have hA : DataW.TrodAll enc Tryd.prog W 0 (fun _ => true) true Tryd.f5.params.toList args.toList ds p := hA0
  have hsz : ∀ n ∈ DataW.weightsEach Tryd.prog (Tryd.f5.params.toList ++ Rows.showApartSpec.plain.varTypes Tryd.prog) (ds ++ gs), n ≤ reachBytes := fun n hn => of_decide_eq_true (List.all_eq_true.1 hsz0 n hn)
  rw [Tryd.params5] at hA hval hsz
  clear hsz0
  obtain ⟨v0, vs0, d0, ds0, p0, q0, hargs, rfl, rfl, h0, r0⟩ := trodAll_cons hA
  obtain ⟨v1, vs1, d1, ds1, p1, q1, rfl, rfl, rfl, h1, r1⟩ := trodAll_cons r0
  obtain ⟨rfl, rfl, rfl⟩ := trodAll_nil r1
  obtain rfl : args = #[v0, v1] := by cases args; simp_all
  obtain ⟨rfl, rfl⟩ := trodVars_none hV
  clear hA0 hval0
  simp only [List.append_nil] at hW'
  have k0 := h0
  have lt0 : ∀ x ∈ p0, x.block < W.heap.size := by obtain ⟨m, hm⟩ := k0; exact DataW.trod_lt m _ _ _ hm
  have k1 := h1
  have lt1 : ∀ x ∈ p1, x.block < W.heap.size := by obtain ⟨m, hm⟩ := k1; exact DataW.trod_lt m _ _ _ hm
  have hG : GlobOk W := ⟨cell_of_shapedOpen_int (zero := #[.int .i64 0]) (t := 3) hsh (of_decide_eq_true (by kernel_rfl)) (by kernel_rfl) rfl (by kernel_rfl) (by kernel_rfl) Tryd.underlying3, tens_of hL⟩
  have fit0 : Fits Tryd.prog 33 d0 := fun n hn => hsz n (DataW.weights_mem_each (j := 0) rfl rfl n hn)
  obtain ⟨cs0, rfl, -⟩ := okWide_struct Tryd.underlying33 (hval 0 33 v0 rfl rfl)
  obtain ⟨e0, g0, w0⟩ := read_program fit0 h0 ⟨cs0, rfl⟩
  obtain ⟨n0, hn0⟩ := h0
  have hc0 := Nat.le_trans (prog_cntX (cs := cs0.toList) (x := (d0, p0)) (by simpa using w0) hn0) (Nat.le_trans (bulk_mem (by simp)) hbulk)
  have fit1 : Fits Tryd.prog 33 d1 := fun n hn => hsz n (DataW.weights_mem_each (j := 1) rfl rfl n hn)
  obtain ⟨cs1, rfl, -⟩ := okWide_struct Tryd.underlying33 (hval 1 33 v1 rfl rfl)
  obtain ⟨e1, g1, w1⟩ := read_program fit1 h1 ⟨cs1, rfl⟩
  obtain ⟨n1, hn1⟩ := h1
  have hc1 := Nat.le_trans (prog_cntX (cs := cs1.toList) (x := (d1, p1)) (by simpa using w1) hn1) (Nat.le_trans (bulk_mem (by simp)) hbulk)
  refine (cok_true (vals := [_, _]) (lawApart_ok g0 g1 (by omega) (by omega) _) hG (fun B => ⟨rv_prog w0, rv_prog w1, trivial⟩)).mono fun e W' ⟨he, bel⟩ => ?_
  subst he
  exact ⟨_, rfl, _, _, _, [], _, [], hW', trodAll_mk1 (shut_bool Tryd.underlying4 _), trodAll_cons_mk (Below.trod laidOut (by kernel_rfl) (of_decide_eq_true (by kernel_rfl)) k0 bel lt0) (trodAll_cons_mk (Below.trod laidOut (by kernel_rfl) (of_decide_eq_true (by kernel_rfl)) k1 bel lt1) trodAll_mk0), rfl, bel.frame _, fun h => by cases h⟩
theorem showApart_holds : Rows.ShowApartUptoSaid :=
  OpenClaim.holds_of_cond 5 Tryd.f5 rfl rfl rfl rfl rfl rfl rfl ⟨rfl, rfl, rfl, rfl, rfl⟩ rfl rfl rfl rfl rfl (by kernel_rfl) Tryd.func5 (by kernel_rfl)
    (of_decide_eq_true (by kernel_rfl)) (by unfold Func.isWrapper; first | (rw [if_pos (by decide +kernel)]; kernel_rfl) | (rw [if_neg (by decide +kernel)]; exact ⟨rfl, rfl⟩))
    (fun os started H enc _ F => by rw [OpenClaim.pre_eq_preRow]; exact showApart_lifted os started H enc F)
theorem showApart_plain (f : FuncId) (fn : Func) (hf : Tryd.pinned.checked.prog.funcNamed "mordant/mordantlaw03.ShowApart" = some f) (hfn : Tryd.pinned.checked.prog.funcs[f]? = some fn) :
    false = Tryd.pinned.checked.prog.looks [] ∧ ∀ (j : Nat) t, fn.params[j]? = some t → Tryd.pinned.checked.prog.wantsStandIn t = false := by
  obtain rfl : f = 5 := Option.some.inj ((show Tryd.prog.funcNamed "mordant/mordantlaw03.ShowApart" = some 5 by kernel_rfl).symm.trans hf) |>.symm
  obtain rfl : fn = Tryd.f5 := (Option.some.inj (Tryd.func5.symm.trans hfn)).symm
  refine ⟨by kernel_rfl, fun j t ht => ?_⟩
  have hall : Tryd.f5.params.all (fun t => !Tryd.prog.wantsStandIn t) = true := by kernel_rfl
  have := Array.all_eq_true'.1 hall t (Array.mem_of_getElem? ht)
  have h2 : Tryd.prog.wantsStandIn t = false := by simpa using this
  exact h2
theorem showApart_card : Rows.ShowApartUptoCardSaid :=
  Claim7.holds_tied_plain_at .later [] _ _ _ _ showApart_holds (fun _ h => by cases h) (by kernel_rfl) (fun _ h => by cases h) showApartUpto_row_tie rfl ⟨rfl, rfl⟩ (by kernel_rfl) rfl showApart_plain (by kernel_rfl)
end Go.Proofs.YtbmbmcdaabhgnaaDoor
end
