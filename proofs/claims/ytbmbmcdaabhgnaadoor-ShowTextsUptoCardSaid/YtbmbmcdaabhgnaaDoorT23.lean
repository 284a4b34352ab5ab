/- Joined by my own program, in build order: Ex, Jn, St, Sb, Dn, Sx, Vz3, Rt. -/
import Derived.Test.YtbmbmcdaabhgnaaDoorT22
import Derived.Test.YtbmbmcdaabhgnaaDoorT16
import Derived.Test.YtbmbmcdaabhgnaaDoorT4
import Derived.Shelf.RegionOpenPlain
import Derived.Lib.Strings
import Derived.Lib.Walk
import Derived.Test.YtbmbmcdaabhgnaaDoorT15
import Derived.Test.YtbmbmcdaabhgnaaDoorT18
import Derived.Test.YtbmbmcdaabhgnaaDoorT19
import Derived.Test.YtbmbmcdaabhgnaaDoorT11
set_option linter.unusedVariables false
set_option linter.unusedSimpArgs false
section
set_option linter.unusedVariables false
set_option linter.unusedSimpArgs false
namespace Go.Proofs.YtbmbmcdaabhgnaaDoor
namespace V
open Go.RowKit
section
variable {M1 : Mem} {j q : Nat} {u0 : Bool} {t : Int} {bs0 : List UInt8}
theorem layU_ne {u : Bool} {l : List ByteArray} (h : l ≠ []) : layU u l = true := by
  cases l with
  | nil => exact absurd rfl h
  | cons a l => simp [layU]
theorem layM (h : PgAt M1 j q u0 t bs0) (u : Bool) (bs : List UInt8) (l : List ByteArray) (hl : l ≠ []) (hl2 : l.length ≤ 3) (hs : bs.length + (txtB l).length ≤ 140737488355328) :
    CallE Tryd.prog 23 [.ptr j 0, .c (.sl (l.map cStr))] (pgM M1 j q u t bs) [q] (.tup []) (pgM M1 j q true t (bs ++ txtB l)) := by
  have := lay_ok (h.pgM (u' := u) (t' := t) (bs' := bs)) l (by omega) hs
  rwa [pgM_pgM h.ne, layU_ne hl] at this
theorem exprM (h : PgAt M1 j q u0 t bs0) {b : Nat} (hM : ∀ d, M1 (b + d) = none) {x : Expr} (hx : ExprAt x) (u : Bool) (bs : List UInt8) (want : Int) (hs : bs.length + (exprX x want).length ≤ 140737488355328) :
    CallE Tryd.prog 16 [.ptr j 0, .agg (cExpr x), .c (.int .i64 want)] (pgM M1 j q u t bs) [q] (.tup []) (pgM M1 j q true t (bs ++ exprX x want)) := by
  have := hx _ j q u t bs b want h.pgM (fun d => pgM_none h (hM d)) hs
  rwa [pgM_pgM h.ne] at this
theorem listM (h : PgAt M1 j q u0 t bs0) {b : Nat} (hM : ∀ d, M1 (b + d) = none) {l : List Expr} (hx : ∀ x ∈ l, ExprAt x) (hl : l.length ≤ 1000000000) (u : Bool) (bs : List UInt8) (e : ByteArray) (hs : bs.length + (listE l).length + e.size ≤ 140737488355328) :
    CallE Tryd.prog 40 [.ptr j 0, .c (.sl (cExprs l)), .c (.str e)] (pgM M1 j q u t bs) [q] (.tup []) (pgM M1 j q true t (bs ++ listE l ++ e.data.toList)) := by
  rw [cExprs_map]
  have := list_ok (h.pgM (u' := u) (t' := t) (bs' := bs)) (fun d => pgM_none h (hM d)) l hx e hl hs
  rwa [pgM_pgM h.ne] at this
def Keeps (j : Nat) (s s' : Nat → A) : Prop := dfs (s' DID) = dfs (s DID) ∧ (∀ v, s (DID + 1) = .pinP v j 0 → s' (DID + 1) = .pinP v j 0) ∧ ∀ v z, s (DID + 2) = .pinC v z → s' (DID + 2) = .pinC v z
theorem keeps_refl (s : Nat → A) : Keeps j s s := ⟨rfl, fun _ h => h, fun _ _ h => h⟩
theorem keeps_upd {s s' : Nat → A} {i : Nat} {a : A} (hi : i < DID) (h : Keeps j s s') : Keeps j s (upd s' i a) := by
  obtain ⟨h1, h2, h3⟩ := h
  refine ⟨?_, fun v hv => ?_, fun v z hv => ?_⟩
  · rw [upd_ne _ _ (Nat.ne_of_gt hi)]; exact h1
  · rw [upd_ne _ _ (Nat.ne_of_gt (Nat.lt_succ_of_lt hi))]; exact h2 v hv
  · rw [upd_ne _ _ (Nat.ne_of_gt (Nat.lt_succ_of_lt (Nat.lt_succ_of_lt hi)))]; exact h3 v z hv
theorem keeps_kill {s s' : Nat → A} (hne : j ≠ q) (h : Keeps j s s') : Keeps j s (killS q s') := by
  obtain ⟨h1, h2, h3⟩ := h
  refine ⟨(killL_dfs [q] s').trans h1, fun v hv => ?_, fun v z hv => ?_⟩
  · rw [killS_app, h2 v hv]; simp [A.kill, hne]
  · rw [killS_app, h3 v z hv]; rfl
end
theorem rows4 : ∀ (l : List Expr), ∀ x ∈ cExprs l, x.length = 4
  | [], x, h => by simp [cExprs] at h
  | y :: l, x, h => by
    simp only [cExprs, List.mem_cons] at h
    rcases h with rfl | h
    · cases y; rfl
    · exact rows4 l x h
theorem len5 {kids : List Expr} (h1 : (1 : Int) ≤ (kids.length : Int)) (h2 : (kids.length : Int) ≤ 5) : ∃ y r, kids = y :: r ∧ r.length ≤ 100 := by
  match kids, h1 with
  | y :: r, _ => exact ⟨y, r, rfl, by simp at h2; omega⟩
theorem len1 {kids : List Expr} (h1 : (1 : Int) ≤ (kids.length : Int)) (h2 : (kids.length : Int) ≤ 1) : ∃ y, kids = [y] := by
  match kids, (by omega : kids.length = 1) with
  | [y], _ => exact ⟨y, rfl⟩
theorem len2' {kids : List Expr} (h1 : (2 : Int) ≤ (kids.length : Int)) (h2 : (kids.length : Int) ≤ 2) : ∃ y y2, kids = [y, y2] := by
  match kids, (by omega : kids.length = 2) with
  | [y, y2], _ => exact ⟨y, y2, rfl⟩
theorem exprX_of (x : Expr) (want : Int) : exprX x want = if levX x.kind < want then 40 :: (textX x ++ [41]) else textX x := rfl
set_option maxHeartbeats 4000000 in
theorem expr_at : ∀ (z : Nat) (x : Expr), SizeOf.sizeOf x ≤ z → exprB x = true → ExprAt x := by
  intro z
  induction z using Nat.strongRecOn with
  | ind z ih =>
  intro x hz hx M j q u t bs b want h hM hs
  obtain ⟨k, n, nm, kids⟩ := x
  rw [exprB_eq] at hx
  obtain ⟨htop, hkids⟩ := Bool.and_eq_true_iff.1 hx
  have hE : ∀ y ∈ kids, ExprAt y := fun y hy => ih (SizeOf.sizeOf y) (by
    have h1 := List.sizeOf_lt_of_mem hy
    have h2 := Expr.mk.sizeOf_spec k n nm kids
    omega) y (Nat.le_refl _) (List.all_eq_true.1 hkids y hy)
  rw [exprTop_eq] at htop
  simp only [Bool.and_eq_true, decide_eq_true_eq] at htop
  obtain ⟨⟨⟨⟨⟨hkk, hlo⟩, hhi⟩, hn0⟩, hn1⟩, hnm⟩ := htop
  have hkr : 1 ≤ k ∧ k ≤ 18 := by
    by_cases hk : 1 ≤ k ∧ k ≤ 18
    · exact hk
    · unfold shapeOf at hkk; rw [if_neg hk] at hkk; cases hkk
  have hjs : (M j).isSome = true := by rw [h.box]; rfl
  have hqs : (M q).isSome = true := by rw [h.row]; rfl
  have bj : ∀ d, j ≠ b + d := fun d k => by have := hM d; rw [← k] at this; rw [this] at hjs; cases hjs
  have bq : ∀ d, q ≠ b + d := fun d k => by have := hM d; rw [← k] at this; rw [this] at hqs; cases hqs
  have hpM : ∀ {l : List ByteArray}, l ≠ [] → True := fun _ => trivial
  refine (ok_effT tab_ok [q] (j := j) (g := 23) (z := .sl [[.str ⟨#[41]⟩]]) (fun v1 v2 w => by simp [invoke]) Tryd.func16 (by kernel_rfl) rfl rfl (by rfl) (by rfl) ?ids pgM_live (pgM_wf h) (fun hWF Rr hkeep => ?_))
  case ids => intro a ha i hi; simp at ha; rcases ha with rfl | rfl | rfl <;> simp [A.ids] at hi; subst hi; exact hjs
  have nkq : ¬ Rr.keep q := by rw [hkeep]; intro hh; exact hh.2 (by simp)
  have jq : (j = q) = False := eq_false h.ne
  have b4q : (b + 4 = q) = False := eq_false (Ne.symm (bq 4))
  have b6q : (b + 6 = q) = False := eq_false (Ne.symm (bq 6))
  have hM4 := hM 4
  have hM6 := hM 6
  repeat (first | refine W.seq ?_ | refine W.block ?_ | refine W.skip ?_ | refine W.exit ?_ | refine W.region tab_ok b (by decide) (exec_run (by simp only [exa, beq_self_eq_true, ByteArray.size, Nat.reduceAdd, Nat.reduceLeDiff, Nat.reduceEqDiff, Nat.reduceMul, Int.reduceToNat, reduceIte, Int.reduceLE, Int.reduceNeg, cExpr, hM4]; rfl)) ?_)
  (repeat (first | refine W.seq ?_ | refine W.block ?_ | refine W.skip ?_))
  refine W.regionK tab_ok b (by decide) ?_
  refine runk_split 2 (by simp only [exa, beq_self_eq_true, ByteArray.size, Nat.reduceAdd, Nat.reduceLeDiff, Nat.reduceEqDiff, Nat.reduceMul, Int.reduceToNat, reduceIte, Int.reduceLE, Int.reduceNeg, upd_same, cExpr]; rfl) ?_
  refine runk_call rfl rfl rfl rfl rfl (by simp) (cvs_cons cv_refl cvs_nil) (of_ok k _) ?_
  refine runk_exec (by simp only [exa, beq_self_eq_true, ByteArray.size, Nat.reduceAdd, Nat.reduceLeDiff, Nat.reduceEqDiff, Nat.reduceMul, Int.reduceToNat, reduceIte, Int.reduceLE, Int.reduceNeg, hM6, cShape, upd_same, Nat.add_left_cancel_iff]; rfl) ?_
  simp only [upd_upd]
  obtain ⟨M1, hM1⟩ : ∃ M1, M1 = upd (upd M (b + 4) (some (.box 24 [.c (.int .i64 k), .c (.int .i64 n), .c (.str nm), .c (.sl (cExprs kids))]))) (b + 6) (some (.box 75 [.c (.int .i64 (shapeOf k).1.least), .c (.int .i64 (shapeOf k).1.most), .c (.bool (shapeOf k).1.name), .c (.int .i64 (shapeOf k).1.num), .c (.int .i64 (shapeOf k).1.level), .c (.str (shapeOf k).1.sign)])) := ⟨_, rfl⟩
  rw [← hM1]
  have m4 : M1 (b + 4) = some (.box 24 [.c (.int .i64 k), .c (.int .i64 n), .c (.str nm), .c (.sl (cExprs kids))]) := by rw [hM1, upd_ne _ _ (by omega), upd_same]
  have m6 : M1 (b + 6) = some (.box 75 [.c (.int .i64 (shapeOf k).1.least), .c (.int .i64 (shapeOf k).1.most), .c (.bool (shapeOf k).1.name), .c (.int .i64 (shapeOf k).1.num), .c (.int .i64 (shapeOf k).1.level), .c (.str (shapeOf k).1.sign)]) := by rw [hM1, upd_same]
  have h1 : PgAt M1 j q u t bs := by
    rw [hM1]
    exact (h.new hM4 rfl).new (by rw [upd_ne _ _ (by omega)]; exact hM6) rfl
  have f1 : ∀ d, M1 (b + 7 + d) = none := fun d => by
    rw [hM1, upd_ne _ _ (by omega), upd_ne _ _ (by omega), Nat.add_assoc]; exact hM _
  have off : ∀ (u' : Bool) (bs' : List UInt8), MLe (pgM M1 j q u' t bs') (pgM M j q u' t bs') := fun u' bs' => by
    rw [hM1, pgM_upd (bj 6) (bq 6), pgM_upd (bj 4) (bq 4)]
    intro i
    rcases mle_off (m := pgM M j q u' t bs') (o := .box 24 [.c (.int .i64 k), .c (.int .i64 n), .c (.str nm), .c (.sl (cExprs kids))]) (pgM_none h hM4) i with e | e
    · exact .inl e
    rcases mle_off (m := upd (pgM M j q u' t bs') (b + 4) (some (.box 24 [.c (.int .i64 k), .c (.int .i64 n), .c (.str nm), .c (.sl (cExprs kids))]))) (o := .box 75 [.c (.int .i64 (shapeOf k).1.least), .c (.int .i64 (shapeOf k).1.most), .c (.bool (shapeOf k).1.name), .c (.int .i64 (shapeOf k).1.num), .c (.int .i64 (shapeOf k).1.level), .c (.str (shapeOf k).1.sign)]) (show upd (pgM M j q u' t bs') (b + 4) _ (b + 6) = none by rw [upd_ne _ _ (by omega)]; exact pgM_none h hM6) i with e2 | e2
    · exact .inl (e.trans e2)
    · exact .inr (e.trans e2)
  have hm4 : ∀ u' bs', pgM M1 j q u' t bs' (b + 4) = some (.box 24 [.c (.int .i64 k), .c (.int .i64 n), .c (.str nm), .c (.sl (cExprs kids))]) := fun u' bs' => by
    unfold pgM; rw [upd_ne _ _ (Ne.symm (bq 4)), upd_ne _ _ (Ne.symm (bj 4)), m4]
  have hm6 : ∀ u' bs', pgM M1 j q u' t bs' (b + 6) = some (.box 75 [.c (.int .i64 (shapeOf k).1.least), .c (.int .i64 (shapeOf k).1.most), .c (.bool (shapeOf k).1.name), .c (.int .i64 (shapeOf k).1.num), .c (.int .i64 (shapeOf k).1.level), .c (.str (shapeOf k).1.sign)]) := fun u' bs' => by
    unfold pgM; rw [upd_ne _ _ (Ne.symm (bq 6)), upd_ne _ _ (Ne.symm (bj 6)), m6]
  have hsame : pgM M1 j q u t bs = M1 := pgM_same h1
  clear hM1
  have hll : (levX k < want) ∨ ¬ (levX k < want) := Classical.em _
  refine W.seqJoin (ι := (Nat → A) × Bool × List UInt8) (fun i => ⟨i.1, pgM M1 j q i.2.1 t i.2.2⟩)
    (fun i => i.1 0 = .ptr j 0 ∧ i.1 4 = .ptr (b + 4) 0 ∧ i.1 6 = .ptr (b + 6) 0 ∧ ((¬ levX k < want ∧ i.2.1 = u ∧ i.2.2 = bs ∧ dfs (i.1 DID) = []) ∨
      (levX k < want ∧ i.2.1 = true ∧ i.2.2 = bs ++ [40] ∧ ∃ v1 v2, dfs (i.1 DID) = [{ target := .fn (.func 23) #[], args := #[v1, v2] }] ∧ i.1 (DID + 1) = .pinP v1 j 0 ∧ i.1 (DID + 2) = .pinC v2 (.sl [[.str ⟨#[41]⟩]])))) ?first ?rest
  case first =>
    repeat (first | refine W.seq ?_ | refine W.block ?_ | refine W.skip ?_ | refine W.exit ?_ | refine W.region tab_ok b (by decide) (exec_run (by simp only [exa, beq_self_eq_true, ByteArray.size, Nat.reduceAdd, Nat.reduceLeDiff, Nat.reduceEqDiff, Nat.reduceMul, Int.reduceToNat, reduceIte, Int.reduceLE, Int.reduceNeg, m6]; rfl)) ?_)
    refine W.cond rfl ?_ ?_
    · intro hlt
      simp only [decide_eq_true_eq] at hlt
      have hlt' : levX k < want := hlt
      have hX := exprX_of ⟨k, n, nm, kids⟩ want
      rw [if_pos hlt'] at hX
      have hlen := congrArg List.length hX
      simp only [List.length_cons, List.length_append, List.length_nil] at hlen
      have hl := layM h1 u bs [⟨#[40]⟩] (by simp) (by decide) (by simp [txtB]; omega)
      rw [hsame] at hl
      (repeat (first | refine W.seq ?_ | refine W.block ?_ | refine W.skip ?_))
      refine W.regionK tab_ok b (by decide) ?_
      refine runk_split 2 (by simp only [exa, beq_self_eq_true, ByteArray.size, Nat.reduceAdd, Nat.reduceLeDiff, Nat.reduceEqDiff, Nat.reduceMul, Int.reduceToNat, reduceIte, Int.reduceLE, Int.reduceNeg]; rfl) ?_
      refine runk_callE (D := [q]) rfl rfl rfl rfl rfl (fun i hi => by simp at hi; subst hi; exact nkq) (by simp) (cvs_cons cv_refl (cvs_cons cv_refl cvs_nil)) hl ?_
      simp only [killL, putS]
      refine runk_exec (by simp only [exa, beq_self_eq_true, ByteArray.size, Nat.reduceAdd, Nat.reduceLeDiff, Nat.reduceEqDiff, Nat.reduceMul, Int.reduceToNat, reduceIte, Int.reduceLE, Int.reduceNeg]; rfl) ?_
      (repeat (first | refine W.seq ?_ | refine W.block ?_ | refine W.skip ?_))
      refine W.deferAt tab_ok b 2 (by decide) rfl rfl (by simp only [exa, beq_self_eq_true, ByteArray.size, Nat.reduceAdd, Nat.reduceLeDiff, Nat.reduceEqDiff, Nat.reduceMul, Int.reduceToNat, reduceIte, Int.reduceLE, Int.reduceNeg, killS_app, A.kill, jq, if_false]; rfl) rfl rfl rfl rfl rfl (j := j) (z := .sl [[.str ⟨#[41]⟩]]) (by simp only [exa, beq_self_eq_true, ByteArray.size, Nat.reduceAdd, Nat.reduceLeDiff, Nat.reduceEqDiff, Nat.reduceMul, Int.reduceToNat, reduceIte, Int.reduceLE, Int.reduceNeg, killS_app, A.kill, jq, if_false]) (by exact pgM_live _ (by rw [h1.box]; rfl)) (by simp only [exa, beq_self_eq_true, ByteArray.size, Nat.reduceAdd, Nat.reduceLeDiff, Nat.reduceEqDiff, Nat.reduceMul, Int.reduceToNat, reduceIte, Int.reduceLE, Int.reduceNeg]) ?_
      intro v1 v2
      refine ⟨rfl, fun c K' hk => ?_⟩
      generalize hd : dfr _ _ v1 v2 j _ = sd
      refine hk ⟨sd, true, bs ++ [40]⟩ ⟨?_, ?_, ?_, .inr ⟨hlt', rfl, rfl, v1, v2, ?_, ?_, ?_⟩⟩
      · show sd _ = _; rw [← hd, dfr_lt (by decide)]; simp only [upd_app, killS_app, entry_zero, A.kill, jq, if_false, Nat.reduceEqDiff, reduceIte]
      · show sd _ = _; rw [← hd, dfr_lt (by decide)]; simp only [upd_app, killS_app, A.kill, jq, b4q, if_false, Nat.reduceEqDiff, reduceIte]
      · show sd _ = _; rw [← hd, dfr_lt (by decide)]; simp only [upd_app, killS_app, A.kill, jq, b6q, if_false, Nat.reduceEqDiff, reduceIte]
      · show dfs (sd _) = _; rw [← hd, dfr_DID]; rfl
      · show sd _ = _; rw [← hd]; exact dfr_1
      · show sd _ = _; rw [← hd]; exact dfr_2
    · intro hge
      simp only [decide_eq_false_iff_not] at hge
      have hge' : ¬ levX k < want := hge
      refine W.skip ?_
      refine ⟨rfl, fun c K' hk => ?_⟩
      rw [← hsame]
      exact hk ⟨_, u, bs⟩ ⟨rfl, rfl, rfl, .inl ⟨hge', rfl, rfl, by rfl⟩⟩
  case rest =>
    rintro ⟨s0, u', bs'⟩ ⟨h0, h4, h6, hQ⟩
    dsimp only at h0 h4 h6 hQ ⊢
    have hfit : bs'.length + (textX ⟨k, n, nm, kids⟩).length ≤ 140737488355328 := by
      have hX := exprX_of ⟨k, n, nm, kids⟩ want
      rcases hQ with ⟨hl, -, rfl, -⟩ | ⟨hl, -, rfl, -⟩
      · rw [if_neg hl] at hX; rw [hX] at hs; exact hs
      · rw [if_pos hl] at hX; rw [hX] at hs
        simp only [List.length_cons, List.length_append, List.length_nil] at hs ⊢; omega
    have fin : ∀ (s' : Nat → A) (Bf : List UInt8), Bf = bs' ++ textX ⟨k, n, nm, kids⟩ → Keeps j s0 s' → ((Exit.normal = Exit.normal ∨ Exit.normal = Exit.ret) ∧
      ((dfs (s' DID) = [] ∧ MLe (pgM M1 j q true t Bf) (pgM M j q true t (bs ++ exprX ⟨k, n, nm, kids⟩ want))) ∨
       ∃ v1 v2 M2, dfs (s' DID) = [{ target := .fn (.func 23) #[], args := #[v1, v2] }] ∧ s' (DID + 1) = .pinP v1 j 0 ∧ s' (DID + 2) = .pinC v2 (.sl [[.str ⟨#[41]⟩]]) ∧ MLe (pgM M1 j q true t Bf) M2 ∧ WFm M2 ∧ (∀ i, (M i).isSome = true → (M2 i).isSome = true) ∧ CallDf Tryd.prog 23 [.ptr j 0, .c (.sl [[.str ⟨#[41]⟩]])] M2 [q] (pgM M j q true t (bs ++ exprX ⟨k, n, nm, kids⟩ want)))) := by
      rintro s' Bf rfl ⟨e1, e2, e3⟩
      have hX := exprX_of ⟨k, n, nm, kids⟩ want
      refine ⟨.inl rfl, ?_⟩
      rcases hQ with ⟨hl, -, rfl, hd⟩ | ⟨hl, -, rfl, v1, v2, hd, hp1, hp2⟩
      · rw [if_neg hl] at hX
        rw [hX]
        exact .inl ⟨e1.trans hd, off _ _⟩
      · rw [if_pos hl] at hX
        rw [hX] at hs ⊢
        simp only [List.length_cons, List.length_append, List.length_nil] at hs
        refine .inr ⟨v1, v2, pgM M j q true t (bs ++ [40] ++ textX ⟨k, n, nm, kids⟩), e1.trans hd, e2 _ hp1, e3 _ _ hp2, off _ _, pgM_wf h hWF, fun i hi => pgM_live i hi, ?_⟩
        have hl := lay_df (h.pgM (u' := true) (t' := t) (bs' := bs ++ [40] ++ textX ⟨k, n, nm, kids⟩)) [⟨#[41]⟩] (by decide) (by simp [txtB]; omega)
        rw [pgM_pgM h.ne, layU_ne (by simp)] at hl
        have e : bs ++ [40] ++ textX ⟨k, n, nm, kids⟩ ++ txtB [(⟨#[41]⟩ : ByteArray)] = bs ++ 40 :: (textX ⟨k, n, nm, kids⟩ ++ [41]) := by simp [txtB]
        rw [e] at hl
        exact hl
    clear hQ off h hM
    have hcase : k = 1 ∨ k = 2 ∨ k = 3 ∨ k = 4 ∨ k = 5 ∨ k = 6 ∨ k = 7 ∨ k = 8 ∨ k = 9 ∨ k = 10 ∨ k = 11 ∨ k = 12 ∨ k = 13 ∨ k = 14 ∨ k = 15 ∨ k = 16 ∨ k = 17 ∨ k = 18 := by omega
    rcases hcase with rfl | rfl | rfl | rfl | rfl | rfl | rfl | rfl | rfl | rfl | rfl | rfl | rfl | rfl | rfl | rfl | rfl | rfl
    · -- Lit
      have hT : textX ⟨1, n, nm, kids⟩ = Lib.itoa n := by simp [textX, bodyX]
      rw [hT] at hfit fin
      repeat (first | refine W.seq ?_ | refine W.block ?_ | refine W.skip ?_ | refine W.exit ?_ | refine W.region tab_ok b (by decide) (exec_run (by simp only [exa, beq_self_eq_true, ByteArray.size, Nat.reduceAdd, Nat.reduceLeDiff, Nat.reduceEqDiff, Nat.reduceMul, Int.reduceToNat, reduceIte, Int.reduceLE, Int.reduceNeg, h0, h4, h6, hm4, hm6]; rfl)) ?_)
      refine W.cond rfl (fun _ => ?_) (fun h => absurd h (by decide))
      (repeat (first | refine W.seq ?_ | refine W.block ?_ | refine W.skip ?_))
      refine W.regionK tab_ok b (by decide) ?_
      refine runk_split 3 (by simp only [exa, beq_self_eq_true, ByteArray.size, Nat.reduceAdd, Nat.reduceLeDiff, Nat.reduceEqDiff, Nat.reduceMul, Int.reduceToNat, reduceIte, Int.reduceLE, Int.reduceNeg, killS_app, A.kill, jq, b4q, b6q, if_false, h0, h4, h6, hm4, hm6, cExpr, cShape]; rfl) ?_
      refine runk_call rfl rfl rfl rfl rfl (by simp) (cvs_cons cv_refl cvs_nil) (num_ok n _) ?_
      refine runk_split 1 (by simp only [exa, beq_self_eq_true, ByteArray.size, Nat.reduceAdd, Nat.reduceLeDiff, Nat.reduceEqDiff, Nat.reduceMul, Int.reduceToNat, reduceIte, Int.reduceLE, Int.reduceNeg, killS_app, A.kill, jq, b4q, b6q, if_false, h0, h4, h6, hm4, hm6, cExpr, cShape]; rfl) ?_
      refine runk_callE (D := [q]) rfl rfl rfl rfl rfl (fun i hi => by simp at hi; subst hi; exact nkq) (by simp) (cvs_cons cv_refl (cvs_cons cv_refl cvs_nil)) (layM h1 u' bs' [⟨(Lib.itoa n).toArray⟩] (by simp) (Nat.le_of_ble_eq_true rfl) (by have hf := hfit; simp [txtB] at hf ⊢; omega)) ?_
      simp only [killL, putS]
      refine runk_exec (by simp only [exa, beq_self_eq_true, ByteArray.size, Nat.reduceAdd, Nat.reduceLeDiff, Nat.reduceEqDiff, Nat.reduceMul, Int.reduceToNat, reduceIte, Int.reduceLE, Int.reduceNeg]; rfl) ?_
      refine fin _ _ (by simp [txtB]) ?_
      repeat (first | exact keeps_refl _ | refine keeps_upd (by decide) ?_ | refine keeps_kill h1.ne ?_)
    · -- Null
      have hT : textX ⟨2, n, nm, kids⟩ = [110, 117, 108, 108] := by simp [textX, bodyX]
      rw [hT] at hfit fin
      repeat (first | refine W.seq ?_ | refine W.block ?_ | refine W.skip ?_ | refine W.exit ?_ | refine W.region tab_ok b (by decide) (exec_run (by simp only [exa, beq_self_eq_true, ByteArray.size, Nat.reduceAdd, Nat.reduceLeDiff, Nat.reduceEqDiff, Nat.reduceMul, Int.reduceToNat, reduceIte, Int.reduceLE, Int.reduceNeg, h0, h4, h6, hm4, hm6]; rfl)) ?_)
      iterate 1 (refine W.cond rfl (fun h => absurd h (by decide)) (fun _ => ?_); repeat (first | refine W.seq ?_ | refine W.block ?_ | refine W.skip ?_ | refine W.exit ?_ | refine W.region tab_ok b (by decide) (exec_run (by simp only [exa, beq_self_eq_true, ByteArray.size, Nat.reduceAdd, Nat.reduceLeDiff, Nat.reduceEqDiff, Nat.reduceMul, Int.reduceToNat, reduceIte, Int.reduceLE, Int.reduceNeg, h0, h4, h6, hm4, hm6]; rfl)) ?_))
      refine W.cond rfl (fun _ => ?_) (fun h => absurd h (by decide))
      (repeat (first | refine W.seq ?_ | refine W.block ?_ | refine W.skip ?_))
      refine W.regionK tab_ok b (by decide) ?_
      refine runk_split 2 (by simp only [exa, beq_self_eq_true, ByteArray.size, Nat.reduceAdd, Nat.reduceLeDiff, Nat.reduceEqDiff, Nat.reduceMul, Int.reduceToNat, reduceIte, Int.reduceLE, Int.reduceNeg, killS_app, A.kill, jq, b4q, b6q, if_false, h0, h4, h6, hm4, hm6, cExpr, cShape]; rfl) ?_
      refine runk_callE (D := [q]) rfl rfl rfl rfl rfl (fun i hi => by simp at hi; subst hi; exact nkq) (by simp) (cvs_cons cv_refl (cvs_cons cv_refl cvs_nil)) (layM h1 u' bs' [⟨#[110, 117, 108, 108]⟩] (by simp) (Nat.le_of_ble_eq_true rfl) (by have hf := hfit; simp [txtB] at hf ⊢; omega)) ?_
      simp only [killL, putS]
      refine runk_exec (by simp only [exa, beq_self_eq_true, ByteArray.size, Nat.reduceAdd, Nat.reduceLeDiff, Nat.reduceEqDiff, Nat.reduceMul, Int.reduceToNat, reduceIte, Int.reduceLE, Int.reduceNeg]; rfl) ?_
      refine fin _ _ (by simp [txtB]) ?_
      repeat (first | exact keeps_refl _ | refine keeps_upd (by decide) ?_ | refine keeps_kill h1.ne ?_)
    · -- This
      have hT : textX ⟨3, n, nm, kids⟩ = [116, 104, 105, 115] := by simp [textX, bodyX]
      rw [hT] at hfit fin
      repeat (first | refine W.seq ?_ | refine W.block ?_ | refine W.skip ?_ | refine W.exit ?_ | refine W.region tab_ok b (by decide) (exec_run (by simp only [exa, beq_self_eq_true, ByteArray.size, Nat.reduceAdd, Nat.reduceLeDiff, Nat.reduceEqDiff, Nat.reduceMul, Int.reduceToNat, reduceIte, Int.reduceLE, Int.reduceNeg, h0, h4, h6, hm4, hm6]; rfl)) ?_)
      iterate 2 (refine W.cond rfl (fun h => absurd h (by decide)) (fun _ => ?_); repeat (first | refine W.seq ?_ | refine W.block ?_ | refine W.skip ?_ | refine W.exit ?_ | refine W.region tab_ok b (by decide) (exec_run (by simp only [exa, beq_self_eq_true, ByteArray.size, Nat.reduceAdd, Nat.reduceLeDiff, Nat.reduceEqDiff, Nat.reduceMul, Int.reduceToNat, reduceIte, Int.reduceLE, Int.reduceNeg, h0, h4, h6, hm4, hm6]; rfl)) ?_))
      refine W.cond rfl (fun _ => ?_) (fun h => absurd h (by decide))
      (repeat (first | refine W.seq ?_ | refine W.block ?_ | refine W.skip ?_))
      refine W.regionK tab_ok b (by decide) ?_
      refine runk_split 2 (by simp only [exa, beq_self_eq_true, ByteArray.size, Nat.reduceAdd, Nat.reduceLeDiff, Nat.reduceEqDiff, Nat.reduceMul, Int.reduceToNat, reduceIte, Int.reduceLE, Int.reduceNeg, killS_app, A.kill, jq, b4q, b6q, if_false, h0, h4, h6, hm4, hm6, cExpr, cShape]; rfl) ?_
      refine runk_callE (D := [q]) rfl rfl rfl rfl rfl (fun i hi => by simp at hi; subst hi; exact nkq) (by simp) (cvs_cons cv_refl (cvs_cons cv_refl cvs_nil)) (layM h1 u' bs' [⟨#[116, 104, 105, 115]⟩] (by simp) (Nat.le_of_ble_eq_true rfl) (by have hf := hfit; simp [txtB] at hf ⊢; omega)) ?_
      simp only [killL, putS]
      refine runk_exec (by simp only [exa, beq_self_eq_true, ByteArray.size, Nat.reduceAdd, Nat.reduceLeDiff, Nat.reduceEqDiff, Nat.reduceMul, Int.reduceToNat, reduceIte, Int.reduceLE, Int.reduceNeg]; rfl) ?_
      refine fin _ _ (by simp [txtB]) ?_
      repeat (first | exact keeps_refl _ | refine keeps_upd (by decide) ?_ | refine keeps_kill h1.ne ?_)
    · -- Var
      have hT : textX ⟨4, n, nm, kids⟩ = nm.data.toList := by simp [textX, bodyX]
      rw [hT] at hfit fin
      repeat (first | refine W.seq ?_ | refine W.block ?_ | refine W.skip ?_ | refine W.exit ?_ | refine W.region tab_ok b (by decide) (exec_run (by simp only [exa, beq_self_eq_true, ByteArray.size, Nat.reduceAdd, Nat.reduceLeDiff, Nat.reduceEqDiff, Nat.reduceMul, Int.reduceToNat, reduceIte, Int.reduceLE, Int.reduceNeg, h0, h4, h6, hm4, hm6]; rfl)) ?_)
      iterate 3 (refine W.cond rfl (fun h => absurd h (by decide)) (fun _ => ?_); repeat (first | refine W.seq ?_ | refine W.block ?_ | refine W.skip ?_ | refine W.exit ?_ | refine W.region tab_ok b (by decide) (exec_run (by simp only [exa, beq_self_eq_true, ByteArray.size, Nat.reduceAdd, Nat.reduceLeDiff, Nat.reduceEqDiff, Nat.reduceMul, Int.reduceToNat, reduceIte, Int.reduceLE, Int.reduceNeg, h0, h4, h6, hm4, hm6]; rfl)) ?_))
      refine W.cond rfl (fun _ => ?_) (fun h => absurd h (by decide))
      (repeat (first | refine W.seq ?_ | refine W.block ?_ | refine W.skip ?_))
      refine W.regionK tab_ok b (by decide) ?_
      refine runk_split 4 (by simp only [exa, beq_self_eq_true, ByteArray.size, Nat.reduceAdd, Nat.reduceLeDiff, Nat.reduceEqDiff, Nat.reduceMul, Int.reduceToNat, reduceIte, Int.reduceLE, Int.reduceNeg, killS_app, A.kill, jq, b4q, b6q, if_false, h0, h4, h6, hm4, hm6, cExpr, cShape]; rfl) ?_
      refine runk_callE (D := [q]) rfl rfl rfl rfl rfl (fun i hi => by simp at hi; subst hi; exact nkq) (by simp) (cvs_cons cv_refl (cvs_cons cv_refl cvs_nil)) (layM h1 u' bs' [nm] (by simp) (Nat.le_of_ble_eq_true rfl) (by have hf := hfit; simp [txtB] at hf ⊢; omega)) ?_
      simp only [killL, putS]
      refine runk_exec (by simp only [exa, beq_self_eq_true, ByteArray.size, Nat.reduceAdd, Nat.reduceLeDiff, Nat.reduceEqDiff, Nat.reduceMul, Int.reduceToNat, reduceIte, Int.reduceLE, Int.reduceNeg]; rfl) ?_
      refine fin _ _ (by simp [txtB]) ?_
      repeat (first | exact keeps_refl _ | refine keeps_upd (by decide) ?_ | refine keeps_kill h1.ne ?_)
    · -- New
      have hT : textX ⟨5, n, nm, kids⟩ = [110, 101, 119, 32] ++ nm.data.toList ++ [40, 41] := by simp [textX, bodyX]
      rw [hT] at hfit fin
      repeat (first | refine W.seq ?_ | refine W.block ?_ | refine W.skip ?_ | refine W.exit ?_ | refine W.region tab_ok b (by decide) (exec_run (by simp only [exa, beq_self_eq_true, ByteArray.size, Nat.reduceAdd, Nat.reduceLeDiff, Nat.reduceEqDiff, Nat.reduceMul, Int.reduceToNat, reduceIte, Int.reduceLE, Int.reduceNeg, h0, h4, h6, hm4, hm6]; rfl)) ?_)
      iterate 4 (refine W.cond rfl (fun h => absurd h (by decide)) (fun _ => ?_); repeat (first | refine W.seq ?_ | refine W.block ?_ | refine W.skip ?_ | refine W.exit ?_ | refine W.region tab_ok b (by decide) (exec_run (by simp only [exa, beq_self_eq_true, ByteArray.size, Nat.reduceAdd, Nat.reduceLeDiff, Nat.reduceEqDiff, Nat.reduceMul, Int.reduceToNat, reduceIte, Int.reduceLE, Int.reduceNeg, h0, h4, h6, hm4, hm6]; rfl)) ?_))
      refine W.cond rfl (fun _ => ?_) (fun h => absurd h (by decide))
      (repeat (first | refine W.seq ?_ | refine W.block ?_ | refine W.skip ?_))
      refine W.regionK tab_ok b (by decide) ?_
      refine runk_split 4 (by simp only [exa, beq_self_eq_true, ByteArray.size, Nat.reduceAdd, Nat.reduceLeDiff, Nat.reduceEqDiff, Nat.reduceMul, Int.reduceToNat, reduceIte, Int.reduceLE, Int.reduceNeg, killS_app, A.kill, jq, b4q, b6q, if_false, h0, h4, h6, hm4, hm6, cExpr, cShape]; rfl) ?_
      refine runk_callE (D := [q]) rfl rfl rfl rfl rfl (fun i hi => by simp at hi; subst hi; exact nkq) (by simp) (cvs_cons cv_refl (cvs_cons cv_refl cvs_nil)) (layM h1 u' bs' [⟨#[110, 101, 119, 32]⟩, nm, ⟨#[40, 41]⟩] (by simp) (Nat.le_of_ble_eq_true rfl) (by have hf := hfit; simp [txtB] at hf ⊢; omega)) ?_
      simp only [killL, putS]
      refine runk_exec (by simp only [exa, beq_self_eq_true, ByteArray.size, Nat.reduceAdd, Nat.reduceLeDiff, Nat.reduceEqDiff, Nat.reduceMul, Int.reduceToNat, reduceIte, Int.reduceLE, Int.reduceNeg]; rfl) ?_
      refine fin _ _ (by simp [txtB]) ?_
      repeat (first | exact keeps_refl _ | refine keeps_upd (by decide) ?_ | refine keeps_kill h1.ne ?_)
    · -- NewArray
      obtain ⟨y, rfl⟩ : ∃ y, kids = [y] := len1 hlo hhi
      have hT : textX ⟨6, n, nm, [y]⟩ = [110, 101, 119, 32, 105, 110, 116, 91] ++ listE [y] ++ [93] := by rw [textX_eq, ← listX_eq]; rfl
      rw [hT] at hfit fin
      have hlen : [y].length ≤ 100 := by simp
      repeat (first | refine W.seq ?_ | refine W.block ?_ | refine W.skip ?_ | refine W.exit ?_ | refine W.region tab_ok b (by decide) (exec_run (by simp only [exa, beq_self_eq_true, ByteArray.size, Nat.reduceAdd, Nat.reduceLeDiff, Nat.reduceEqDiff, Nat.reduceMul, Int.reduceToNat, reduceIte, Int.reduceLE, Int.reduceNeg, h0, h4, h6, hm4, hm6]; rfl)) ?_)
      iterate 5 (refine W.cond rfl (fun h => absurd h (by decide)) (fun _ => ?_); repeat (first | refine W.seq ?_ | refine W.block ?_ | refine W.skip ?_ | refine W.exit ?_ | refine W.region tab_ok b (by decide) (exec_run (by simp only [exa, beq_self_eq_true, ByteArray.size, Nat.reduceAdd, Nat.reduceLeDiff, Nat.reduceEqDiff, Nat.reduceMul, Int.reduceToNat, reduceIte, Int.reduceLE, Int.reduceNeg, h0, h4, h6, hm4, hm6]; rfl)) ?_))
      refine W.cond rfl (fun _ => ?_) (fun h => absurd h (by decide))
      (repeat (first | refine W.seq ?_ | refine W.block ?_ | refine W.skip ?_))
      refine W.regionK tab_ok b (by decide) ?_
      refine runk_split 2 (by simp only [exa, beq_self_eq_true, ByteArray.size, Nat.reduceAdd, Nat.reduceLeDiff, Nat.reduceEqDiff, Nat.reduceMul, Int.reduceToNat, reduceIte, Int.reduceLE, Int.reduceNeg, killS_app, A.kill, jq, b4q, b6q, if_false, h0, h4, h6, hm4, hm6, cExpr, cShape]; rfl) ?_
      refine runk_callE (D := [q]) rfl rfl rfl rfl rfl (fun i hi => by simp at hi; subst hi; exact nkq) (by simp) (cvs_cons cv_refl (cvs_cons cv_refl cvs_nil)) (layM h1 u' bs' [⟨#[110, 101, 119, 32, 105, 110, 116, 91]⟩] (by simp) (Nat.le_of_ble_eq_true rfl) (by have hf := hfit; simp [txtB] at hf ⊢; omega)) ?_
      simp only [killL, putS]
      refine runk_exec (by simp only [exa, beq_self_eq_true, ByteArray.size, Nat.reduceAdd, Nat.reduceLeDiff, Nat.reduceEqDiff, Nat.reduceMul, Int.reduceToNat, reduceIte, Int.reduceLE, Int.reduceNeg]; rfl) ?_
      (repeat (first | refine W.seq ?_ | refine W.block ?_ | refine W.skip ?_))
      refine W.regionK tab_ok b (by decide) ?_
      refine runk_split 3 (by simp only [exa, beq_self_eq_true, ByteArray.size, Nat.reduceAdd, Nat.reduceLeDiff, Nat.reduceEqDiff, Nat.reduceMul, Int.reduceToNat, reduceIte, Int.reduceLE, Int.reduceNeg, killS_app, A.kill, jq, b4q, b6q, if_false, h0, h4, h6, hm4, hm6, cExpr, cShape, cExprs]; rfl) ?_
      refine runk_callE (D := [q]) rfl rfl rfl rfl rfl (fun i hi => by simp at hi; subst hi; exact nkq) (by simp) (cvs_cons cv_refl (cvs_cons cv_refl (cvs_cons cv_refl cvs_nil))) (listM h1 f1 (l := [y]) (fun y hy => hE y (by simp [hy])) (Nat.le_trans hlen (by decide)) true (bs' ++ txtB [⟨#[110, 101, 119, 32, 105, 110, 116, 91]⟩]) ⟨#[93]⟩ (by show _ + _ + 1 ≤ _; have hf := hfit; simp [txtB] at hf ⊢; omega)) ?_
      simp only [killL, putS]
      refine runk_exec (by simp only [exa, beq_self_eq_true, ByteArray.size, Nat.reduceAdd, Nat.reduceLeDiff, Nat.reduceEqDiff, Nat.reduceMul, Int.reduceToNat, reduceIte, Int.reduceLE, Int.reduceNeg]; rfl) ?_
      refine fin _ _ (by simp [txtB]) ?_
      repeat (first | exact keeps_refl _ | refine keeps_upd (by decide) ?_ | refine keeps_kill h1.ne ?_)
    · -- Field
      obtain ⟨⟨yk, yn, ym, ys⟩, rfl⟩ : ∃ y, kids = [y] := len1 hlo hhi
      have hT : textX ⟨7, n, nm, [⟨yk, yn, ym, ys⟩]⟩ = exprX ⟨yk, yn, ym, ys⟩ 4 ++ [46] ++ nm.data.toList := by rw [textX_eq, ← kidX_at (l := [⟨yk, yn, ym, ys⟩]) (i := 0) rfl]; rfl
      rw [hT] at hfit fin
      repeat (first | refine W.seq ?_ | refine W.block ?_ | refine W.skip ?_ | refine W.exit ?_ | refine W.region tab_ok b (by decide) (exec_run (by simp only [exa, beq_self_eq_true, ByteArray.size, Nat.reduceAdd, Nat.reduceLeDiff, Nat.reduceEqDiff, Nat.reduceMul, Int.reduceToNat, reduceIte, Int.reduceLE, Int.reduceNeg, h0, h4, h6, hm4, hm6]; rfl)) ?_)
      iterate 6 (refine W.cond rfl (fun h => absurd h (by decide)) (fun _ => ?_); repeat (first | refine W.seq ?_ | refine W.block ?_ | refine W.skip ?_ | refine W.exit ?_ | refine W.region tab_ok b (by decide) (exec_run (by simp only [exa, beq_self_eq_true, ByteArray.size, Nat.reduceAdd, Nat.reduceLeDiff, Nat.reduceEqDiff, Nat.reduceMul, Int.reduceToNat, reduceIte, Int.reduceLE, Int.reduceNeg, h0, h4, h6, hm4, hm6]; rfl)) ?_))
      refine W.cond rfl (fun _ => ?_) (fun h => absurd h (by decide))
      (repeat (first | refine W.seq ?_ | refine W.block ?_ | refine W.skip ?_))
      refine W.regionK tab_ok b (by decide) ?_
      refine runk_split 5 (by simp only [exa, beq_self_eq_true, ByteArray.size, Nat.reduceAdd, Nat.reduceLeDiff, Nat.reduceEqDiff, Nat.reduceMul, Int.reduceToNat, reduceIte, Int.reduceLE, Int.reduceNeg, killS_app, A.kill, jq, b4q, b6q, if_false, h0, h4, h6, hm4, hm6, cExpr, cShape, cExprs]; rfl) ?_
      refine runk_callE (D := [q]) rfl rfl rfl rfl rfl (fun i hi => by simp at hi; subst hi; exact nkq) (by simp) (cvs_cons cv_refl (cvs_cons cv_refl (cvs_cons cv_refl cvs_nil))) (exprM h1 f1 (hE ⟨yk, yn, ym, ys⟩ (by simp)) u' bs' 4 (by have hf := hfit; simp [txtB] at hf ⊢; omega)) ?_
      simp only [killL, putS]
      refine runk_exec (by simp only [exa, beq_self_eq_true, ByteArray.size, Nat.reduceAdd, Nat.reduceLeDiff, Nat.reduceEqDiff, Nat.reduceMul, Int.reduceToNat, reduceIte, Int.reduceLE, Int.reduceNeg]; rfl) ?_
      (repeat (first | refine W.seq ?_ | refine W.block ?_ | refine W.skip ?_))
      refine W.regionK tab_ok b (by decide) ?_
      refine runk_split 4 (by simp only [exa, beq_self_eq_true, ByteArray.size, Nat.reduceAdd, Nat.reduceLeDiff, Nat.reduceEqDiff, Nat.reduceMul, Int.reduceToNat, reduceIte, Int.reduceLE, Int.reduceNeg, killS_app, A.kill, jq, b4q, b6q, if_false, h0, h4, h6, hm4, hm6, cExpr, cShape]; rfl) ?_
      refine runk_callE (D := [q]) rfl rfl rfl rfl rfl (fun i hi => by simp at hi; subst hi; exact nkq) (by simp) (cvs_cons cv_refl (cvs_cons cv_refl cvs_nil)) (layM h1 true (bs' ++ exprX ⟨yk, yn, ym, ys⟩ 4) [⟨#[46]⟩, nm] (by simp) (Nat.le_of_ble_eq_true rfl) (by have hf := hfit; simp [txtB] at hf ⊢; omega)) ?_
      simp only [killL, putS]
      refine runk_exec (by simp only [exa, beq_self_eq_true, ByteArray.size, Nat.reduceAdd, Nat.reduceLeDiff, Nat.reduceEqDiff, Nat.reduceMul, Int.reduceToNat, reduceIte, Int.reduceLE, Int.reduceNeg]; rfl) ?_
      refine fin _ _ (by simp [txtB]) ?_
      repeat (first | exact keeps_refl _ | refine keeps_upd (by decide) ?_ | refine keeps_kill h1.ne ?_)
    · -- Elem
      obtain ⟨⟨yk, yn, ym, ys⟩, y2, rfl⟩ : ∃ y y2, kids = [y, y2] := len2' hlo hhi
      have hT : textX ⟨8, n, nm, [⟨yk, yn, ym, ys⟩, y2]⟩ = exprX ⟨yk, yn, ym, ys⟩ 4 ++ [91] ++ listE [y2] ++ [93] := by rw [textX_eq, ← kidX_at (l := [⟨yk, yn, ym, ys⟩, y2]) (i := 0) rfl, ← listX_eq]; rfl
      rw [hT] at hfit fin
      have hlen : [y2].length ≤ 100 := by simp
      have hsl := eq_true (Or.inr (rows4 [⟨yk, yn, ym, ys⟩, y2]) : False ∨ ∀ x ∈ [[C.int .i64 yk, C.int .i64 yn, C.str ym, C.sl (cExprs ys)], cExpr y2], x.length = 4)
      repeat (first | refine W.seq ?_ | refine W.block ?_ | refine W.skip ?_ | refine W.exit ?_ | refine W.region tab_ok b (by decide) (exec_run (by simp only [exa, beq_self_eq_true, ByteArray.size, Nat.reduceAdd, Nat.reduceLeDiff, Nat.reduceEqDiff, Nat.reduceMul, Int.reduceToNat, reduceIte, Int.reduceLE, Int.reduceNeg, h0, h4, h6, hm4, hm6]; rfl)) ?_)
      iterate 7 (refine W.cond rfl (fun h => absurd h (by decide)) (fun _ => ?_); repeat (first | refine W.seq ?_ | refine W.block ?_ | refine W.skip ?_ | refine W.exit ?_ | refine W.region tab_ok b (by decide) (exec_run (by simp only [exa, beq_self_eq_true, ByteArray.size, Nat.reduceAdd, Nat.reduceLeDiff, Nat.reduceEqDiff, Nat.reduceMul, Int.reduceToNat, reduceIte, Int.reduceLE, Int.reduceNeg, h0, h4, h6, hm4, hm6]; rfl)) ?_))
      refine W.cond rfl (fun _ => ?_) (fun h => absurd h (by decide))
      (repeat (first | refine W.seq ?_ | refine W.block ?_ | refine W.skip ?_))
      refine W.regionK tab_ok b (by decide) ?_
      refine runk_split 5 (by simp only [exa, beq_self_eq_true, ByteArray.size, Nat.reduceAdd, Nat.reduceLeDiff, Nat.reduceEqDiff, Nat.reduceMul, Int.reduceToNat, reduceIte, Int.reduceLE, Int.reduceNeg, killS_app, A.kill, jq, b4q, b6q, if_false, h0, h4, h6, hm4, hm6, cExpr, cShape, cExprs]; rfl) ?_
      refine runk_callE (D := [q]) rfl rfl rfl rfl rfl (fun i hi => by simp at hi; subst hi; exact nkq) (by simp) (cvs_cons cv_refl (cvs_cons cv_refl (cvs_cons cv_refl cvs_nil))) (exprM h1 f1 (hE ⟨yk, yn, ym, ys⟩ (by simp)) u' bs' 4 (by have hf := hfit; simp [txtB] at hf ⊢; omega)) ?_
      simp only [killL, putS]
      refine runk_exec (by simp only [exa, beq_self_eq_true, ByteArray.size, Nat.reduceAdd, Nat.reduceLeDiff, Nat.reduceEqDiff, Nat.reduceMul, Int.reduceToNat, reduceIte, Int.reduceLE, Int.reduceNeg]; rfl) ?_
      (repeat (first | refine W.seq ?_ | refine W.block ?_ | refine W.skip ?_))
      refine W.regionK tab_ok b (by decide) ?_
      refine runk_split 2 (by simp only [exa, beq_self_eq_true, ByteArray.size, Nat.reduceAdd, Nat.reduceLeDiff, Nat.reduceEqDiff, Nat.reduceMul, Int.reduceToNat, reduceIte, Int.reduceLE, Int.reduceNeg, killS_app, A.kill, jq, b4q, b6q, if_false, h0, h4, h6, hm4, hm6, cExpr, cShape]; rfl) ?_
      refine runk_callE (D := [q]) rfl rfl rfl rfl rfl (fun i hi => by simp at hi; subst hi; exact nkq) (by simp) (cvs_cons cv_refl (cvs_cons cv_refl cvs_nil)) (layM h1 true (bs' ++ exprX ⟨yk, yn, ym, ys⟩ 4) [⟨#[91]⟩] (by simp) (Nat.le_of_ble_eq_true rfl) (by have hf := hfit; simp [txtB] at hf ⊢; omega)) ?_
      simp only [killL, putS]
      refine runk_exec (by simp only [exa, beq_self_eq_true, ByteArray.size, Nat.reduceAdd, Nat.reduceLeDiff, Nat.reduceEqDiff, Nat.reduceMul, Int.reduceToNat, reduceIte, Int.reduceLE, Int.reduceNeg]; rfl) ?_
      (repeat (first | refine W.seq ?_ | refine W.block ?_ | refine W.skip ?_))
      refine W.regionK tab_ok b (by decide) ?_
      refine runk_split 4 (by simp only [exa, beq_self_eq_true, ByteArray.size, Nat.reduceAdd, Nat.reduceLeDiff, Nat.reduceEqDiff, Nat.reduceMul, Int.reduceToNat, reduceIte, Int.reduceLE, Int.reduceNeg, killS_app, A.kill, jq, b4q, b6q, if_false, h0, h4, h6, hm4, hm6, cExpr, cShape, cExprs, hsl, if_true]; rfl) ?_
      refine runk_callE (D := [q]) rfl rfl rfl rfl rfl (fun i hi => by simp at hi; subst hi; exact nkq) (by simp) (cvs_cons cv_refl (cvs_cons cv_refl (cvs_cons cv_refl cvs_nil))) (listM h1 f1 (l := [y2]) (fun y hy => hE y (by simp [hy])) (Nat.le_trans hlen (by decide)) true (bs' ++ exprX ⟨yk, yn, ym, ys⟩ 4 ++ txtB [⟨#[91]⟩]) ⟨#[93]⟩ (by show _ + _ + 1 ≤ _; have hf := hfit; simp [txtB] at hf ⊢; omega)) ?_
      simp only [killL, putS]
      refine runk_exec (by simp only [exa, beq_self_eq_true, ByteArray.size, Nat.reduceAdd, Nat.reduceLeDiff, Nat.reduceEqDiff, Nat.reduceMul, Int.reduceToNat, reduceIte, Int.reduceLE, Int.reduceNeg]; rfl) ?_
      refine fin _ _ (by simp [txtB]) ?_
      repeat (first | exact keeps_refl _ | refine keeps_upd (by decide) ?_ | refine keeps_kill h1.ne ?_)
    · -- Length
      obtain ⟨⟨yk, yn, ym, ys⟩, rfl⟩ : ∃ y, kids = [y] := len1 hlo hhi
      have hT : textX ⟨9, n, nm, [⟨yk, yn, ym, ys⟩]⟩ = exprX ⟨yk, yn, ym, ys⟩ 4 ++ [46, 108, 101, 110, 103, 116, 104] := by rw [textX_eq, ← kidX_at (l := [⟨yk, yn, ym, ys⟩]) (i := 0) rfl]; rfl
      rw [hT] at hfit fin
      repeat (first | refine W.seq ?_ | refine W.block ?_ | refine W.skip ?_ | refine W.exit ?_ | refine W.region tab_ok b (by decide) (exec_run (by simp only [exa, beq_self_eq_true, ByteArray.size, Nat.reduceAdd, Nat.reduceLeDiff, Nat.reduceEqDiff, Nat.reduceMul, Int.reduceToNat, reduceIte, Int.reduceLE, Int.reduceNeg, h0, h4, h6, hm4, hm6]; rfl)) ?_)
      iterate 8 (refine W.cond rfl (fun h => absurd h (by decide)) (fun _ => ?_); repeat (first | refine W.seq ?_ | refine W.block ?_ | refine W.skip ?_ | refine W.exit ?_ | refine W.region tab_ok b (by decide) (exec_run (by simp only [exa, beq_self_eq_true, ByteArray.size, Nat.reduceAdd, Nat.reduceLeDiff, Nat.reduceEqDiff, Nat.reduceMul, Int.reduceToNat, reduceIte, Int.reduceLE, Int.reduceNeg, h0, h4, h6, hm4, hm6]; rfl)) ?_))
      refine W.cond rfl (fun _ => ?_) (fun h => absurd h (by decide))
      (repeat (first | refine W.seq ?_ | refine W.block ?_ | refine W.skip ?_))
      refine W.regionK tab_ok b (by decide) ?_
      refine runk_split 5 (by simp only [exa, beq_self_eq_true, ByteArray.size, Nat.reduceAdd, Nat.reduceLeDiff, Nat.reduceEqDiff, Nat.reduceMul, Int.reduceToNat, reduceIte, Int.reduceLE, Int.reduceNeg, killS_app, A.kill, jq, b4q, b6q, if_false, h0, h4, h6, hm4, hm6, cExpr, cShape, cExprs]; rfl) ?_
      refine runk_callE (D := [q]) rfl rfl rfl rfl rfl (fun i hi => by simp at hi; subst hi; exact nkq) (by simp) (cvs_cons cv_refl (cvs_cons cv_refl (cvs_cons cv_refl cvs_nil))) (exprM h1 f1 (hE ⟨yk, yn, ym, ys⟩ (by simp)) u' bs' 4 (by have hf := hfit; simp [txtB] at hf ⊢; omega)) ?_
      simp only [killL, putS]
      refine runk_exec (by simp only [exa, beq_self_eq_true, ByteArray.size, Nat.reduceAdd, Nat.reduceLeDiff, Nat.reduceEqDiff, Nat.reduceMul, Int.reduceToNat, reduceIte, Int.reduceLE, Int.reduceNeg]; rfl) ?_
      (repeat (first | refine W.seq ?_ | refine W.block ?_ | refine W.skip ?_))
      refine W.regionK tab_ok b (by decide) ?_
      refine runk_split 2 (by simp only [exa, beq_self_eq_true, ByteArray.size, Nat.reduceAdd, Nat.reduceLeDiff, Nat.reduceEqDiff, Nat.reduceMul, Int.reduceToNat, reduceIte, Int.reduceLE, Int.reduceNeg, killS_app, A.kill, jq, b4q, b6q, if_false, h0, h4, h6, hm4, hm6, cExpr, cShape]; rfl) ?_
      refine runk_callE (D := [q]) rfl rfl rfl rfl rfl (fun i hi => by simp at hi; subst hi; exact nkq) (by simp) (cvs_cons cv_refl (cvs_cons cv_refl cvs_nil)) (layM h1 true (bs' ++ exprX ⟨yk, yn, ym, ys⟩ 4) [⟨#[46, 108, 101, 110, 103, 116, 104]⟩] (by simp) (Nat.le_of_ble_eq_true rfl) (by have hf := hfit; simp [txtB] at hf ⊢; omega)) ?_
      simp only [killL, putS]
      refine runk_exec (by simp only [exa, beq_self_eq_true, ByteArray.size, Nat.reduceAdd, Nat.reduceLeDiff, Nat.reduceEqDiff, Nat.reduceMul, Int.reduceToNat, reduceIte, Int.reduceLE, Int.reduceNeg]; rfl) ?_
      refine fin _ _ (by simp [txtB]) ?_
      repeat (first | exact keeps_refl _ | refine keeps_upd (by decide) ?_ | refine keeps_kill h1.ne ?_)
    · -- Call
      obtain ⟨⟨yk, yn, ym, ys⟩, r, rfl, hlen⟩ : ∃ y r, kids = y :: r ∧ r.length ≤ 100 := len5 hlo hhi
      have hT : textX ⟨10, n, nm, ⟨yk, yn, ym, ys⟩ :: r⟩ = exprX ⟨yk, yn, ym, ys⟩ 4 ++ [46] ++ nm.data.toList ++ [40] ++ listE r ++ [41] := by rw [textX_eq, ← kidX_at (l := ⟨yk, yn, ym, ys⟩ :: r) (i := 0) rfl, ← listX_eq]; rfl
      rw [hT] at hfit fin
      have hsl := eq_true (Or.inr (rows4 (⟨yk, yn, ym, ys⟩ :: r)) : False ∨ ∀ x ∈ [C.int .i64 yk, C.int .i64 yn, C.str ym, C.sl (cExprs ys)] :: cExprs r, x.length = 4)
      repeat (first | refine W.seq ?_ | refine W.block ?_ | refine W.skip ?_ | refine W.exit ?_ | refine W.region tab_ok b (by decide) (exec_run (by simp only [exa, beq_self_eq_true, ByteArray.size, Nat.reduceAdd, Nat.reduceLeDiff, Nat.reduceEqDiff, Nat.reduceMul, Int.reduceToNat, reduceIte, Int.reduceLE, Int.reduceNeg, h0, h4, h6, hm4, hm6]; rfl)) ?_)
      iterate 9 (refine W.cond rfl (fun h => absurd h (by decide)) (fun _ => ?_); repeat (first | refine W.seq ?_ | refine W.block ?_ | refine W.skip ?_ | refine W.exit ?_ | refine W.region tab_ok b (by decide) (exec_run (by simp only [exa, beq_self_eq_true, ByteArray.size, Nat.reduceAdd, Nat.reduceLeDiff, Nat.reduceEqDiff, Nat.reduceMul, Int.reduceToNat, reduceIte, Int.reduceLE, Int.reduceNeg, h0, h4, h6, hm4, hm6]; rfl)) ?_))
      refine W.cond rfl (fun _ => ?_) (fun h => absurd h (by decide))
      (repeat (first | refine W.seq ?_ | refine W.block ?_ | refine W.skip ?_))
      refine W.regionK tab_ok b (by decide) ?_
      refine runk_split 5 (by simp only [exa, beq_self_eq_true, ByteArray.size, Nat.reduceAdd, Nat.reduceLeDiff, Nat.reduceEqDiff, Nat.reduceMul, Int.reduceToNat, reduceIte, Int.reduceLE, Int.reduceNeg, killS_app, A.kill, jq, b4q, b6q, if_false, h0, h4, h6, hm4, hm6, cExpr, cShape, cExprs]; rfl) ?_
      refine runk_callE (D := [q]) rfl rfl rfl rfl rfl (fun i hi => by simp at hi; subst hi; exact nkq) (by simp) (cvs_cons cv_refl (cvs_cons cv_refl (cvs_cons cv_refl cvs_nil))) (exprM h1 f1 (hE ⟨yk, yn, ym, ys⟩ (by simp)) u' bs' 4 (by have hf := hfit; simp [txtB] at hf ⊢; omega)) ?_
      simp only [killL, putS]
      refine runk_exec (by simp only [exa, beq_self_eq_true, ByteArray.size, Nat.reduceAdd, Nat.reduceLeDiff, Nat.reduceEqDiff, Nat.reduceMul, Int.reduceToNat, reduceIte, Int.reduceLE, Int.reduceNeg]; rfl) ?_
      (repeat (first | refine W.seq ?_ | refine W.block ?_ | refine W.skip ?_))
      refine W.regionK tab_ok b (by decide) ?_
      refine runk_split 4 (by simp only [exa, beq_self_eq_true, ByteArray.size, Nat.reduceAdd, Nat.reduceLeDiff, Nat.reduceEqDiff, Nat.reduceMul, Int.reduceToNat, reduceIte, Int.reduceLE, Int.reduceNeg, killS_app, A.kill, jq, b4q, b6q, if_false, h0, h4, h6, hm4, hm6, cExpr, cShape]; rfl) ?_
      refine runk_callE (D := [q]) rfl rfl rfl rfl rfl (fun i hi => by simp at hi; subst hi; exact nkq) (by simp) (cvs_cons cv_refl (cvs_cons cv_refl cvs_nil)) (layM h1 true (bs' ++ exprX ⟨yk, yn, ym, ys⟩ 4) [⟨#[46]⟩, nm, ⟨#[40]⟩] (by simp) (Nat.le_of_ble_eq_true rfl) (by have hf := hfit; simp [txtB] at hf ⊢; omega)) ?_
      simp only [killL, putS]
      refine runk_exec (by simp only [exa, beq_self_eq_true, ByteArray.size, Nat.reduceAdd, Nat.reduceLeDiff, Nat.reduceEqDiff, Nat.reduceMul, Int.reduceToNat, reduceIte, Int.reduceLE, Int.reduceNeg]; rfl) ?_
      (repeat (first | refine W.seq ?_ | refine W.block ?_ | refine W.skip ?_))
      refine W.regionK tab_ok b (by decide) ?_
      refine runk_split 4 (by simp only [exa, beq_self_eq_true, ByteArray.size, Nat.reduceAdd, Nat.reduceLeDiff, Nat.reduceEqDiff, Nat.reduceMul, Int.reduceToNat, reduceIte, Int.reduceLE, Int.reduceNeg, killS_app, A.kill, jq, b4q, b6q, if_false, h0, h4, h6, hm4, hm6, cExpr, cShape, cExprs, hsl, if_true, Nat.le_refl, List.take_length]; rfl) ?_
      refine runk_callE (D := [q]) rfl rfl rfl rfl rfl (fun i hi => by simp at hi; subst hi; exact nkq) (by simp) (cvs_cons cv_refl (cvs_cons cv_refl (cvs_cons cv_refl cvs_nil))) (listM h1 f1 (l := r) (fun y hy => hE y (by simp [hy])) (Nat.le_trans hlen (by decide)) true (bs' ++ exprX ⟨yk, yn, ym, ys⟩ 4 ++ txtB [⟨#[46]⟩, nm, ⟨#[40]⟩]) ⟨#[41]⟩ (by show _ + _ + 1 ≤ _; have hf := hfit; simp [txtB] at hf ⊢; omega)) ?_
      simp only [killL, putS]
      refine runk_exec (by simp only [exa, beq_self_eq_true, ByteArray.size, Nat.reduceAdd, Nat.reduceLeDiff, Nat.reduceEqDiff, Nat.reduceMul, Int.reduceToNat, reduceIte, Int.reduceLE, Int.reduceNeg]; rfl) ?_
      refine fin _ _ (by simp [txtB]) ?_
      repeat (first | exact keeps_refl _ | refine keeps_upd (by decide) ?_ | refine keeps_kill h1.ne ?_)
    · -- Read
      have hT : textX ⟨11, n, nm, kids⟩ = [114, 101, 97, 100, 40] ++ Lib.itoa n ++ [41] := by simp [textX, bodyX]
      rw [hT] at hfit fin
      repeat (first | refine W.seq ?_ | refine W.block ?_ | refine W.skip ?_ | refine W.exit ?_ | refine W.region tab_ok b (by decide) (exec_run (by simp only [exa, beq_self_eq_true, ByteArray.size, Nat.reduceAdd, Nat.reduceLeDiff, Nat.reduceEqDiff, Nat.reduceMul, Int.reduceToNat, reduceIte, Int.reduceLE, Int.reduceNeg, h0, h4, h6, hm4, hm6]; rfl)) ?_)
      iterate 10 (refine W.cond rfl (fun h => absurd h (by decide)) (fun _ => ?_); repeat (first | refine W.seq ?_ | refine W.block ?_ | refine W.skip ?_ | refine W.exit ?_ | refine W.region tab_ok b (by decide) (exec_run (by simp only [exa, beq_self_eq_true, ByteArray.size, Nat.reduceAdd, Nat.reduceLeDiff, Nat.reduceEqDiff, Nat.reduceMul, Int.reduceToNat, reduceIte, Int.reduceLE, Int.reduceNeg, h0, h4, h6, hm4, hm6]; rfl)) ?_))
      refine W.cond rfl (fun _ => ?_) (fun h => absurd h (by decide))
      (repeat (first | refine W.seq ?_ | refine W.block ?_ | refine W.skip ?_))
      refine W.regionK tab_ok b (by decide) ?_
      refine runk_split 3 (by simp only [exa, beq_self_eq_true, ByteArray.size, Nat.reduceAdd, Nat.reduceLeDiff, Nat.reduceEqDiff, Nat.reduceMul, Int.reduceToNat, reduceIte, Int.reduceLE, Int.reduceNeg, killS_app, A.kill, jq, b4q, b6q, if_false, h0, h4, h6, hm4, hm6, cExpr, cShape]; rfl) ?_
      refine runk_call rfl rfl rfl rfl rfl (by simp) (cvs_cons cv_refl cvs_nil) (num_ok n _) ?_
      refine runk_split 1 (by simp only [exa, beq_self_eq_true, ByteArray.size, Nat.reduceAdd, Nat.reduceLeDiff, Nat.reduceEqDiff, Nat.reduceMul, Int.reduceToNat, reduceIte, Int.reduceLE, Int.reduceNeg, killS_app, A.kill, jq, b4q, b6q, if_false, h0, h4, h6, hm4, hm6, cExpr, cShape]; rfl) ?_
      refine runk_callE (D := [q]) rfl rfl rfl rfl rfl (fun i hi => by simp at hi; subst hi; exact nkq) (by simp) (cvs_cons cv_refl (cvs_cons cv_refl cvs_nil)) (layM h1 u' bs' [⟨#[114, 101, 97, 100, 40]⟩, ⟨(Lib.itoa n).toArray⟩, ⟨#[41]⟩] (by simp) (Nat.le_of_ble_eq_true rfl) (by have hf := hfit; simp [txtB] at hf ⊢; omega)) ?_
      simp only [killL, putS]
      refine runk_exec (by simp only [exa, beq_self_eq_true, ByteArray.size, Nat.reduceAdd, Nat.reduceLeDiff, Nat.reduceEqDiff, Nat.reduceMul, Int.reduceToNat, reduceIte, Int.reduceLE, Int.reduceNeg]; rfl) ?_
      refine fin _ _ (by simp [txtB]) ?_
      repeat (first | exact keeps_refl _ | refine keeps_upd (by decide) ?_ | refine keeps_kill h1.ne ?_)
    · -- Declass
      obtain ⟨y, rfl⟩ : ∃ y, kids = [y] := len1 hlo hhi
      have hT : textX ⟨12, n, nm, [y]⟩ = [100, 101, 99, 108, 97, 115, 115, 105, 102, 121, 40] ++ listE [y] ++ [41] := by rw [textX_eq, ← listX_eq]; rfl
      rw [hT] at hfit fin
      have hlen : [y].length ≤ 100 := by simp
      repeat (first | refine W.seq ?_ | refine W.block ?_ | refine W.skip ?_ | refine W.exit ?_ | refine W.region tab_ok b (by decide) (exec_run (by simp only [exa, beq_self_eq_true, ByteArray.size, Nat.reduceAdd, Nat.reduceLeDiff, Nat.reduceEqDiff, Nat.reduceMul, Int.reduceToNat, reduceIte, Int.reduceLE, Int.reduceNeg, h0, h4, h6, hm4, hm6]; rfl)) ?_)
      iterate 11 (refine W.cond rfl (fun h => absurd h (by decide)) (fun _ => ?_); repeat (first | refine W.seq ?_ | refine W.block ?_ | refine W.skip ?_ | refine W.exit ?_ | refine W.region tab_ok b (by decide) (exec_run (by simp only [exa, beq_self_eq_true, ByteArray.size, Nat.reduceAdd, Nat.reduceLeDiff, Nat.reduceEqDiff, Nat.reduceMul, Int.reduceToNat, reduceIte, Int.reduceLE, Int.reduceNeg, h0, h4, h6, hm4, hm6]; rfl)) ?_))
      refine W.cond rfl (fun _ => ?_) (fun h => absurd h (by decide))
      (repeat (first | refine W.seq ?_ | refine W.block ?_ | refine W.skip ?_))
      refine W.regionK tab_ok b (by decide) ?_
      refine runk_split 2 (by simp only [exa, beq_self_eq_true, ByteArray.size, Nat.reduceAdd, Nat.reduceLeDiff, Nat.reduceEqDiff, Nat.reduceMul, Int.reduceToNat, reduceIte, Int.reduceLE, Int.reduceNeg, killS_app, A.kill, jq, b4q, b6q, if_false, h0, h4, h6, hm4, hm6, cExpr, cShape]; rfl) ?_
      refine runk_callE (D := [q]) rfl rfl rfl rfl rfl (fun i hi => by simp at hi; subst hi; exact nkq) (by simp) (cvs_cons cv_refl (cvs_cons cv_refl cvs_nil)) (layM h1 u' bs' [⟨#[100, 101, 99, 108, 97, 115, 115, 105, 102, 121, 40]⟩] (by simp) (Nat.le_of_ble_eq_true rfl) (by have hf := hfit; simp [txtB] at hf ⊢; omega)) ?_
      simp only [killL, putS]
      refine runk_exec (by simp only [exa, beq_self_eq_true, ByteArray.size, Nat.reduceAdd, Nat.reduceLeDiff, Nat.reduceEqDiff, Nat.reduceMul, Int.reduceToNat, reduceIte, Int.reduceLE, Int.reduceNeg]; rfl) ?_
      (repeat (first | refine W.seq ?_ | refine W.block ?_ | refine W.skip ?_))
      refine W.regionK tab_ok b (by decide) ?_
      refine runk_split 3 (by simp only [exa, beq_self_eq_true, ByteArray.size, Nat.reduceAdd, Nat.reduceLeDiff, Nat.reduceEqDiff, Nat.reduceMul, Int.reduceToNat, reduceIte, Int.reduceLE, Int.reduceNeg, killS_app, A.kill, jq, b4q, b6q, if_false, h0, h4, h6, hm4, hm6, cExpr, cShape, cExprs]; rfl) ?_
      refine runk_callE (D := [q]) rfl rfl rfl rfl rfl (fun i hi => by simp at hi; subst hi; exact nkq) (by simp) (cvs_cons cv_refl (cvs_cons cv_refl (cvs_cons cv_refl cvs_nil))) (listM h1 f1 (l := [y]) (fun y hy => hE y (by simp [hy])) (Nat.le_trans hlen (by decide)) true (bs' ++ txtB [⟨#[100, 101, 99, 108, 97, 115, 115, 105, 102, 121, 40]⟩]) ⟨#[41]⟩ (by show _ + _ + 1 ≤ _; have hf := hfit; simp [txtB] at hf ⊢; omega)) ?_
      simp only [killL, putS]
      refine runk_exec (by simp only [exa, beq_self_eq_true, ByteArray.size, Nat.reduceAdd, Nat.reduceLeDiff, Nat.reduceEqDiff, Nat.reduceMul, Int.reduceToNat, reduceIte, Int.reduceLE, Int.reduceNeg]; rfl) ?_
      refine fin _ _ (by simp [txtB]) ?_
      repeat (first | exact keeps_refl _ | refine keeps_upd (by decide) ?_ | refine keeps_kill h1.ne ?_)
    · obtain ⟨⟨yk, yn, ym, ys⟩, ⟨zk, zn, zm, zs⟩, rfl⟩ : ∃ y y2, kids = [y, y2] := len2' hlo hhi
      have hT : textX ⟨13, n, nm, [⟨yk, yn, ym, ys⟩, ⟨zk, zn, zm, zs⟩]⟩ = exprX ⟨yk, yn, ym, ys⟩ 2 ++ [32, 43, 32] ++ exprX ⟨zk, zn, zm, zs⟩ 3 := by
        rw [textX_eq, ← kidX_at (l := [⟨yk, yn, ym, ys⟩, ⟨zk, zn, zm, zs⟩]) (i := 0) rfl, ← kidX_at (l := [⟨yk, yn, ym, ys⟩, ⟨zk, zn, zm, zs⟩]) (i := 1) rfl]; rfl
      rw [hT] at hfit fin
      have hlv : (shapeOf 13).1.level = 2 := rfl
      have hsg : (shapeOf 13).1.sign = ⟨#[32, 43, 32]⟩ := rfl
      rw [hlv, hsg] at hm6
      repeat (first | refine W.seq ?_ | refine W.block ?_ | refine W.skip ?_ | refine W.exit ?_ | refine W.region tab_ok b (by decide) (exec_run (by simp only [exa, beq_self_eq_true, ByteArray.size, Nat.reduceAdd, Nat.reduceLeDiff, Nat.reduceEqDiff, Nat.reduceMul, Int.reduceToNat, reduceIte, Int.reduceLE, Int.reduceNeg, h0, h4, h6, hm4, hm6]; rfl)) ?_)
      iterate 12 (refine W.cond rfl (fun h => absurd h (by decide)) (fun _ => ?_); repeat (first | refine W.seq ?_ | refine W.block ?_ | refine W.skip ?_ | refine W.exit ?_ | refine W.region tab_ok b (by decide) (exec_run (by simp only [exa, beq_self_eq_true, ByteArray.size, Nat.reduceAdd, Nat.reduceLeDiff, Nat.reduceEqDiff, Nat.reduceMul, Int.reduceToNat, reduceIte, Int.reduceLE, Int.reduceNeg, h0, h4, h6, hm4, hm6]; rfl)) ?_))
      refine W.regionDK tab_ok b follows_mixed (by kernel_rfl) (by decide) ?_
      refine runk_split 8 (by simp only [exa, beq_self_eq_true, ByteArray.size, Nat.reduceAdd, Nat.reduceLeDiff, Nat.reduceEqDiff, Nat.reduceMul, Int.reduceToNat, reduceIte, Int.reduceLE, Int.reduceNeg, killS_app, A.kill, jq, b4q, b6q, if_false, h0, h4, h6, hm4, hm6, cExpr, cShape, cExprs]; rfl) ?_
      refine runk_callE (D := [q]) rfl rfl rfl rfl rfl (fun i hi => by simp at hi; subst hi; exact nkq) (by simp) (cvs_cons cv_refl (cvs_cons cv_refl (cvs_cons cv_refl cvs_nil))) (exprM h1 f1 (hE ⟨yk, yn, ym, ys⟩ (by simp)) u' bs' 2 (by have hf := hfit; simp [txtB] at hf ⊢; omega)) ?_
      simp only [killL, putS]
      refine runk_exec (by simp only [exa, beq_self_eq_true, ByteArray.size, Nat.reduceAdd, Nat.reduceLeDiff, Nat.reduceEqDiff, Nat.reduceMul, Int.reduceToNat, reduceIte, Int.reduceLE, Int.reduceNeg]; rfl) ?_
      (repeat (first | refine W.seq ?_ | refine W.block ?_ | refine W.skip ?_))
      refine W.regionK tab_ok b (by decide) ?_
      refine runk_split 4 (by simp only [exa, beq_self_eq_true, ByteArray.size, Nat.reduceAdd, Nat.reduceLeDiff, Nat.reduceEqDiff, Nat.reduceMul, Int.reduceToNat, reduceIte, Int.reduceLE, Int.reduceNeg, killS_app, A.kill, jq, b4q, b6q, if_false, h0, h4, h6, hm4, hm6, cExpr, cShape]; rfl) ?_
      refine runk_callE (D := [q]) rfl rfl rfl rfl rfl (fun i hi => by simp at hi; subst hi; exact nkq) (by simp) (cvs_cons cv_refl (cvs_cons cv_refl cvs_nil)) (layM h1 true (bs' ++ exprX ⟨yk, yn, ym, ys⟩ 2) [⟨#[32, 43, 32]⟩] (by simp) (Nat.le_of_ble_eq_true rfl) (by have hf := hfit; simp [txtB] at hf ⊢; omega)) ?_
      simp only [killL, putS]
      refine runk_exec (by simp only [exa, beq_self_eq_true, ByteArray.size, Nat.reduceAdd, Nat.reduceLeDiff, Nat.reduceEqDiff, Nat.reduceMul, Int.reduceToNat, reduceIte, Int.reduceLE, Int.reduceNeg]; rfl) ?_
      (repeat (first | refine W.seq ?_ | refine W.block ?_ | refine W.skip ?_))
      refine W.regionDK tab_ok b follows_mixed (by kernel_rfl) (by decide) ?_
      refine runk_split 8 (by simp only [exa, beq_self_eq_true, ByteArray.size, Nat.reduceAdd, Nat.reduceLeDiff, Nat.reduceEqDiff, Nat.reduceMul, Int.reduceToNat, reduceIte, Int.reduceLE, Int.reduceNeg, killS_app, A.kill, jq, b4q, b6q, if_false, h0, h4, h6, hm4, hm6, cExpr, cShape, cExprs]; rfl) ?_
      refine runk_callE (D := [q]) rfl rfl rfl rfl rfl (fun i hi => by simp at hi; subst hi; exact nkq) (by simp) (cvs_cons cv_refl (cvs_cons cv_refl (cvs_cons cv_refl cvs_nil))) (exprM h1 f1 (hE ⟨zk, zn, zm, zs⟩ (by simp)) true (bs' ++ exprX ⟨yk, yn, ym, ys⟩ 2 ++ txtB [⟨#[32, 43, 32]⟩]) 3 (by have hf := hfit; simp [txtB] at hf ⊢; omega)) ?_
      simp only [killL, putS]
      refine runk_exec (by simp only [exa, beq_self_eq_true, ByteArray.size, Nat.reduceAdd, Nat.reduceLeDiff, Nat.reduceEqDiff, Nat.reduceMul, Int.reduceToNat, reduceIte, Int.reduceLE, Int.reduceNeg]; rfl) ?_
      refine fin _ _ (by simp [txtB]) ?_
      repeat (first | exact keeps_refl _ | refine keeps_upd (by decide) ?_ | refine keeps_kill h1.ne ?_)
    · obtain ⟨⟨yk, yn, ym, ys⟩, ⟨zk, zn, zm, zs⟩, rfl⟩ : ∃ y y2, kids = [y, y2] := len2' hlo hhi
      have hT : textX ⟨14, n, nm, [⟨yk, yn, ym, ys⟩, ⟨zk, zn, zm, zs⟩]⟩ = exprX ⟨yk, yn, ym, ys⟩ 2 ++ [32, 45, 32] ++ exprX ⟨zk, zn, zm, zs⟩ 3 := by
        rw [textX_eq, ← kidX_at (l := [⟨yk, yn, ym, ys⟩, ⟨zk, zn, zm, zs⟩]) (i := 0) rfl, ← kidX_at (l := [⟨yk, yn, ym, ys⟩, ⟨zk, zn, zm, zs⟩]) (i := 1) rfl]; rfl
      rw [hT] at hfit fin
      have hlv : (shapeOf 14).1.level = 2 := rfl
      have hsg : (shapeOf 14).1.sign = ⟨#[32, 45, 32]⟩ := rfl
      rw [hlv, hsg] at hm6
      repeat (first | refine W.seq ?_ | refine W.block ?_ | refine W.skip ?_ | refine W.exit ?_ | refine W.region tab_ok b (by decide) (exec_run (by simp only [exa, beq_self_eq_true, ByteArray.size, Nat.reduceAdd, Nat.reduceLeDiff, Nat.reduceEqDiff, Nat.reduceMul, Int.reduceToNat, reduceIte, Int.reduceLE, Int.reduceNeg, h0, h4, h6, hm4, hm6]; rfl)) ?_)
      iterate 12 (refine W.cond rfl (fun h => absurd h (by decide)) (fun _ => ?_); repeat (first | refine W.seq ?_ | refine W.block ?_ | refine W.skip ?_ | refine W.exit ?_ | refine W.region tab_ok b (by decide) (exec_run (by simp only [exa, beq_self_eq_true, ByteArray.size, Nat.reduceAdd, Nat.reduceLeDiff, Nat.reduceEqDiff, Nat.reduceMul, Int.reduceToNat, reduceIte, Int.reduceLE, Int.reduceNeg, h0, h4, h6, hm4, hm6]; rfl)) ?_))
      refine W.regionDK tab_ok b follows_mixed (by kernel_rfl) (by decide) ?_
      refine runk_split 8 (by simp only [exa, beq_self_eq_true, ByteArray.size, Nat.reduceAdd, Nat.reduceLeDiff, Nat.reduceEqDiff, Nat.reduceMul, Int.reduceToNat, reduceIte, Int.reduceLE, Int.reduceNeg, killS_app, A.kill, jq, b4q, b6q, if_false, h0, h4, h6, hm4, hm6, cExpr, cShape, cExprs]; rfl) ?_
      refine runk_callE (D := [q]) rfl rfl rfl rfl rfl (fun i hi => by simp at hi; subst hi; exact nkq) (by simp) (cvs_cons cv_refl (cvs_cons cv_refl (cvs_cons cv_refl cvs_nil))) (exprM h1 f1 (hE ⟨yk, yn, ym, ys⟩ (by simp)) u' bs' 2 (by have hf := hfit; simp [txtB] at hf ⊢; omega)) ?_
      simp only [killL, putS]
      refine runk_exec (by simp only [exa, beq_self_eq_true, ByteArray.size, Nat.reduceAdd, Nat.reduceLeDiff, Nat.reduceEqDiff, Nat.reduceMul, Int.reduceToNat, reduceIte, Int.reduceLE, Int.reduceNeg]; rfl) ?_
      (repeat (first | refine W.seq ?_ | refine W.block ?_ | refine W.skip ?_))
      refine W.regionK tab_ok b (by decide) ?_
      refine runk_split 4 (by simp only [exa, beq_self_eq_true, ByteArray.size, Nat.reduceAdd, Nat.reduceLeDiff, Nat.reduceEqDiff, Nat.reduceMul, Int.reduceToNat, reduceIte, Int.reduceLE, Int.reduceNeg, killS_app, A.kill, jq, b4q, b6q, if_false, h0, h4, h6, hm4, hm6, cExpr, cShape]; rfl) ?_
      refine runk_callE (D := [q]) rfl rfl rfl rfl rfl (fun i hi => by simp at hi; subst hi; exact nkq) (by simp) (cvs_cons cv_refl (cvs_cons cv_refl cvs_nil)) (layM h1 true (bs' ++ exprX ⟨yk, yn, ym, ys⟩ 2) [⟨#[32, 45, 32]⟩] (by simp) (Nat.le_of_ble_eq_true rfl) (by have hf := hfit; simp [txtB] at hf ⊢; omega)) ?_
      simp only [killL, putS]
      refine runk_exec (by simp only [exa, beq_self_eq_true, ByteArray.size, Nat.reduceAdd, Nat.reduceLeDiff, Nat.reduceEqDiff, Nat.reduceMul, Int.reduceToNat, reduceIte, Int.reduceLE, Int.reduceNeg]; rfl) ?_
      (repeat (first | refine W.seq ?_ | refine W.block ?_ | refine W.skip ?_))
      refine W.regionDK tab_ok b follows_mixed (by kernel_rfl) (by decide) ?_
      refine runk_split 8 (by simp only [exa, beq_self_eq_true, ByteArray.size, Nat.reduceAdd, Nat.reduceLeDiff, Nat.reduceEqDiff, Nat.reduceMul, Int.reduceToNat, reduceIte, Int.reduceLE, Int.reduceNeg, killS_app, A.kill, jq, b4q, b6q, if_false, h0, h4, h6, hm4, hm6, cExpr, cShape, cExprs]; rfl) ?_
      refine runk_callE (D := [q]) rfl rfl rfl rfl rfl (fun i hi => by simp at hi; subst hi; exact nkq) (by simp) (cvs_cons cv_refl (cvs_cons cv_refl (cvs_cons cv_refl cvs_nil))) (exprM h1 f1 (hE ⟨zk, zn, zm, zs⟩ (by simp)) true (bs' ++ exprX ⟨yk, yn, ym, ys⟩ 2 ++ txtB [⟨#[32, 45, 32]⟩]) 3 (by have hf := hfit; simp [txtB] at hf ⊢; omega)) ?_
      simp only [killL, putS]
      refine runk_exec (by simp only [exa, beq_self_eq_true, ByteArray.size, Nat.reduceAdd, Nat.reduceLeDiff, Nat.reduceEqDiff, Nat.reduceMul, Int.reduceToNat, reduceIte, Int.reduceLE, Int.reduceNeg]; rfl) ?_
      refine fin _ _ (by simp [txtB]) ?_
      repeat (first | exact keeps_refl _ | refine keeps_upd (by decide) ?_ | refine keeps_kill h1.ne ?_)
    · obtain ⟨⟨yk, yn, ym, ys⟩, ⟨zk, zn, zm, zs⟩, rfl⟩ : ∃ y y2, kids = [y, y2] := len2' hlo hhi
      have hT : textX ⟨15, n, nm, [⟨yk, yn, ym, ys⟩, ⟨zk, zn, zm, zs⟩]⟩ = exprX ⟨yk, yn, ym, ys⟩ 3 ++ [32, 42, 32] ++ exprX ⟨zk, zn, zm, zs⟩ 4 := by
        rw [textX_eq, ← kidX_at (l := [⟨yk, yn, ym, ys⟩, ⟨zk, zn, zm, zs⟩]) (i := 0) rfl, ← kidX_at (l := [⟨yk, yn, ym, ys⟩, ⟨zk, zn, zm, zs⟩]) (i := 1) rfl]; rfl
      rw [hT] at hfit fin
      have hlv : (shapeOf 15).1.level = 3 := rfl
      have hsg : (shapeOf 15).1.sign = ⟨#[32, 42, 32]⟩ := rfl
      rw [hlv, hsg] at hm6
      repeat (first | refine W.seq ?_ | refine W.block ?_ | refine W.skip ?_ | refine W.exit ?_ | refine W.region tab_ok b (by decide) (exec_run (by simp only [exa, beq_self_eq_true, ByteArray.size, Nat.reduceAdd, Nat.reduceLeDiff, Nat.reduceEqDiff, Nat.reduceMul, Int.reduceToNat, reduceIte, Int.reduceLE, Int.reduceNeg, h0, h4, h6, hm4, hm6]; rfl)) ?_)
      iterate 12 (refine W.cond rfl (fun h => absurd h (by decide)) (fun _ => ?_); repeat (first | refine W.seq ?_ | refine W.block ?_ | refine W.skip ?_ | refine W.exit ?_ | refine W.region tab_ok b (by decide) (exec_run (by simp only [exa, beq_self_eq_true, ByteArray.size, Nat.reduceAdd, Nat.reduceLeDiff, Nat.reduceEqDiff, Nat.reduceMul, Int.reduceToNat, reduceIte, Int.reduceLE, Int.reduceNeg, h0, h4, h6, hm4, hm6]; rfl)) ?_))
      refine W.regionDK tab_ok b follows_mixed (by kernel_rfl) (by decide) ?_
      refine runk_split 8 (by simp only [exa, beq_self_eq_true, ByteArray.size, Nat.reduceAdd, Nat.reduceLeDiff, Nat.reduceEqDiff, Nat.reduceMul, Int.reduceToNat, reduceIte, Int.reduceLE, Int.reduceNeg, killS_app, A.kill, jq, b4q, b6q, if_false, h0, h4, h6, hm4, hm6, cExpr, cShape, cExprs]; rfl) ?_
      refine runk_callE (D := [q]) rfl rfl rfl rfl rfl (fun i hi => by simp at hi; subst hi; exact nkq) (by simp) (cvs_cons cv_refl (cvs_cons cv_refl (cvs_cons cv_refl cvs_nil))) (exprM h1 f1 (hE ⟨yk, yn, ym, ys⟩ (by simp)) u' bs' 3 (by have hf := hfit; simp [txtB] at hf ⊢; omega)) ?_
      simp only [killL, putS]
      refine runk_exec (by simp only [exa, beq_self_eq_true, ByteArray.size, Nat.reduceAdd, Nat.reduceLeDiff, Nat.reduceEqDiff, Nat.reduceMul, Int.reduceToNat, reduceIte, Int.reduceLE, Int.reduceNeg]; rfl) ?_
      (repeat (first | refine W.seq ?_ | refine W.block ?_ | refine W.skip ?_))
      refine W.regionK tab_ok b (by decide) ?_
      refine runk_split 4 (by simp only [exa, beq_self_eq_true, ByteArray.size, Nat.reduceAdd, Nat.reduceLeDiff, Nat.reduceEqDiff, Nat.reduceMul, Int.reduceToNat, reduceIte, Int.reduceLE, Int.reduceNeg, killS_app, A.kill, jq, b4q, b6q, if_false, h0, h4, h6, hm4, hm6, cExpr, cShape]; rfl) ?_
      refine runk_callE (D := [q]) rfl rfl rfl rfl rfl (fun i hi => by simp at hi; subst hi; exact nkq) (by simp) (cvs_cons cv_refl (cvs_cons cv_refl cvs_nil)) (layM h1 true (bs' ++ exprX ⟨yk, yn, ym, ys⟩ 3) [⟨#[32, 42, 32]⟩] (by simp) (Nat.le_of_ble_eq_true rfl) (by have hf := hfit; simp [txtB] at hf ⊢; omega)) ?_
      simp only [killL, putS]
      refine runk_exec (by simp only [exa, beq_self_eq_true, ByteArray.size, Nat.reduceAdd, Nat.reduceLeDiff, Nat.reduceEqDiff, Nat.reduceMul, Int.reduceToNat, reduceIte, Int.reduceLE, Int.reduceNeg]; rfl) ?_
      (repeat (first | refine W.seq ?_ | refine W.block ?_ | refine W.skip ?_))
      refine W.regionDK tab_ok b follows_mixed (by kernel_rfl) (by decide) ?_
      refine runk_split 8 (by simp only [exa, beq_self_eq_true, ByteArray.size, Nat.reduceAdd, Nat.reduceLeDiff, Nat.reduceEqDiff, Nat.reduceMul, Int.reduceToNat, reduceIte, Int.reduceLE, Int.reduceNeg, killS_app, A.kill, jq, b4q, b6q, if_false, h0, h4, h6, hm4, hm6, cExpr, cShape, cExprs]; rfl) ?_
      refine runk_callE (D := [q]) rfl rfl rfl rfl rfl (fun i hi => by simp at hi; subst hi; exact nkq) (by simp) (cvs_cons cv_refl (cvs_cons cv_refl (cvs_cons cv_refl cvs_nil))) (exprM h1 f1 (hE ⟨zk, zn, zm, zs⟩ (by simp)) true (bs' ++ exprX ⟨yk, yn, ym, ys⟩ 3 ++ txtB [⟨#[32, 42, 32]⟩]) 4 (by have hf := hfit; simp [txtB] at hf ⊢; omega)) ?_
      simp only [killL, putS]
      refine runk_exec (by simp only [exa, beq_self_eq_true, ByteArray.size, Nat.reduceAdd, Nat.reduceLeDiff, Nat.reduceEqDiff, Nat.reduceMul, Int.reduceToNat, reduceIte, Int.reduceLE, Int.reduceNeg]; rfl) ?_
      refine fin _ _ (by simp [txtB]) ?_
      repeat (first | exact keeps_refl _ | refine keeps_upd (by decide) ?_ | refine keeps_kill h1.ne ?_)
    · obtain ⟨⟨yk, yn, ym, ys⟩, ⟨zk, zn, zm, zs⟩, rfl⟩ : ∃ y y2, kids = [y, y2] := len2' hlo hhi
      have hT : textX ⟨16, n, nm, [⟨yk, yn, ym, ys⟩, ⟨zk, zn, zm, zs⟩]⟩ = exprX ⟨yk, yn, ym, ys⟩ 3 ++ [32, 47, 32] ++ exprX ⟨zk, zn, zm, zs⟩ 4 := by
        rw [textX_eq, ← kidX_at (l := [⟨yk, yn, ym, ys⟩, ⟨zk, zn, zm, zs⟩]) (i := 0) rfl, ← kidX_at (l := [⟨yk, yn, ym, ys⟩, ⟨zk, zn, zm, zs⟩]) (i := 1) rfl]; rfl
      rw [hT] at hfit fin
      have hlv : (shapeOf 16).1.level = 3 := rfl
      have hsg : (shapeOf 16).1.sign = ⟨#[32, 47, 32]⟩ := rfl
      rw [hlv, hsg] at hm6
      repeat (first | refine W.seq ?_ | refine W.block ?_ | refine W.skip ?_ | refine W.exit ?_ | refine W.region tab_ok b (by decide) (exec_run (by simp only [exa, beq_self_eq_true, ByteArray.size, Nat.reduceAdd, Nat.reduceLeDiff, Nat.reduceEqDiff, Nat.reduceMul, Int.reduceToNat, reduceIte, Int.reduceLE, Int.reduceNeg, h0, h4, h6, hm4, hm6]; rfl)) ?_)
      iterate 12 (refine W.cond rfl (fun h => absurd h (by decide)) (fun _ => ?_); repeat (first | refine W.seq ?_ | refine W.block ?_ | refine W.skip ?_ | refine W.exit ?_ | refine W.region tab_ok b (by decide) (exec_run (by simp only [exa, beq_self_eq_true, ByteArray.size, Nat.reduceAdd, Nat.reduceLeDiff, Nat.reduceEqDiff, Nat.reduceMul, Int.reduceToNat, reduceIte, Int.reduceLE, Int.reduceNeg, h0, h4, h6, hm4, hm6]; rfl)) ?_))
      refine W.regionDK tab_ok b follows_mixed (by kernel_rfl) (by decide) ?_
      refine runk_split 8 (by simp only [exa, beq_self_eq_true, ByteArray.size, Nat.reduceAdd, Nat.reduceLeDiff, Nat.reduceEqDiff, Nat.reduceMul, Int.reduceToNat, reduceIte, Int.reduceLE, Int.reduceNeg, killS_app, A.kill, jq, b4q, b6q, if_false, h0, h4, h6, hm4, hm6, cExpr, cShape, cExprs]; rfl) ?_
      refine runk_callE (D := [q]) rfl rfl rfl rfl rfl (fun i hi => by simp at hi; subst hi; exact nkq) (by simp) (cvs_cons cv_refl (cvs_cons cv_refl (cvs_cons cv_refl cvs_nil))) (exprM h1 f1 (hE ⟨yk, yn, ym, ys⟩ (by simp)) u' bs' 3 (by have hf := hfit; simp [txtB] at hf ⊢; omega)) ?_
      simp only [killL, putS]
      refine runk_exec (by simp only [exa, beq_self_eq_true, ByteArray.size, Nat.reduceAdd, Nat.reduceLeDiff, Nat.reduceEqDiff, Nat.reduceMul, Int.reduceToNat, reduceIte, Int.reduceLE, Int.reduceNeg]; rfl) ?_
      (repeat (first | refine W.seq ?_ | refine W.block ?_ | refine W.skip ?_))
      refine W.regionK tab_ok b (by decide) ?_
      refine runk_split 4 (by simp only [exa, beq_self_eq_true, ByteArray.size, Nat.reduceAdd, Nat.reduceLeDiff, Nat.reduceEqDiff, Nat.reduceMul, Int.reduceToNat, reduceIte, Int.reduceLE, Int.reduceNeg, killS_app, A.kill, jq, b4q, b6q, if_false, h0, h4, h6, hm4, hm6, cExpr, cShape]; rfl) ?_
      refine runk_callE (D := [q]) rfl rfl rfl rfl rfl (fun i hi => by simp at hi; subst hi; exact nkq) (by simp) (cvs_cons cv_refl (cvs_cons cv_refl cvs_nil)) (layM h1 true (bs' ++ exprX ⟨yk, yn, ym, ys⟩ 3) [⟨#[32, 47, 32]⟩] (by simp) (Nat.le_of_ble_eq_true rfl) (by have hf := hfit; simp [txtB] at hf ⊢; omega)) ?_
      simp only [killL, putS]
      refine runk_exec (by simp only [exa, beq_self_eq_true, ByteArray.size, Nat.reduceAdd, Nat.reduceLeDiff, Nat.reduceEqDiff, Nat.reduceMul, Int.reduceToNat, reduceIte, Int.reduceLE, Int.reduceNeg]; rfl) ?_
      (repeat (first | refine W.seq ?_ | refine W.block ?_ | refine W.skip ?_))
      refine W.regionDK tab_ok b follows_mixed (by kernel_rfl) (by decide) ?_
      refine runk_split 8 (by simp only [exa, beq_self_eq_true, ByteArray.size, Nat.reduceAdd, Nat.reduceLeDiff, Nat.reduceEqDiff, Nat.reduceMul, Int.reduceToNat, reduceIte, Int.reduceLE, Int.reduceNeg, killS_app, A.kill, jq, b4q, b6q, if_false, h0, h4, h6, hm4, hm6, cExpr, cShape, cExprs]; rfl) ?_
      refine runk_callE (D := [q]) rfl rfl rfl rfl rfl (fun i hi => by simp at hi; subst hi; exact nkq) (by simp) (cvs_cons cv_refl (cvs_cons cv_refl (cvs_cons cv_refl cvs_nil))) (exprM h1 f1 (hE ⟨zk, zn, zm, zs⟩ (by simp)) true (bs' ++ exprX ⟨yk, yn, ym, ys⟩ 3 ++ txtB [⟨#[32, 47, 32]⟩]) 4 (by have hf := hfit; simp [txtB] at hf ⊢; omega)) ?_
      simp only [killL, putS]
      refine runk_exec (by simp only [exa, beq_self_eq_true, ByteArray.size, Nat.reduceAdd, Nat.reduceLeDiff, Nat.reduceEqDiff, Nat.reduceMul, Int.reduceToNat, reduceIte, Int.reduceLE, Int.reduceNeg]; rfl) ?_
      refine fin _ _ (by simp [txtB]) ?_
      repeat (first | exact keeps_refl _ | refine keeps_upd (by decide) ?_ | refine keeps_kill h1.ne ?_)
    · obtain ⟨⟨yk, yn, ym, ys⟩, ⟨zk, zn, zm, zs⟩, rfl⟩ : ∃ y y2, kids = [y, y2] := len2' hlo hhi
      have hT : textX ⟨17, n, nm, [⟨yk, yn, ym, ys⟩, ⟨zk, zn, zm, zs⟩]⟩ = exprX ⟨yk, yn, ym, ys⟩ 2 ++ [32, 60, 32] ++ exprX ⟨zk, zn, zm, zs⟩ 2 := by
        rw [textX_eq, ← kidX_at (l := [⟨yk, yn, ym, ys⟩, ⟨zk, zn, zm, zs⟩]) (i := 0) rfl, ← kidX_at (l := [⟨yk, yn, ym, ys⟩, ⟨zk, zn, zm, zs⟩]) (i := 1) rfl]; rfl
      rw [hT] at hfit fin
      have hlv : (shapeOf 17).1.level = 1 := rfl
      have hsg : (shapeOf 17).1.sign = ⟨#[32, 60, 32]⟩ := rfl
      rw [hlv, hsg] at hm6
      repeat (first | refine W.seq ?_ | refine W.block ?_ | refine W.skip ?_ | refine W.exit ?_ | refine W.region tab_ok b (by decide) (exec_run (by simp only [exa, beq_self_eq_true, ByteArray.size, Nat.reduceAdd, Nat.reduceLeDiff, Nat.reduceEqDiff, Nat.reduceMul, Int.reduceToNat, reduceIte, Int.reduceLE, Int.reduceNeg, h0, h4, h6, hm4, hm6]; rfl)) ?_)
      iterate 12 (refine W.cond rfl (fun h => absurd h (by decide)) (fun _ => ?_); repeat (first | refine W.seq ?_ | refine W.block ?_ | refine W.skip ?_ | refine W.exit ?_ | refine W.region tab_ok b (by decide) (exec_run (by simp only [exa, beq_self_eq_true, ByteArray.size, Nat.reduceAdd, Nat.reduceLeDiff, Nat.reduceEqDiff, Nat.reduceMul, Int.reduceToNat, reduceIte, Int.reduceLE, Int.reduceNeg, h0, h4, h6, hm4, hm6]; rfl)) ?_))
      refine W.regionDK tab_ok b follows_mixed (by kernel_rfl) (by decide) ?_
      refine runk_split 8 (by simp only [exa, beq_self_eq_true, ByteArray.size, Nat.reduceAdd, Nat.reduceLeDiff, Nat.reduceEqDiff, Nat.reduceMul, Int.reduceToNat, reduceIte, Int.reduceLE, Int.reduceNeg, killS_app, A.kill, jq, b4q, b6q, if_false, h0, h4, h6, hm4, hm6, cExpr, cShape, cExprs]; rfl) ?_
      refine runk_callE (D := [q]) rfl rfl rfl rfl rfl (fun i hi => by simp at hi; subst hi; exact nkq) (by simp) (cvs_cons cv_refl (cvs_cons cv_refl (cvs_cons cv_refl cvs_nil))) (exprM h1 f1 (hE ⟨yk, yn, ym, ys⟩ (by simp)) u' bs' 2 (by have hf := hfit; simp [txtB] at hf ⊢; omega)) ?_
      simp only [killL, putS]
      refine runk_exec (by simp only [exa, beq_self_eq_true, ByteArray.size, Nat.reduceAdd, Nat.reduceLeDiff, Nat.reduceEqDiff, Nat.reduceMul, Int.reduceToNat, reduceIte, Int.reduceLE, Int.reduceNeg]; rfl) ?_
      (repeat (first | refine W.seq ?_ | refine W.block ?_ | refine W.skip ?_))
      refine W.regionK tab_ok b (by decide) ?_
      refine runk_split 4 (by simp only [exa, beq_self_eq_true, ByteArray.size, Nat.reduceAdd, Nat.reduceLeDiff, Nat.reduceEqDiff, Nat.reduceMul, Int.reduceToNat, reduceIte, Int.reduceLE, Int.reduceNeg, killS_app, A.kill, jq, b4q, b6q, if_false, h0, h4, h6, hm4, hm6, cExpr, cShape]; rfl) ?_
      refine runk_callE (D := [q]) rfl rfl rfl rfl rfl (fun i hi => by simp at hi; subst hi; exact nkq) (by simp) (cvs_cons cv_refl (cvs_cons cv_refl cvs_nil)) (layM h1 true (bs' ++ exprX ⟨yk, yn, ym, ys⟩ 2) [⟨#[32, 60, 32]⟩] (by simp) (Nat.le_of_ble_eq_true rfl) (by have hf := hfit; simp [txtB] at hf ⊢; omega)) ?_
      simp only [killL, putS]
      refine runk_exec (by simp only [exa, beq_self_eq_true, ByteArray.size, Nat.reduceAdd, Nat.reduceLeDiff, Nat.reduceEqDiff, Nat.reduceMul, Int.reduceToNat, reduceIte, Int.reduceLE, Int.reduceNeg]; rfl) ?_
      (repeat (first | refine W.seq ?_ | refine W.block ?_ | refine W.skip ?_))
      refine W.regionDK tab_ok b follows_mixed (by kernel_rfl) (by decide) ?_
      refine runk_split 8 (by simp only [exa, beq_self_eq_true, ByteArray.size, Nat.reduceAdd, Nat.reduceLeDiff, Nat.reduceEqDiff, Nat.reduceMul, Int.reduceToNat, reduceIte, Int.reduceLE, Int.reduceNeg, killS_app, A.kill, jq, b4q, b6q, if_false, h0, h4, h6, hm4, hm6, cExpr, cShape, cExprs]; rfl) ?_
      refine runk_callE (D := [q]) rfl rfl rfl rfl rfl (fun i hi => by simp at hi; subst hi; exact nkq) (by simp) (cvs_cons cv_refl (cvs_cons cv_refl (cvs_cons cv_refl cvs_nil))) (exprM h1 f1 (hE ⟨zk, zn, zm, zs⟩ (by simp)) true (bs' ++ exprX ⟨yk, yn, ym, ys⟩ 2 ++ txtB [⟨#[32, 60, 32]⟩]) 2 (by have hf := hfit; simp [txtB] at hf ⊢; omega)) ?_
      simp only [killL, putS]
      refine runk_exec (by simp only [exa, beq_self_eq_true, ByteArray.size, Nat.reduceAdd, Nat.reduceLeDiff, Nat.reduceEqDiff, Nat.reduceMul, Int.reduceToNat, reduceIte, Int.reduceLE, Int.reduceNeg]; rfl) ?_
      refine fin _ _ (by simp [txtB]) ?_
      repeat (first | exact keeps_refl _ | refine keeps_upd (by decide) ?_ | refine keeps_kill h1.ne ?_)
    · obtain ⟨⟨yk, yn, ym, ys⟩, ⟨zk, zn, zm, zs⟩, rfl⟩ : ∃ y y2, kids = [y, y2] := len2' hlo hhi
      have hT : textX ⟨18, n, nm, [⟨yk, yn, ym, ys⟩, ⟨zk, zn, zm, zs⟩]⟩ = exprX ⟨yk, yn, ym, ys⟩ 2 ++ [32, 61, 61, 32] ++ exprX ⟨zk, zn, zm, zs⟩ 2 := by
        rw [textX_eq, ← kidX_at (l := [⟨yk, yn, ym, ys⟩, ⟨zk, zn, zm, zs⟩]) (i := 0) rfl, ← kidX_at (l := [⟨yk, yn, ym, ys⟩, ⟨zk, zn, zm, zs⟩]) (i := 1) rfl]; rfl
      rw [hT] at hfit fin
      have hlv : (shapeOf 18).1.level = 1 := rfl
      have hsg : (shapeOf 18).1.sign = ⟨#[32, 61, 61, 32]⟩ := rfl
      rw [hlv, hsg] at hm6
      repeat (first | refine W.seq ?_ | refine W.block ?_ | refine W.skip ?_ | refine W.exit ?_ | refine W.region tab_ok b (by decide) (exec_run (by simp only [exa, beq_self_eq_true, ByteArray.size, Nat.reduceAdd, Nat.reduceLeDiff, Nat.reduceEqDiff, Nat.reduceMul, Int.reduceToNat, reduceIte, Int.reduceLE, Int.reduceNeg, h0, h4, h6, hm4, hm6]; rfl)) ?_)
      iterate 12 (refine W.cond rfl (fun h => absurd h (by decide)) (fun _ => ?_); repeat (first | refine W.seq ?_ | refine W.block ?_ | refine W.skip ?_ | refine W.exit ?_ | refine W.region tab_ok b (by decide) (exec_run (by simp only [exa, beq_self_eq_true, ByteArray.size, Nat.reduceAdd, Nat.reduceLeDiff, Nat.reduceEqDiff, Nat.reduceMul, Int.reduceToNat, reduceIte, Int.reduceLE, Int.reduceNeg, h0, h4, h6, hm4, hm6]; rfl)) ?_))
      refine W.regionDK tab_ok b follows_mixed (by kernel_rfl) (by decide) ?_
      refine runk_split 8 (by simp only [exa, beq_self_eq_true, ByteArray.size, Nat.reduceAdd, Nat.reduceLeDiff, Nat.reduceEqDiff, Nat.reduceMul, Int.reduceToNat, reduceIte, Int.reduceLE, Int.reduceNeg, killS_app, A.kill, jq, b4q, b6q, if_false, h0, h4, h6, hm4, hm6, cExpr, cShape, cExprs]; rfl) ?_
      refine runk_callE (D := [q]) rfl rfl rfl rfl rfl (fun i hi => by simp at hi; subst hi; exact nkq) (by simp) (cvs_cons cv_refl (cvs_cons cv_refl (cvs_cons cv_refl cvs_nil))) (exprM h1 f1 (hE ⟨yk, yn, ym, ys⟩ (by simp)) u' bs' 2 (by have hf := hfit; simp [txtB] at hf ⊢; omega)) ?_
      simp only [killL, putS]
      refine runk_exec (by simp only [exa, beq_self_eq_true, ByteArray.size, Nat.reduceAdd, Nat.reduceLeDiff, Nat.reduceEqDiff, Nat.reduceMul, Int.reduceToNat, reduceIte, Int.reduceLE, Int.reduceNeg]; rfl) ?_
      (repeat (first | refine W.seq ?_ | refine W.block ?_ | refine W.skip ?_))
      refine W.regionK tab_ok b (by decide) ?_
      refine runk_split 4 (by simp only [exa, beq_self_eq_true, ByteArray.size, Nat.reduceAdd, Nat.reduceLeDiff, Nat.reduceEqDiff, Nat.reduceMul, Int.reduceToNat, reduceIte, Int.reduceLE, Int.reduceNeg, killS_app, A.kill, jq, b4q, b6q, if_false, h0, h4, h6, hm4, hm6, cExpr, cShape]; rfl) ?_
      refine runk_callE (D := [q]) rfl rfl rfl rfl rfl (fun i hi => by simp at hi; subst hi; exact nkq) (by simp) (cvs_cons cv_refl (cvs_cons cv_refl cvs_nil)) (layM h1 true (bs' ++ exprX ⟨yk, yn, ym, ys⟩ 2) [⟨#[32, 61, 61, 32]⟩] (by simp) (Nat.le_of_ble_eq_true rfl) (by have hf := hfit; simp [txtB] at hf ⊢; omega)) ?_
      simp only [killL, putS]
      refine runk_exec (by simp only [exa, beq_self_eq_true, ByteArray.size, Nat.reduceAdd, Nat.reduceLeDiff, Nat.reduceEqDiff, Nat.reduceMul, Int.reduceToNat, reduceIte, Int.reduceLE, Int.reduceNeg]; rfl) ?_
      (repeat (first | refine W.seq ?_ | refine W.block ?_ | refine W.skip ?_))
      refine W.regionDK tab_ok b follows_mixed (by kernel_rfl) (by decide) ?_
      refine runk_split 8 (by simp only [exa, beq_self_eq_true, ByteArray.size, Nat.reduceAdd, Nat.reduceLeDiff, Nat.reduceEqDiff, Nat.reduceMul, Int.reduceToNat, reduceIte, Int.reduceLE, Int.reduceNeg, killS_app, A.kill, jq, b4q, b6q, if_false, h0, h4, h6, hm4, hm6, cExpr, cShape, cExprs]; rfl) ?_
      refine runk_callE (D := [q]) rfl rfl rfl rfl rfl (fun i hi => by simp at hi; subst hi; exact nkq) (by simp) (cvs_cons cv_refl (cvs_cons cv_refl (cvs_cons cv_refl cvs_nil))) (exprM h1 f1 (hE ⟨zk, zn, zm, zs⟩ (by simp)) true (bs' ++ exprX ⟨yk, yn, ym, ys⟩ 2 ++ txtB [⟨#[32, 61, 61, 32]⟩]) 2 (by have hf := hfit; simp [txtB] at hf ⊢; omega)) ?_
      simp only [killL, putS]
      refine runk_exec (by simp only [exa, beq_self_eq_true, ByteArray.size, Nat.reduceAdd, Nat.reduceLeDiff, Nat.reduceEqDiff, Nat.reduceMul, Int.reduceToNat, reduceIte, Int.reduceLE, Int.reduceNeg]; rfl) ?_
      refine fin _ _ (by simp [txtB]) ?_
      repeat (first | exact keeps_refl _ | refine keeps_upd (by decide) ?_ | refine keeps_kill h1.ne ?_)
end V
end Go.Proofs.YtbmbmcdaabhgnaaDoor
end
section
set_option linter.unusedVariables false
set_option linter.unusedSimpArgs false
namespace Go.Proofs.YtbmbmcdaabhgnaaDoor
namespace V
open Go.RowKit
theorem repeat_ok (t : Nat) (ht : t ≤ 140737488351232) (m : Mem) : COk Tryd.prog 49 [.c (.str ⟨#[9]⟩), .c (.int .i64 t)] m (.c (.str ⟨(tabX t).toArray⟩)) := by
  refine ⟨enters_of Tryd.func49 (by kernel_rfl) rfl, rfl, fun m' _ => ?_⟩
  intro w0 I0 B I w vals hm hv
  match vals, hv with
  | [v, v2], ⟨h1, h2, _⟩ =>
    cases h1
    cases h2
    refine (Tryd.strings_Repeat ⟨#[9]⟩ t w (by omega) (by show 1 * t ≤ 140737488355328; omega)).mono ?_
    rintro e w' ⟨rfl, hb⟩
    have e1 : Lib.repeatL (⟨#[9]⟩ : ByteArray).data.toList t = tabX t := by
      have := Lib.repeatL_replicate 9 1 t
      rw [Nat.mul_one] at this
      exact this
    rw [e1]
    exact ⟨_, I, rfl, hb, fun _ _ k => k, fun _ _ k => .inl k, .str (by show (tabX t).toArray.size ≤ _; rw [List.size_toArray, tabX_len]; exact Nat.le_trans ht (by decide))⟩
theorem join_comma : ∀ l : List (List UInt8), Lib.join l [44, 32] = commaX l
  | [] => rfl
  | [a] => by simp [Lib.join, List.intercalate, commaX]
  | a :: b :: l => by
    have := join_comma (b :: l)
    simp only [Lib.join, List.intercalate] at this ⊢
    simp only [List.intersperse, List.flatten_cons, commaX, this]
    simp
theorem join_ok (l : List ByteArray) (hl : l.length ≤ 1000000) (hs : (commaX (l.map (·.data.toList))).length ≤ 140737488351232) (m : Mem) : COk Tryd.prog 25 [.c (.sl (l.map cStr)), .c (.str ⟨#[44, 32]⟩)] m (.c (.str ⟨(commaX (l.map (·.data.toList))).toArray⟩)) := by
  refine ⟨enters_of Tryd.func25 (by kernel_rfl) rfl, rfl, fun m' _ => ?_⟩
  intro w0 I0 B I w vals hm hv
  match vals, hv with
  | [v, v2], ⟨h1, h2, _⟩ =>
    cases h2
    cases h1 with
    | sl f hn hc hm2 hel ha hr =>
      rename_i a n cap e
      match l, hl, hs, hn, hel, ha, hr with
      | [], _, _, hn, _, _, _ =>
        have hn : n = 0 := by simpa using hn.symm
        subst hn
        refine (Tryd.strings_Join_none a cap ⟨#[44, 32]⟩ w).mono ?_
        rintro e w' ⟨rfl, rfl⟩
        exact ⟨_, I, rfl, Below.refl _ _, fun _ _ k => k, fun _ _ k => .inl k, .str (by decide)⟩
      | x :: l, hl, hs, hn, hel, ha, hr =>
        obtain ⟨b, off, rfl, -⟩ := ha 0 (cStr x) rfl
        obtain rfl : e = 1 := (hel (cStr x) (by simp)).symm
        obtain rfl : n = (x :: l).length := by rw [← hn, List.length_map]
        have hcells : ∀ (j : Nat) y, (x :: l)[j]? = some y → I b (off + j) ∧ w.cell? ⟨b, off + j, none⟩ = some (.string y) := fun j y hy => by
          have hj : ((x :: l).map cStr)[j]? = some (cStr y) := by rw [List.getElem?_map, hy]; rfl
          obtain ⟨b', off', e', hc⟩ := ha j _ hj
          simp only [Option.some.injEq, Addr.mk.injEq, and_true] at e'
          obtain ⟨rfl, rfl⟩ := e'
          obtain ⟨c1, c2⟩ := hc 0 (by decide)
          have hf := hr j 0 _ _ hj (show (cStr y)[0]? = some (.str y) from rfl)
          rw [show off + j * 1 + 0 = off + j by omega] at c1 c2
          cases hfe : f j 0 with
          | string s => rw [hfe] at hf c2; cases hf; exact ⟨c1, c2⟩
          | _ => rw [hfe] at hf; cases hf
        have hb := hm.there b off (by simpa using (hcells 0 x rfl).1)
        have hjn := join_comma ((x :: l).map (·.data.toList))
        refine (Tryd.strings_Join b off cap (x :: l) ⟨#[44, 32]⟩ w (fun j y hy => (hcells j y hy).2) hb (by omega) hc (by rw [show (⟨#[44, 32]⟩ : ByteArray).data.toList = [44, 32] from rfl, hjn]; exact Nat.le_trans hs (by decide))).mono ?_
        rintro e w' ⟨rfl, hb⟩
        rw [show (⟨#[44, 32]⟩ : ByteArray).data.toList = [44, 32] from rfl, hjn]
        exact ⟨_, I, rfl, hb, fun _ _ k => k, fun _ _ k => .inl k, .str (by show (commaX _).toArray.size ≤ _; rw [List.size_toArray]; exact Nat.le_trans hs (by decide))⟩
theorem tab_up {M : Mem} {j q : Nat} {t t' : Int} {bs : List UInt8} (h : j ≠ q) : upd (pgM M j q true t bs) j (some (.box 47 [.ptr j 0, .own q, .c (.int .i64 t')])) = pgM M j q true t' bs := by
  funext i
  unfold pgM upd
  by_cases e2 : i = q
  · subst e2; simp [Ne.symm h]
  · by_cases e1 : i = j
    · subst e1; simp [e2, pageB, adrB]
    · simp [e1, e2]
theorem line_ok {M : Mem} {j q : Nat} {u : Bool} {t : Nat} {bs : List UInt8} (h : PgAt M j q u t bs) (l : List ByteArray) (hl : l.length ≤ 1000000000) (hs : bs.length + t + (txtB l).length ≤ 140737488351232) :
    CallE Tryd.prog 24 [.ptr j 0, .c (.sl (l.map cStr))] M [q] (.tup []) (pgM M j q true t (bs ++ tabX t ++ txtB l)) := by
  have hjs : (M j).isSome = true := by rw [h.box]; rfl
  have hbx := h.box
  unfold pageB at hbx
  have htl := tabX_len t
  have h1 := lay_ok h [⟨(tabX t).toArray⟩] (by simp) (by simp [txtB, htl]; omega)
  rw [show txtB [(⟨(tabX t).toArray⟩ : ByteArray)] = tabX t by simp [txtB], show layU u [(⟨(tabX t).toArray⟩ : ByteArray)] = true by simp [layU]] at h1
  have h2 := lay_ok (h.pgM (u' := true) (t' := t) (bs' := bs ++ tabX t)) l hl (by rw [List.length_append, htl]; omega)
  rw [pgM_pgM h.ne, show layU true l = true by simp [layU]] at h2
  refine (ok_eff tab_ok [q] Tryd.func24 (by kernel_rfl) rfl rfl (by rfl) (by rfl) ?ids ?res ?sub ?wfm (fun hWF Rr hkeep => ?_))
  case ids => intro a ha i hi; simp at ha; rcases ha with rfl | rfl <;> simp [A.ids] at hi; subst hi; exact hjs
  case res => intro i hi; simp [A.ids] at hi
  case sub => exact pgM_live
  case wfm => exact pgM_wf h
  have nkq : ¬ Rr.keep q := by rw [hkeep]; intro hh; exact hh.2 (by simp)
  have jq : (j = q) = False := eq_false h.ne
  (repeat (first | refine W.seq ?_ | refine W.block ?_ | refine W.skip ?_))
  refine W.regionK tab_ok 0 (by decide) ?_
  refine runk_split 5 (by simp only [exa, beq_self_eq_true, ByteArray.size, Nat.reduceAdd, Nat.reduceLeDiff, Nat.reduceEqDiff, Nat.reduceMul, Int.reduceToNat, reduceIte, Int.reduceLE, Int.reduceNeg, hbx]; rfl) ?_
  refine runk_call rfl rfl rfl rfl rfl (by simp) (cvs_cons cv_refl (cvs_cons cv_refl cvs_nil)) (repeat_ok t (by omega) _) ?_
  refine runk_split 1 (by simp only [exa, beq_self_eq_true, ByteArray.size, Nat.reduceAdd, Nat.reduceLeDiff, Nat.reduceEqDiff, Nat.reduceMul, Int.reduceToNat, reduceIte, Int.reduceLE, Int.reduceNeg]; rfl) ?_
  refine runk_callE (D := [q]) rfl rfl rfl rfl rfl (fun i hi => by simp at hi; subst hi; exact nkq) (by simp) (cvs_cons cv_refl (cvs_cons cv_refl cvs_nil)) h1 ?_
  simp only [killL, putS]
  refine runk_exec (by simp only [exa, beq_self_eq_true, ByteArray.size, Nat.reduceAdd, Nat.reduceLeDiff, Nat.reduceEqDiff, Nat.reduceMul, Int.reduceToNat, reduceIte, Int.reduceLE, Int.reduceNeg]; rfl) ?_
  (repeat (first | refine W.seq ?_ | refine W.block ?_ | refine W.skip ?_))
  refine W.regionK tab_ok 0 (by decide) ?_
  refine runk_split 2 (by simp only [exa, beq_self_eq_true, ByteArray.size, Nat.reduceAdd, Nat.reduceLeDiff, Nat.reduceEqDiff, Nat.reduceMul, Int.reduceToNat, reduceIte, Int.reduceLE, Int.reduceNeg, killS_app, A.kill, jq, if_false]; rfl) ?_
  refine runk_callE (D := [q]) rfl rfl rfl rfl rfl (fun i hi => by simp at hi; subst hi; exact nkq) (by simp) (cvs_cons cv_refl (cvs_cons cv_refl cvs_nil)) h2 ?_
  simp only [killL, putS]
  refine runk_exec (by simp only [exa, beq_self_eq_true, ByteArray.size, Nat.reduceAdd, Nat.reduceLeDiff, Nat.reduceEqDiff, Nat.reduceMul, Int.reduceToNat, reduceIte, Int.reduceLE, Int.reduceNeg]; rfl) ?_
  exact ⟨by simp, by rfl, by rfl, mle_refl _⟩
def StmtAt (s : Stmt) : Prop := ∀ (M : Mem) (j q : Nat) (u : Bool) (t : Nat) (bs : List UInt8) (b : Nat), PgAt M j q u t bs → (∀ d, M (b + d) = none) → bs.length + (stmtX s t).length ≤ 140737488351232 →
  CallE Tryd.prog 51 [.ptr j 0, .agg (cStmt s)] M [q] (.tup []) (pgM M j q true t (bs ++ stmtX s t))
set_option maxHeartbeats 2000000 in
theorem block_ok {M : Mem} {j q b : Nat} {u : Bool} {t : Nat} {bs : List UInt8} (h : PgAt M j q u t bs) (hM : ∀ d, M (b + d) = none) (l : List Stmt) (hx : ∀ x ∈ l, StmtAt x) (hl : l.length ≤ 1000000000) (hs : bs.length + (brcX t (stmtsX l (t + 1))).length ≤ 140737488351232) :
    CallE Tryd.prog 26 [.ptr j 0, .c (.sl (cStmts l))] M [q] (.tup []) (pgM M j q true t (bs ++ brcX t (stmtsX l (t + 1)))) := by
  have hjs : (M j).isSome = true := by rw [h.box]; rfl
  have hqs : (M q).isSome = true := by rw [h.row]; rfl
  have bj : ∀ d, j ≠ b + d := fun d k => by have := hM d; rw [← k] at this; rw [this] at hjs; cases hjs
  have bq : ∀ d, q ≠ b + d := fun d k => by have := hM d; rw [← k] at this; rw [this] at hqs; cases hqs
  have hbl : (brcX t (stmtsX l (t + 1))).length = 2 + (stmtsX l (t + 1)).length + t + 1 := by simp only [brcX, List.length_append, List.length_cons, List.length_nil, tabX_len]
  rw [hbl] at hs
  rw [cStmts_map]
  have h1 := lay_ok h [⟨#[123, 10]⟩] (by decide) (by simp [txtB]; omega)
  rw [show txtB [(⟨#[123, 10]⟩ : ByteArray)] = [123, 10] from rfl, show layU u [(⟨#[123, 10]⟩ : ByteArray)] = true by simp [layU]] at h1
  have hpj : ∀ (t' : Int) (bs' : List UInt8), pgM M j q true t' bs' j = some (.box 47 [.ptr j 0, .own q, .c (.int .i64 t')]) := fun t' bs' => by
    unfold pgM; rw [upd_ne _ _ h.ne, upd_same]; rfl
  have hw1 : IntKind.i64.wrap ((t : Int) + 1) = ((t + 1 : Nat) : Int) := wrap_succ (by omega)
  have hw2 : IntKind.i64.wrap (((t + 1 : Nat) : Int) - 1) = (t : Int) := by
    rw [show ((t + 1 : Nat) : Int) - 1 = (t : Int) by omega]; exact wrap_nat (by omega)
  refine (ok_eff tab_ok [q] Tryd.func26 (by kernel_rfl) rfl rfl (by rfl) (by rfl) ?ids ?res ?sub ?wfm (fun hWF Rr hkeep => ?_))
  case ids => intro a ha i hi; simp at ha; rcases ha with rfl | rfl <;> simp [A.ids] at hi; subst hi; exact hjs
  case res => intro i hi; simp [A.ids] at hi
  case sub => exact pgM_live
  case wfm => exact pgM_wf h
  have nkq : ¬ Rr.keep q := by rw [hkeep]; intro hh; exact hh.2 (by simp)
  have kept : ∀ i, Rr.keep i → (M i).isSome = true := fun i hi => by rw [hkeep] at hi; exact hi.1
  have jq : (j = q) = False := eq_false h.ne
  (repeat (first | refine W.seq ?_ | refine W.block ?_ | refine W.skip ?_))
  refine W.regionK tab_ok b (by decide) ?_
  refine runk_split 2 (by simp only [exa, beq_self_eq_true, ByteArray.size, Nat.reduceAdd, Nat.reduceLeDiff, Nat.reduceEqDiff, Nat.reduceMul, Int.reduceToNat, reduceIte, Int.reduceLE, Int.reduceNeg]; rfl) ?_
  refine runk_callE (D := [q]) rfl rfl rfl rfl rfl (fun i hi => by simp at hi; subst hi; exact nkq) (by simp) (cvs_cons cv_refl (cvs_cons cv_refl cvs_nil)) h1 ?_
  simp only [killL, putS]
  refine runk_exec (by simp only [exa, beq_self_eq_true, ByteArray.size, Nat.reduceAdd, Nat.reduceLeDiff, Nat.reduceEqDiff, Nat.reduceMul, Int.reduceToNat, reduceIte, Int.reduceLE, Int.reduceNeg]; rfl) ?_
  repeat (first | refine W.seq ?_ | refine W.block ?_ | refine W.skip ?_ | refine W.exit ?_ | refine W.region tab_ok b (by decide) (exec_run (by simp only [exa, beq_self_eq_true, ByteArray.size, Nat.reduceAdd, Nat.reduceLeDiff, Nat.reduceEqDiff, Nat.reduceMul, Int.reduceToNat, reduceIte, Int.reduceLE, Int.reduceNeg, killS_app, A.kill, jq, if_false, hpj, hw1, List.length_map]; rfl)) ?_)
  rw [tab_up h.ne]
  refine W.loop (ι := Nat) (fun k => ⟨upd (upd (upd (upd (fun _ => .top) 0 (.ptr j 0)) 16 (.c (.sl (l.map cStmt)))) 17 (.c (.int .i64 l.length))) 18 (.c (.int .i64 k)), pgM M j q true ((t + 1 : Nat) : Int) (bs ++ [123, 10] ++ stmtsX (l.take k) (t + 1))⟩) (fun k => k ≤ l.length) (fun k => l.length - k) 0 ?start (Nat.zero_le _) ?round
  case start =>
    refine le_mk ?sle ?mle ?swf ?mwf (fun i hi => pgM_live i (kept i hi)) (by rfl)
    case swf => repeat (first | exact swf_top _ | refine swf_upd ?_ (by intro i hi; simp [A.ids] at hi; first | (subst hi; exact pgM_live _ hjs) | done))
    case mwf => exact pgM_wf h hWF
    case mle =>
      have e : pgM M j q true ((t + 1 : Nat) : Int) (bs ++ [123, 10] ++ stmtsX (l.take 0) (t + 1)) = pgM M j q true ((t + 1 : Nat) : Int) (bs ++ [123, 10]) := by simp [stmtsX]
      exact mle_refl' e.symm
    case sle => repeat (first | exact sle_top _ | exact sle_refl _ | refine sle_upd ?_ (by first | rfl | (simp only [upd_app, killS_app, A.kill, jq, if_false, entry_zero, entry_succ, Nat.reduceEqDiff, reduceIte, List.length_map]; done)))
  case round =>
    intro k hk
    repeat (first | refine W.seq ?_ | refine W.block ?_ | refine W.skip ?_ | refine W.exit ?_ | refine W.region tab_ok b (by decide) (exec_run (by simp only [exa, beq_self_eq_true, ByteArray.size, Nat.reduceAdd, Nat.reduceLeDiff, Nat.reduceEqDiff, Nat.reduceMul, Int.reduceToNat, reduceIte, Int.reduceLE, Int.reduceNeg]; rfl)) ?_)
    refine W.cond rfl ?_ ?_
    · intro hlt
      simp only [decide_eq_true_eq, Int.ofNat_lt] at hlt
      obtain ⟨x, hxk⟩ : ∃ x, l[k]? = some x := ⟨_, List.getElem?_eq_getElem hlt⟩
      have htk := stmtsX_take hxk (t + 1)
      have hle := stmtsX_le l (k + 1) (t + 1)
      have hlen := congrArg List.length htk
      simp only [List.length_append] at hlen
      have b5 := hM 5
      obtain ⟨b1, hb1⟩ : ∃ b1, b1 = bs ++ [123, 10] ++ stmtsX (l.take k) (t + 1) := ⟨_, rfl⟩
      have hlb : b1.length = bs.length + 2 + (stmtsX (l.take k) (t + 1)).length := by rw [hb1, List.length_append, List.length_append]; rfl
      rw [← hb1]
      have hat := at_map (f := cStmt) hxk
      have hcx := hx x (List.mem_of_getElem? hxk)
      obtain ⟨xk, xn, xty, xm, xe, xt, xl⟩ := x
      have hf5 : pgM M j q true ((t + 1 : Nat) : Int) b1 (b + 5) = none := pgM_none h b5
      have b5j : (b + 5 = j) = False := eq_false (Ne.symm (bj 5))
      have b5q : (b + 5 = q) = False := eq_false (Ne.symm (bq 5))
      have jb5 : (j = b + 5) = False := eq_false (bj 5)
      simp only [cStmt] at hat hcx
      repeat (first | refine W.seq ?_ | refine W.block ?_ | refine W.skip ?_ | refine W.exit ?_ | refine W.region tab_ok b (by decide) (exec_run (by simp only [exa, beq_self_eq_true, ByteArray.size, Nat.reduceAdd, Nat.reduceLeDiff, Nat.reduceEqDiff, Nat.reduceMul, Int.reduceToNat, reduceIte, Int.reduceLE, Int.reduceNeg, hat, hf5]; rfl)) ?_)
      simp only [upd_upd]
      have hw := hcx (upd (pgM M j q true ((t + 1 : Nat) : Int) b1) (b + 5) (some (.box 39 [.c (.int .i64 xk), .c (.int .i64 xn), .c (.str xty), .c (.str xm), .c (.sl (cExprs xe)), .c (.sl (cStmts xt)), .c (.sl (cStmts xl))]))) j q true (t + 1) b1 (b + 6) (h.pgM.new (pgM_none h b5) rfl) (fun d => by rw [upd_ne _ _ (by omega), Nat.add_assoc]; exact pgM_none h (hM _)) (by omega)
      rw [pgM_upd (bj 5) (bq 5), pgM_pgM h.ne] at hw
      (repeat (first | refine W.seq ?_ | refine W.block ?_ | refine W.skip ?_))
      refine W.regionK tab_ok b (by decide) ?_
      refine runk_split 2 (by simp only [exa, beq_self_eq_true, ByteArray.size, Nat.reduceAdd, Nat.reduceLeDiff, Nat.reduceEqDiff, Nat.reduceMul, Int.reduceToNat, reduceIte, Int.reduceLE, Int.reduceNeg, upd_same]; rfl) ?_
      refine runk_callE (D := [q]) rfl rfl rfl rfl rfl (fun i hi => by simp at hi; subst hi; exact nkq) (by simp) (cvs_cons cv_refl (cvs_cons cv_refl cvs_nil)) hw ?_
      simp only [killL, putS]
      refine runk_exec (by simp only [exa, beq_self_eq_true, ByteArray.size, Nat.reduceAdd, Nat.reduceLeDiff, Nat.reduceEqDiff, Nat.reduceMul, Int.reduceToNat, reduceIte, Int.reduceLE, Int.reduceNeg]; rfl) ?_
      repeat (first | refine W.seq ?_ | refine W.block ?_ | refine W.skip ?_ | refine W.exit ?_ | refine W.region tab_ok b (by decide) (exec_run (by simp only [exa, beq_self_eq_true, ByteArray.size, Nat.reduceAdd, Nat.reduceLeDiff, Nat.reduceEqDiff, Nat.reduceMul, Int.reduceToNat, reduceIte, Int.reduceLE, Int.reduceNeg, killS_app, A.kill, jq, b5q, if_false]; rfl)) ?_)
      refine ⟨k + 1, hlt, by omega, ?_⟩
      refine le_mk ?sle ?mle ?swf ?mwf (fun i hi => pgM_live i (kept i hi)) (by rfl)
      case swf => repeat (first | exact swf_top _ | refine swf_upd ?_ (by intro i hi; simp [A.ids] at hi; first | (subst hi; exact pgM_live _ hjs) | done))
      case mwf => exact pgM_wf h hWF
      case mle => exact mle_eq (congrArg (pgM M j q true ((t + 1 : Nat) : Int)) (by rw [htk, hb1]; simp [List.append_assoc])) (mle_off (pgM_none h b5))
      case sle => repeat (first | exact sle_top _ | exact sle_refl _ | refine sle_upd ?_ (by first | rfl | (simp only [upd_app, killS_app, A.kill, entry_zero, entry_succ, Nat.reduceEqDiff, reduceIte, jq, if_false, wrap_succ (show k + 1 < 9223372036854775808 by omega)]; done)))
    · intro hge
      simp only [decide_eq_false_iff_not, Int.ofNat_lt] at hge
      obtain rfl : k = l.length := by omega
      rw [List.take_length]
      repeat (first | refine W.seq ?_ | refine W.block ?_ | refine W.skip ?_ | refine W.exit ?_ | refine W.region tab_ok b (by decide) (exec_run (by simp only [exa, beq_self_eq_true, ByteArray.size, Nat.reduceAdd, Nat.reduceLeDiff, Nat.reduceEqDiff, Nat.reduceMul, Int.reduceToNat, reduceIte, Int.reduceLE, Int.reduceNeg, hpj, hw2]; rfl)) ?_)
      rw [tab_up h.ne]
      have h2 := line_ok (h.pgM (u' := true) (t' := (t : Int)) (bs' := bs ++ [123, 10] ++ stmtsX l (t + 1))) [⟨#[125]⟩] (by decide) (by simp [txtB]; omega)
      rw [pgM_pgM h.ne] at h2
      (repeat (first | refine W.seq ?_ | refine W.block ?_ | refine W.skip ?_))
      refine W.regionK tab_ok b (by decide) ?_
      refine runk_split 2 (by simp only [exa, beq_self_eq_true, ByteArray.size, Nat.reduceAdd, Nat.reduceLeDiff, Nat.reduceEqDiff, Nat.reduceMul, Int.reduceToNat, reduceIte, Int.reduceLE, Int.reduceNeg]; rfl) ?_
      refine runk_callE (D := [q]) rfl rfl rfl rfl rfl (fun i hi => by simp at hi; subst hi; exact nkq) (by simp) (cvs_cons cv_refl (cvs_cons cv_refl cvs_nil)) h2 ?_
      simp only [killL, putS]
      refine runk_exec (by simp only [exa, beq_self_eq_true, ByteArray.size, Nat.reduceAdd, Nat.reduceLeDiff, Nat.reduceEqDiff, Nat.reduceMul, Int.reduceToNat, reduceIte, Int.reduceLE, Int.reduceNeg]; rfl) ?_
      refine ⟨by simp, by rfl, by rfl, mle_refl' ?_⟩
      simp [txtB, brcX, List.append_assoc]
end V
end Go.Proofs.YtbmbmcdaabhgnaaDoor
end
section
set_option linter.unusedVariables false
set_option linter.unusedSimpArgs false
namespace Go.Proofs.YtbmbmcdaabhgnaaDoor
namespace V
open Go.RowKit
section
variable {M1 : Mem} {j q : Nat} {u0 : Bool} {t : Nat} {bs0 : List UInt8}
theorem lineM (h : PgAt M1 j q u0 t bs0) (u : Bool) (bs : List UInt8) (l : List ByteArray) (hl : l.length ≤ 1000000000) (hs : bs.length + t + (txtB l).length ≤ 140737488351232) :
    CallE Tryd.prog 24 [.ptr j 0, .c (.sl (l.map cStr))] (pgM M1 j q u t bs) [q] (.tup []) (pgM M1 j q true t (bs ++ tabX t ++ txtB l)) := by
  have := line_ok (h.pgM (u' := u) (t' := (t : Int)) (bs' := bs)) l hl hs
  rwa [pgM_pgM h.ne] at this
theorem blockM (h : PgAt M1 j q u0 t bs0) {b : Nat} (hM : ∀ d, M1 (b + d) = none) {l : List Stmt} (hx : ∀ x ∈ l, StmtAt x) (hl : l.length ≤ 1000000000) (u : Bool) (bs : List UInt8) (hs : bs.length + (brcX t (stmtsX l (t + 1))).length ≤ 140737488351232) :
    CallE Tryd.prog 26 [.ptr j 0, .c (.sl (cStmts l))] (pgM M1 j q u t bs) [q] (.tup []) (pgM M1 j q true t (bs ++ brcX t (stmtsX l (t + 1)))) := by
  have := block_ok (h.pgM (u' := u) (t' := (t : Int)) (bs' := bs)) (fun d => pgM_none h (hM d)) l hx hl hs
  rwa [pgM_pgM h.ne] at this
end
theorem cExprs_len (l : List Expr) : (cExprs l).length = l.length := by rw [cExprs_map, List.length_map]
theorem cStmts_len (l : List Stmt) : (cStmts l).length = l.length := by rw [cStmts_map, List.length_map]
theorem twoK {es : List Expr} (h : es.length = 2) : ∃ y z, es = [y, z] := by
  match es, h with
  | [y, z], _ => exact ⟨y, z, rfl⟩
set_option maxHeartbeats 8000000 in
theorem stmt_at : ∀ (z : Nat) (s : Stmt), SizeOf.sizeOf s ≤ z → stmtB s = true → cntS s ≤ 1048576 → StmtAt s := by
  intro z
  induction z using Nat.strongRecOn with
  | ind z ih =>
  intro s hz hx hcnt M j q u t bs b h hM hs
  obtain ⟨sk, n, ty, nm, es, th, el⟩ := s
  obtain ⟨hk17, fe, -, -, -, -, fx, ft, fl⟩ := stmt_facts hx
  simp only [cntS] at hcnt
  have hsz := Stmt.mk.sizeOf_spec sk n ty nm es th el
  have hE : ∀ y ∈ es, ExprAt y := fun y hy => expr_at _ y (Nat.le_refl _) (fx y hy)
  have hTh : ∀ y ∈ th, StmtAt y := fun y hy => ih (SizeOf.sizeOf y) (by have := List.sizeOf_lt_of_mem hy; omega) y (Nat.le_refl _) (ft y hy) (by have := cntS_mem hy; omega)
  have hEl : ∀ y ∈ el, StmtAt y := fun y hy => ih (SizeOf.sizeOf y) (by have := List.sizeOf_lt_of_mem hy; omega) y (Nat.le_refl _) (fl y hy) (by have := cntS_mem hy; omega)
  have hlT : th.length ≤ 1000000000 := Nat.le_trans (cntSs_len th) (by omega)
  have hlL : el.length ≤ 1000000000 := Nat.le_trans (cntSs_len el) (by omega)
  have hlen : es.length ≤ 1000000000 := by
    rw [fe]; split
    · omega
    · split <;> decide
  have hjs : (M j).isSome = true := by rw [h.box]; rfl
  have hqs : (M q).isSome = true := by rw [h.row]; rfl
  have bj : ∀ d, j ≠ b + d := fun d k => by have := hM d; rw [← k] at this; rw [this] at hjs; cases hjs
  have bq : ∀ d, q ≠ b + d := fun d k => by have := hM d; rw [← k] at this; rw [this] at hqs; cases hqs
  have htl := tabX_len t
  have hT : stmtX ⟨sk, n, ty, nm, es, th, el⟩ t = tabX t ++ bodyS sk n ty.data.toList nm.data.toList es t (stmtsX th (t + 1)) (stmtsX el (t + 1)) el.isEmpty := by simp [stmtX]
  rw [hT, List.length_append, htl] at hs
  refine (ok_eff tab_ok [q] Tryd.func51 (by kernel_rfl) rfl rfl (by rfl) (by rfl) ?ids ?res ?sub ?wfm (fun hWF Rr hkeep => ?_))
  case ids => intro a ha i hi; simp at ha; rcases ha with rfl | rfl <;> simp [A.ids] at hi; subst hi; exact hjs
  case res => intro i hi; simp [A.ids] at hi
  case sub => exact pgM_live
  case wfm => exact pgM_wf h
  have nkq : ¬ Rr.keep q := by rw [hkeep]; intro hh; exact hh.2 (by simp)
  have jq : (j = q) = False := eq_false h.ne
  have b3q : (b + 3 = q) = False := eq_false (Ne.symm (bq 3))
  have hM3 := hM 3
  repeat (first | refine W.seq ?_ | refine W.block ?_ | refine W.skip ?_ | refine W.exit ?_ | refine W.region tab_ok b (by decide) (exec_run (by simp only [exa, beq_self_eq_true, ByteArray.size, Nat.reduceAdd, Nat.reduceLeDiff, Nat.reduceEqDiff, Nat.reduceMul, Int.reduceToNat, reduceIte, Int.reduceLE, Int.reduceNeg, cStmt, hM3]; rfl)) ?_)
  obtain ⟨M1, hM1⟩ : ∃ M1, M1 = upd M (b + 3) (some (.box 39 [.c (.int .i64 sk), .c (.int .i64 n), .c (.str ty), .c (.str nm), .c (.sl (cExprs es)), .c (.sl (cStmts th)), .c (.sl (cStmts el))])) := ⟨_, rfl⟩
  rw [← hM1]
  have m3 : M1 (b + 3) = some (.box 39 [.c (.int .i64 sk), .c (.int .i64 n), .c (.str ty), .c (.str nm), .c (.sl (cExprs es)), .c (.sl (cStmts th)), .c (.sl (cStmts el))]) := by rw [hM1, upd_same]
  have h1 : PgAt M1 j q u t bs := by rw [hM1]; exact h.new hM3 rfl
  have f1' : ∀ d, M1 (b + 4 + d) = none := fun d => by rw [hM1, upd_ne _ _ (by omega), Nat.add_assoc]; exact hM _
  have off : ∀ (u' : Bool) (bs' : List UInt8), MLe (pgM M1 j q u' t bs') (pgM M j q u' t bs') := fun u' bs' => by
    rw [hM1, pgM_upd (bj 3) (bq 3)]
    exact mle_off (pgM_none h hM3)
  have hm3 : ∀ u' bs', pgM M1 j q u' t bs' (b + 3) = some (.box 39 [.c (.int .i64 sk), .c (.int .i64 n), .c (.str ty), .c (.str nm), .c (.sl (cExprs es)), .c (.sl (cStmts th)), .c (.sl (cStmts el))]) := fun u' bs' => by
    unfold pgM; rw [upd_ne _ _ (Ne.symm (bq 3)), upd_ne _ _ (Ne.symm (bj 3)), m3]
  have hsame : pgM M1 j q u t bs = M1 := pgM_same h1
  have hl0 := lineM h1 u bs [] (by decide) (by simp [txtB]; omega)
  rw [hsame, show txtB [] = [] from rfl, List.append_nil] at hl0
  clear hM1 h hM ih hx hz hsz hcnt
  refine W.regionK tab_ok b (by decide) ?_
  refine runk_split 1 (by simp only [exa, beq_self_eq_true, ByteArray.size, Nat.reduceAdd, Nat.reduceLeDiff, Nat.reduceEqDiff, Nat.reduceMul, Int.reduceToNat, reduceIte, Int.reduceLE, Int.reduceNeg, m3]; rfl) ?_
  refine runk_callE (D := [q]) rfl rfl rfl rfl rfl (fun i hi => by simp at hi; subst hi; exact nkq) (by simp) (cvs_cons cv_refl (cvs_cons (by first | exact cv_refl | exact cv_nil) cvs_nil)) hl0 ?_
  simp only [killL, putS]
  refine runk_exec (by simp only [exa, beq_self_eq_true, ByteArray.size, Nat.reduceAdd, Nat.reduceLeDiff, Nat.reduceEqDiff, Nat.reduceMul, Int.reduceToNat, reduceIte, Int.reduceLE, Int.reduceNeg]; rfl) ?_
  obtain ⟨B0, hB0⟩ : ∃ B0, B0 = bs ++ tabX t := ⟨_, rfl⟩
  have hlB : B0.length = bs.length + t := by rw [hB0, List.length_append, htl]
  have hT : bs ++ stmtX ⟨sk, n, ty, nm, es, th, el⟩ t = B0 ++ bodyS sk n ty.data.toList nm.data.toList es t (stmtsX th (t + 1)) (stmtsX el (t + 1)) el.isEmpty := by rw [hT, hB0]; simp
  rw [← hB0, hT]
  clear hB0 hl0
  have f1 := f1'
  have hcase : sk = 1 ∨ sk = 2 ∨ sk = 3 ∨ sk = 4 ∨ sk = 5 ∨ sk = 6 ∨ sk = 7 := by omega
  rcases hcase with rfl | rfl | rfl | rfl | rfl | rfl | rfl
  · cases hes : es.isEmpty with
    | true =>
      have hze : (cExprs es).length = 0 := by rw [cExprs_len, List.isEmpty_iff.1 hes]; rfl
      have hbd : bodyS 1 n ty.data.toList nm.data.toList es t (stmtsX th (t + 1)) (stmtsX el (t + 1)) el.isEmpty = ty.data.toList ++ [32] ++ nm.data.toList ++ [59, 10] := by simp [bodyS, hes]
      rw [hbd] at hs
      repeat (first | refine W.seq ?_ | refine W.block ?_ | refine W.skip ?_ | refine W.exit ?_ | refine W.region tab_ok b (by decide) (exec_run (by simp only [exa, beq_self_eq_true, ByteArray.size, Nat.reduceAdd, Nat.reduceLeDiff, Nat.reduceEqDiff, Nat.reduceMul, Int.reduceToNat, reduceIte, Int.reduceLE, Int.reduceNeg, killS_app, A.kill, jq, b3q, if_false, hm3]; rfl)) ?_)
      refine W.cond rfl (fun _ => ?_) (fun h => absurd h (by decide))
      (repeat (first | refine W.seq ?_ | refine W.block ?_ | refine W.skip ?_ | refine W.exit ?_))
      (repeat (first | refine W.seq ?_ | refine W.block ?_ | refine W.skip ?_ | refine W.exit ?_))
      refine W.regionK tab_ok b (by decide) ?_
      refine runk_split 6 (by simp only [exa, beq_self_eq_true, ByteArray.size, Nat.reduceAdd, Nat.reduceLeDiff, Nat.reduceEqDiff, Nat.reduceMul, Int.reduceToNat, reduceIte, Int.reduceLE, Int.reduceNeg, killS_app, A.kill, jq, b3q, if_false, hm3]; rfl) ?_
      refine runk_callE (D := [q]) rfl rfl rfl rfl rfl (fun i hi => by simp at hi; subst hi; exact nkq) (by simp) (by first | exact cvs_cons cv_refl (cvs_cons cv_refl cvs_nil) | exact cvs_cons cv_refl (cvs_cons cv_refl (cvs_cons cv_refl cvs_nil))) (layM h1 true B0 [ty, ⟨#[32]⟩, nm] (by simp) (by simp) (by have hf := hs; simp [txtB] at hf ⊢; omega)) ?_
      simp only [killL, putS]
      refine runk_exec (by simp only [exa, beq_self_eq_true, ByteArray.size, Nat.reduceAdd, Nat.reduceLeDiff, Nat.reduceEqDiff, Nat.reduceMul, Int.reduceToNat, reduceIte, Int.reduceLE, Int.reduceNeg]; rfl) ?_
      repeat (first | refine W.seq ?_ | refine W.block ?_ | refine W.skip ?_ | refine W.exit ?_ | refine W.region tab_ok b (by decide) (exec_run (by simp only [exa, beq_self_eq_true, ByteArray.size, Nat.reduceAdd, Nat.reduceLeDiff, Nat.reduceEqDiff, Nat.reduceMul, Int.reduceToNat, reduceIte, Int.reduceLE, Int.reduceNeg, killS_app, A.kill, jq, b3q, if_false, hm3]; rfl)) ?_)
      refine W.cond rfl (fun h => absurd (of_decide_eq_true h) (by omega)) (fun _ => ?_)
      (repeat (first | refine W.seq ?_ | refine W.block ?_ | refine W.skip ?_ | refine W.exit ?_))
      refine W.regionK tab_ok b (by decide) ?_
      refine runk_split 2 (by simp only [exa, beq_self_eq_true, ByteArray.size, Nat.reduceAdd, Nat.reduceLeDiff, Nat.reduceEqDiff, Nat.reduceMul, Int.reduceToNat, reduceIte, Int.reduceLE, Int.reduceNeg, killS_app, A.kill, jq, b3q, if_false, hm3]; rfl) ?_
      refine runk_callE (D := [q]) rfl rfl rfl rfl rfl (fun i hi => by simp at hi; subst hi; exact nkq) (by simp) (by first | exact cvs_cons cv_refl (cvs_cons cv_refl cvs_nil) | exact cvs_cons cv_refl (cvs_cons cv_refl (cvs_cons cv_refl cvs_nil))) (layM h1 true (B0 ++ txtB [ty, ⟨#[32]⟩, nm]) [⟨#[59, 10]⟩] (by simp) (by simp) (by have hf := hs; simp [txtB] at hf ⊢; omega)) ?_
      simp only [killL, putS]
      refine runk_exec (by simp only [exa, beq_self_eq_true, ByteArray.size, Nat.reduceAdd, Nat.reduceLeDiff, Nat.reduceEqDiff, Nat.reduceMul, Int.reduceToNat, reduceIte, Int.reduceLE, Int.reduceNeg]; rfl) ?_
      refine ⟨by simp, by rfl, by rfl, ?_⟩
      refine mle_eq (congrArg (pgM M j q true t) ?_) (off _ _)
      rw [hbd]
      simp [txtB, List.append_assoc]
    | false =>
      have hne : 0 < (cExprs es).length := by
        rw [cExprs_len]
        cases es with
        | nil => cases hes
        | cons a b => simp
      have hbd : bodyS 1 n ty.data.toList nm.data.toList es t (stmtsX th (t + 1)) (stmtsX el (t + 1)) el.isEmpty = ty.data.toList ++ [32] ++ nm.data.toList ++ ([32, 61, 32] ++ listE es) ++ [59, 10] := by simp [bodyS, hes]
      rw [hbd] at hs
      repeat (first | refine W.seq ?_ | refine W.block ?_ | refine W.skip ?_ | refine W.exit ?_ | refine W.region tab_ok b (by decide) (exec_run (by simp only [exa, beq_self_eq_true, ByteArray.size, Nat.reduceAdd, Nat.reduceLeDiff, Nat.reduceEqDiff, Nat.reduceMul, Int.reduceToNat, reduceIte, Int.reduceLE, Int.reduceNeg, killS_app, A.kill, jq, b3q, if_false, hm3]; rfl)) ?_)
      refine W.cond rfl (fun _ => ?_) (fun h => absurd h (by decide))
      (repeat (first | refine W.seq ?_ | refine W.block ?_ | refine W.skip ?_ | refine W.exit ?_))
      (repeat (first | refine W.seq ?_ | refine W.block ?_ | refine W.skip ?_ | refine W.exit ?_))
      refine W.regionK tab_ok b (by decide) ?_
      refine runk_split 6 (by simp only [exa, beq_self_eq_true, ByteArray.size, Nat.reduceAdd, Nat.reduceLeDiff, Nat.reduceEqDiff, Nat.reduceMul, Int.reduceToNat, reduceIte, Int.reduceLE, Int.reduceNeg, killS_app, A.kill, jq, b3q, if_false, hm3]; rfl) ?_
      refine runk_callE (D := [q]) rfl rfl rfl rfl rfl (fun i hi => by simp at hi; subst hi; exact nkq) (by simp) (by first | exact cvs_cons cv_refl (cvs_cons cv_refl cvs_nil) | exact cvs_cons cv_refl (cvs_cons cv_refl (cvs_cons cv_refl cvs_nil))) (layM h1 true B0 [ty, ⟨#[32]⟩, nm] (by simp) (by simp) (by have hf := hs; simp [txtB] at hf ⊢; omega)) ?_
      simp only [killL, putS]
      refine runk_exec (by simp only [exa, beq_self_eq_true, ByteArray.size, Nat.reduceAdd, Nat.reduceLeDiff, Nat.reduceEqDiff, Nat.reduceMul, Int.reduceToNat, reduceIte, Int.reduceLE, Int.reduceNeg]; rfl) ?_
      repeat (first | refine W.seq ?_ | refine W.block ?_ | refine W.skip ?_ | refine W.exit ?_ | refine W.region tab_ok b (by decide) (exec_run (by simp only [exa, beq_self_eq_true, ByteArray.size, Nat.reduceAdd, Nat.reduceLeDiff, Nat.reduceEqDiff, Nat.reduceMul, Int.reduceToNat, reduceIte, Int.reduceLE, Int.reduceNeg, killS_app, A.kill, jq, b3q, if_false, hm3]; rfl)) ?_)
      refine W.cond rfl (fun _ => ?_) (fun h => absurd (of_decide_eq_false h) (by omega))
      (repeat (first | refine W.seq ?_ | refine W.block ?_ | refine W.skip ?_ | refine W.exit ?_))
      refine W.regionK tab_ok b (by decide) ?_
      refine runk_split 2 (by simp only [exa, beq_self_eq_true, ByteArray.size, Nat.reduceAdd, Nat.reduceLeDiff, Nat.reduceEqDiff, Nat.reduceMul, Int.reduceToNat, reduceIte, Int.reduceLE, Int.reduceNeg, killS_app, A.kill, jq, b3q, if_false, hm3]; rfl) ?_
      refine runk_callE (D := [q]) rfl rfl rfl rfl rfl (fun i hi => by simp at hi; subst hi; exact nkq) (by simp) (by first | exact cvs_cons cv_refl (cvs_cons cv_refl cvs_nil) | exact cvs_cons cv_refl (cvs_cons cv_refl (cvs_cons cv_refl cvs_nil))) (layM h1 true (B0 ++ txtB [ty, ⟨#[32]⟩, nm]) [⟨#[32, 61, 32]⟩] (by simp) (by simp) (by have hf := hs; simp [txtB] at hf ⊢; omega)) ?_
      simp only [killL, putS]
      refine runk_exec (by simp only [exa, beq_self_eq_true, ByteArray.size, Nat.reduceAdd, Nat.reduceLeDiff, Nat.reduceEqDiff, Nat.reduceMul, Int.reduceToNat, reduceIte, Int.reduceLE, Int.reduceNeg]; rfl) ?_
      (repeat (first | refine W.seq ?_ | refine W.block ?_ | refine W.skip ?_ | refine W.exit ?_))
      refine W.regionK tab_ok b (by decide) ?_
      refine runk_split 3 (by simp only [exa, beq_self_eq_true, ByteArray.size, Nat.reduceAdd, Nat.reduceLeDiff, Nat.reduceEqDiff, Nat.reduceMul, Int.reduceToNat, reduceIte, Int.reduceLE, Int.reduceNeg, killS_app, A.kill, jq, b3q, if_false, hm3]; rfl) ?_
      refine runk_callE (D := [q]) rfl rfl rfl rfl rfl (fun i hi => by simp at hi; subst hi; exact nkq) (by simp) (by first | exact cvs_cons cv_refl (cvs_cons cv_refl cvs_nil) | exact cvs_cons cv_refl (cvs_cons cv_refl (cvs_cons cv_refl cvs_nil))) (listM h1 f1 (l := es) hE hlen true (B0 ++ txtB [ty, ⟨#[32]⟩, nm] ++ txtB [⟨#[32, 61, 32]⟩]) ⟨#[]⟩ (by show _ + _ + 0 ≤ _; have hf := hs; simp [txtB] at hf ⊢; omega)) ?_
      simp only [killL, putS]
      refine runk_exec (by simp only [exa, beq_self_eq_true, ByteArray.size, Nat.reduceAdd, Nat.reduceLeDiff, Nat.reduceEqDiff, Nat.reduceMul, Int.reduceToNat, reduceIte, Int.reduceLE, Int.reduceNeg]; rfl) ?_
      (repeat (first | refine W.seq ?_ | refine W.block ?_ | refine W.skip ?_ | refine W.exit ?_))
      refine W.regionK tab_ok b (by decide) ?_
      refine runk_split 2 (by simp only [exa, beq_self_eq_true, ByteArray.size, Nat.reduceAdd, Nat.reduceLeDiff, Nat.reduceEqDiff, Nat.reduceMul, Int.reduceToNat, reduceIte, Int.reduceLE, Int.reduceNeg, killS_app, A.kill, jq, b3q, if_false, hm3]; rfl) ?_
      refine runk_callE (D := [q]) rfl rfl rfl rfl rfl (fun i hi => by simp at hi; subst hi; exact nkq) (by simp) (by first | exact cvs_cons cv_refl (cvs_cons cv_refl cvs_nil) | exact cvs_cons cv_refl (cvs_cons cv_refl (cvs_cons cv_refl cvs_nil))) (layM h1 true (B0 ++ txtB [ty, ⟨#[32]⟩, nm] ++ txtB [⟨#[32, 61, 32]⟩] ++ listE es) [⟨#[59, 10]⟩] (by simp) (by simp) (by have hf := hs; simp [txtB] at hf ⊢; omega)) ?_
      simp only [killL, putS]
      refine runk_exec (by simp only [exa, beq_self_eq_true, ByteArray.size, Nat.reduceAdd, Nat.reduceLeDiff, Nat.reduceEqDiff, Nat.reduceMul, Int.reduceToNat, reduceIte, Int.reduceLE, Int.reduceNeg]; rfl) ?_
      refine ⟨by simp, by rfl, by rfl, ?_⟩
      refine mle_eq (congrArg (pgM M j q true t) ?_) (off _ _)
      rw [hbd]
      simp [txtB, List.append_assoc]
  · obtain ⟨⟨yk, yn, ym, ys⟩, ⟨zk, zn, zm, zs⟩, rfl⟩ : ∃ y z, es = [y, z] := twoK (by rw [fe]; rfl)
    have hbd : bodyS 2 n ty.data.toList nm.data.toList [⟨yk, yn, ym, ys⟩, ⟨zk, zn, zm, zs⟩] t (stmtsX th (t + 1)) (stmtsX el (t + 1)) el.isEmpty = exprX ⟨yk, yn, ym, ys⟩ 1 ++ [32, 61, 32] ++ exprX ⟨zk, zn, zm, zs⟩ 1 ++ [59, 10] := by simp [bodyS, exprI]
    rw [hbd] at hs
    repeat (first | refine W.seq ?_ | refine W.block ?_ | refine W.skip ?_ | refine W.exit ?_ | refine W.region tab_ok b (by decide) (exec_run (by simp only [exa, beq_self_eq_true, ByteArray.size, Nat.reduceAdd, Nat.reduceLeDiff, Nat.reduceEqDiff, Nat.reduceMul, Int.reduceToNat, reduceIte, Int.reduceLE, Int.reduceNeg, killS_app, A.kill, jq, b3q, if_false, hm3]; rfl)) ?_)
    iterate 1 (refine W.cond rfl (fun h => absurd h (by decide)) (fun _ => ?_); repeat (first | refine W.seq ?_ | refine W.block ?_ | refine W.skip ?_ | refine W.exit ?_ | refine W.region tab_ok b (by decide) (exec_run (by simp only [exa, beq_self_eq_true, ByteArray.size, Nat.reduceAdd, Nat.reduceLeDiff, Nat.reduceEqDiff, Nat.reduceMul, Int.reduceToNat, reduceIte, Int.reduceLE, Int.reduceNeg, killS_app, A.kill, jq, b3q, if_false, hm3]; rfl)) ?_))
    refine W.cond rfl (fun _ => ?_) (fun h => absurd h (by decide))
    (repeat (first | refine W.seq ?_ | refine W.block ?_ | refine W.skip ?_ | refine W.exit ?_))
    (repeat (first | refine W.seq ?_ | refine W.block ?_ | refine W.skip ?_ | refine W.exit ?_))
    refine W.regionK tab_ok b (by decide) ?_
    refine runk_split 5 (by simp only [exa, beq_self_eq_true, ByteArray.size, Nat.reduceAdd, Nat.reduceLeDiff, Nat.reduceEqDiff, Nat.reduceMul, Int.reduceToNat, reduceIte, Int.reduceLE, Int.reduceNeg, killS_app, A.kill, jq, b3q, if_false, hm3, cExprs, cExpr]; rfl) ?_
    refine runk_callE (D := [q]) rfl rfl rfl rfl rfl (fun i hi => by simp at hi; subst hi; exact nkq) (by simp) (by first | exact cvs_cons cv_refl (cvs_cons cv_refl cvs_nil) | exact cvs_cons cv_refl (cvs_cons cv_refl (cvs_cons cv_refl cvs_nil))) (exprM h1 f1 (hE ⟨yk, yn, ym, ys⟩ (by simp)) true B0 1 (by have hf := hs; simp [txtB] at hf ⊢; omega)) ?_
    simp only [killL, putS]
    refine runk_exec (by simp only [exa, beq_self_eq_true, ByteArray.size, Nat.reduceAdd, Nat.reduceLeDiff, Nat.reduceEqDiff, Nat.reduceMul, Int.reduceToNat, reduceIte, Int.reduceLE, Int.reduceNeg]; rfl) ?_
    (repeat (first | refine W.seq ?_ | refine W.block ?_ | refine W.skip ?_ | refine W.exit ?_))
    refine W.regionK tab_ok b (by decide) ?_
    refine runk_split 2 (by simp only [exa, beq_self_eq_true, ByteArray.size, Nat.reduceAdd, Nat.reduceLeDiff, Nat.reduceEqDiff, Nat.reduceMul, Int.reduceToNat, reduceIte, Int.reduceLE, Int.reduceNeg, killS_app, A.kill, jq, b3q, if_false, hm3]; rfl) ?_
    refine runk_callE (D := [q]) rfl rfl rfl rfl rfl (fun i hi => by simp at hi; subst hi; exact nkq) (by simp) (by first | exact cvs_cons cv_refl (cvs_cons cv_refl cvs_nil) | exact cvs_cons cv_refl (cvs_cons cv_refl (cvs_cons cv_refl cvs_nil))) (layM h1 true (B0 ++ exprX ⟨yk, yn, ym, ys⟩ 1) [⟨#[32, 61, 32]⟩] (by simp) (by simp) (by have hf := hs; simp [txtB] at hf ⊢; omega)) ?_
    simp only [killL, putS]
    refine runk_exec (by simp only [exa, beq_self_eq_true, ByteArray.size, Nat.reduceAdd, Nat.reduceLeDiff, Nat.reduceEqDiff, Nat.reduceMul, Int.reduceToNat, reduceIte, Int.reduceLE, Int.reduceNeg]; rfl) ?_
    (repeat (first | refine W.seq ?_ | refine W.block ?_ | refine W.skip ?_ | refine W.exit ?_))
    refine W.regionK tab_ok b (by decide) ?_
    refine runk_split 5 (by simp only [exa, beq_self_eq_true, ByteArray.size, Nat.reduceAdd, Nat.reduceLeDiff, Nat.reduceEqDiff, Nat.reduceMul, Int.reduceToNat, reduceIte, Int.reduceLE, Int.reduceNeg, killS_app, A.kill, jq, b3q, if_false, hm3, cExprs, cExpr]; rfl) ?_
    refine runk_callE (D := [q]) rfl rfl rfl rfl rfl (fun i hi => by simp at hi; subst hi; exact nkq) (by simp) (by first | exact cvs_cons cv_refl (cvs_cons cv_refl cvs_nil) | exact cvs_cons cv_refl (cvs_cons cv_refl (cvs_cons cv_refl cvs_nil))) (exprM h1 f1 (hE ⟨zk, zn, zm, zs⟩ (by simp)) true (B0 ++ exprX ⟨yk, yn, ym, ys⟩ 1 ++ txtB [⟨#[32, 61, 32]⟩]) 1 (by have hf := hs; simp [txtB] at hf ⊢; omega)) ?_
    simp only [killL, putS]
    refine runk_exec (by simp only [exa, beq_self_eq_true, ByteArray.size, Nat.reduceAdd, Nat.reduceLeDiff, Nat.reduceEqDiff, Nat.reduceMul, Int.reduceToNat, reduceIte, Int.reduceLE, Int.reduceNeg]; rfl) ?_
    (repeat (first | refine W.seq ?_ | refine W.block ?_ | refine W.skip ?_ | refine W.exit ?_))
    refine W.regionK tab_ok b (by decide) ?_
    refine runk_split 2 (by simp only [exa, beq_self_eq_true, ByteArray.size, Nat.reduceAdd, Nat.reduceLeDiff, Nat.reduceEqDiff, Nat.reduceMul, Int.reduceToNat, reduceIte, Int.reduceLE, Int.reduceNeg, killS_app, A.kill, jq, b3q, if_false, hm3]; rfl) ?_
    refine runk_callE (D := [q]) rfl rfl rfl rfl rfl (fun i hi => by simp at hi; subst hi; exact nkq) (by simp) (by first | exact cvs_cons cv_refl (cvs_cons cv_refl cvs_nil) | exact cvs_cons cv_refl (cvs_cons cv_refl (cvs_cons cv_refl cvs_nil))) (layM h1 true (B0 ++ exprX ⟨yk, yn, ym, ys⟩ 1 ++ txtB [⟨#[32, 61, 32]⟩] ++ exprX ⟨zk, zn, zm, zs⟩ 1) [⟨#[59, 10]⟩] (by simp) (by simp) (by have hf := hs; simp [txtB] at hf ⊢; omega)) ?_
    simp only [killL, putS]
    refine runk_exec (by simp only [exa, beq_self_eq_true, ByteArray.size, Nat.reduceAdd, Nat.reduceLeDiff, Nat.reduceEqDiff, Nat.reduceMul, Int.reduceToNat, reduceIte, Int.reduceLE, Int.reduceNeg]; rfl) ?_
    refine ⟨by simp, by rfl, by rfl, ?_⟩
    refine mle_eq (congrArg (pgM M j q true t) ?_) (off _ _)
    rw [hbd]
    simp [txtB, List.append_assoc]
  · cases hel : el.isEmpty with
    | true =>
      have hze : (cStmts el).length = 0 := by rw [cStmts_len, List.isEmpty_iff.1 hel]; rfl
      rw [hel] at hs
      have hbd : bodyS 3 n ty.data.toList nm.data.toList es t (stmtsX th (t + 1)) (stmtsX el (t + 1)) true = [105, 102, 32, 40] ++ listE es ++ [41, 32] ++ brcX t (stmtsX th (t + 1)) ++ [10] := by simp [bodyS]
      rw [hbd] at hs
      repeat (first | refine W.seq ?_ | refine W.block ?_ | refine W.skip ?_ | refine W.exit ?_ | refine W.region tab_ok b (by decide) (exec_run (by simp only [exa, beq_self_eq_true, ByteArray.size, Nat.reduceAdd, Nat.reduceLeDiff, Nat.reduceEqDiff, Nat.reduceMul, Int.reduceToNat, reduceIte, Int.reduceLE, Int.reduceNeg, killS_app, A.kill, jq, b3q, if_false, hm3]; rfl)) ?_)
      iterate 2 (refine W.cond rfl (fun h => absurd h (by decide)) (fun _ => ?_); repeat (first | refine W.seq ?_ | refine W.block ?_ | refine W.skip ?_ | refine W.exit ?_ | refine W.region tab_ok b (by decide) (exec_run (by simp only [exa, beq_self_eq_true, ByteArray.size, Nat.reduceAdd, Nat.reduceLeDiff, Nat.reduceEqDiff, Nat.reduceMul, Int.reduceToNat, reduceIte, Int.reduceLE, Int.reduceNeg, killS_app, A.kill, jq, b3q, if_false, hm3]; rfl)) ?_))
      refine W.cond rfl (fun _ => ?_) (fun h => absurd h (by decide))
      (repeat (first | refine W.seq ?_ | refine W.block ?_ | refine W.skip ?_ | refine W.exit ?_))
      (repeat (first | refine W.seq ?_ | refine W.block ?_ | refine W.skip ?_ | refine W.exit ?_))
      refine W.cond rfl (fun _ => ?_) (fun h => absurd h (by decide))
      (repeat (first | refine W.seq ?_ | refine W.block ?_ | refine W.skip ?_ | refine W.exit ?_))
      (repeat (first | refine W.seq ?_ | refine W.block ?_ | refine W.skip ?_ | refine W.exit ?_))
      refine W.regionK tab_ok b (by decide) ?_
      refine runk_split 8 (by simp only [exa, beq_self_eq_true, ByteArray.size, Nat.reduceAdd, Nat.reduceLeDiff, Nat.reduceEqDiff, Nat.reduceMul, Int.reduceToNat, reduceIte, Int.reduceLE, Int.reduceNeg, killS_app, A.kill, jq, b3q, if_false, hm3, Nat.reducePow, Nat.reduceLT, and_self, Bool.false_eq_true, Int.reduceSub, Int.cast_ofNat_Int, List.length_cons, List.length_nil]; rfl) ?_
      refine runk_callE (D := [q]) rfl rfl rfl rfl rfl (fun i hi => by simp at hi; subst hi; exact nkq) (by simp) (by first | exact cvs_cons cv_refl (cvs_cons cv_refl cvs_nil) | exact cvs_cons cv_refl (cvs_cons cv_refl (cvs_cons cv_refl cvs_nil))) (layM h1 true B0 [⟨#[105, 102, 32, 40]⟩] (by simp) (by simp) (by have hf := hs; simp [txtB] at hf ⊢; omega)) ?_
      simp only [killL, putS]
      refine runk_exec (by simp only [exa, beq_self_eq_true, ByteArray.size, Nat.reduceAdd, Nat.reduceLeDiff, Nat.reduceEqDiff, Nat.reduceMul, Int.reduceToNat, reduceIte, Int.reduceLE, Int.reduceNeg]; rfl) ?_
      (repeat (first | refine W.seq ?_ | refine W.block ?_ | refine W.skip ?_ | refine W.exit ?_))
      refine W.regionK tab_ok b (by decide) ?_
      refine runk_split 3 (by simp only [exa, beq_self_eq_true, ByteArray.size, Nat.reduceAdd, Nat.reduceLeDiff, Nat.reduceEqDiff, Nat.reduceMul, Int.reduceToNat, reduceIte, Int.reduceLE, Int.reduceNeg, killS_app, A.kill, jq, b3q, if_false, hm3]; rfl) ?_
      refine runk_callE (D := [q]) rfl rfl rfl rfl rfl (fun i hi => by simp at hi; subst hi; exact nkq) (by simp) (by first | exact cvs_cons cv_refl (cvs_cons cv_refl cvs_nil) | exact cvs_cons cv_refl (cvs_cons cv_refl (cvs_cons cv_refl cvs_nil))) (listM h1 f1 (l := es) hE hlen true (B0 ++ txtB [⟨#[105, 102, 32, 40]⟩]) ⟨#[41, 32]⟩ (by show _ + _ + 2 ≤ _; have hf := hs; simp [txtB] at hf ⊢; omega)) ?_
      simp only [killL, putS]
      refine runk_exec (by simp only [exa, beq_self_eq_true, ByteArray.size, Nat.reduceAdd, Nat.reduceLeDiff, Nat.reduceEqDiff, Nat.reduceMul, Int.reduceToNat, reduceIte, Int.reduceLE, Int.reduceNeg]; rfl) ?_
      (repeat (first | refine W.seq ?_ | refine W.block ?_ | refine W.skip ?_ | refine W.exit ?_))
      refine W.regionK tab_ok b (by decide) ?_
      refine runk_split 3 (by simp only [exa, beq_self_eq_true, ByteArray.size, Nat.reduceAdd, Nat.reduceLeDiff, Nat.reduceEqDiff, Nat.reduceMul, Int.reduceToNat, reduceIte, Int.reduceLE, Int.reduceNeg, killS_app, A.kill, jq, b3q, if_false, hm3]; rfl) ?_
      refine runk_callE (D := [q]) rfl rfl rfl rfl rfl (fun i hi => by simp at hi; subst hi; exact nkq) (by simp) (by first | exact cvs_cons cv_refl (cvs_cons cv_refl cvs_nil) | exact cvs_cons cv_refl (cvs_cons cv_refl (cvs_cons cv_refl cvs_nil))) (blockM h1 f1 (l := th) hTh hlT true (B0 ++ txtB [⟨#[105, 102, 32, 40]⟩] ++ listE es ++ (⟨#[41, 32]⟩ : ByteArray).data.toList) (by have hf := hs; simp [txtB] at hf ⊢; omega)) ?_
      simp only [killL, putS]
      refine runk_exec (by simp only [exa, beq_self_eq_true, ByteArray.size, Nat.reduceAdd, Nat.reduceLeDiff, Nat.reduceEqDiff, Nat.reduceMul, Int.reduceToNat, reduceIte, Int.reduceLE, Int.reduceNeg]; rfl) ?_
      repeat (first | refine W.seq ?_ | refine W.block ?_ | refine W.skip ?_ | refine W.exit ?_ | refine W.region tab_ok b (by decide) (exec_run (by simp only [exa, beq_self_eq_true, ByteArray.size, Nat.reduceAdd, Nat.reduceLeDiff, Nat.reduceEqDiff, Nat.reduceMul, Int.reduceToNat, reduceIte, Int.reduceLE, Int.reduceNeg, killS_app, A.kill, jq, b3q, if_false, hm3]; rfl)) ?_)
      refine W.cond rfl (fun h => absurd (of_decide_eq_true h) (by omega)) (fun _ => ?_)
      (repeat (first | refine W.seq ?_ | refine W.block ?_ | refine W.skip ?_ | refine W.exit ?_))
      refine W.regionK tab_ok b (by decide) ?_
      refine runk_split 2 (by simp only [exa, beq_self_eq_true, ByteArray.size, Nat.reduceAdd, Nat.reduceLeDiff, Nat.reduceEqDiff, Nat.reduceMul, Int.reduceToNat, reduceIte, Int.reduceLE, Int.reduceNeg, killS_app, A.kill, jq, b3q, if_false, hm3]; rfl) ?_
      refine runk_callE (D := [q]) rfl rfl rfl rfl rfl (fun i hi => by simp at hi; subst hi; exact nkq) (by simp) (by first | exact cvs_cons cv_refl (cvs_cons cv_refl cvs_nil) | exact cvs_cons cv_refl (cvs_cons cv_refl (cvs_cons cv_refl cvs_nil))) (layM h1 true (B0 ++ txtB [⟨#[105, 102, 32, 40]⟩] ++ listE es ++ (⟨#[41, 32]⟩ : ByteArray).data.toList ++ brcX t (stmtsX th (t + 1))) [⟨#[10]⟩] (by simp) (by simp) (by have hf := hs; simp [txtB] at hf ⊢; omega)) ?_
      simp only [killL, putS]
      refine runk_exec (by simp only [exa, beq_self_eq_true, ByteArray.size, Nat.reduceAdd, Nat.reduceLeDiff, Nat.reduceEqDiff, Nat.reduceMul, Int.reduceToNat, reduceIte, Int.reduceLE, Int.reduceNeg]; rfl) ?_
      (repeat (first | refine W.seq ?_ | refine W.block ?_ | refine W.skip ?_ | refine W.exit ?_))
      refine W.ret ⟨.inr rfl, by rfl, ?_, ?mle⟩
      simp only [Tryd.f51, resE, resOne, fin, toT, exa, beq_self_eq_true, ByteArray.size, Nat.reduceAdd, Nat.reduceLeDiff, Nat.reduceEqDiff, Nat.reduceMul, Int.reduceToNat, reduceIte, Int.reduceLE, Int.reduceNeg]
      case mle =>
        refine mle_eq (congrArg (pgM M j q true t) ?_) (off _ _)
        rw [hbd]
        simp [txtB, List.append_assoc]
    | false =>
      have hne : 0 < (cStmts el).length := by
        rw [cStmts_len]
        cases el with
        | nil => cases hel
        | cons a b => simp
      rw [hel] at hs
      have hbd : bodyS 3 n ty.data.toList nm.data.toList es t (stmtsX th (t + 1)) (stmtsX el (t + 1)) false = [105, 102, 32, 40] ++ listE es ++ [41, 32] ++ brcX t (stmtsX th (t + 1)) ++ ([32, 101, 108, 115, 101, 32] ++ brcX t (stmtsX el (t + 1))) ++ [10] := by simp [bodyS]
      rw [hbd] at hs
      repeat (first | refine W.seq ?_ | refine W.block ?_ | refine W.skip ?_ | refine W.exit ?_ | refine W.region tab_ok b (by decide) (exec_run (by simp only [exa, beq_self_eq_true, ByteArray.size, Nat.reduceAdd, Nat.reduceLeDiff, Nat.reduceEqDiff, Nat.reduceMul, Int.reduceToNat, reduceIte, Int.reduceLE, Int.reduceNeg, killS_app, A.kill, jq, b3q, if_false, hm3]; rfl)) ?_)
      iterate 2 (refine W.cond rfl (fun h => absurd h (by decide)) (fun _ => ?_); repeat (first | refine W.seq ?_ | refine W.block ?_ | refine W.skip ?_ | refine W.exit ?_ | refine W.region tab_ok b (by decide) (exec_run (by simp only [exa, beq_self_eq_true, ByteArray.size, Nat.reduceAdd, Nat.reduceLeDiff, Nat.reduceEqDiff, Nat.reduceMul, Int.reduceToNat, reduceIte, Int.reduceLE, Int.reduceNeg, killS_app, A.kill, jq, b3q, if_false, hm3]; rfl)) ?_))
      refine W.cond rfl (fun _ => ?_) (fun h => absurd h (by decide))
      (repeat (first | refine W.seq ?_ | refine W.block ?_ | refine W.skip ?_ | refine W.exit ?_))
      (repeat (first | refine W.seq ?_ | refine W.block ?_ | refine W.skip ?_ | refine W.exit ?_))
      refine W.cond rfl (fun _ => ?_) (fun h => absurd h (by decide))
      (repeat (first | refine W.seq ?_ | refine W.block ?_ | refine W.skip ?_ | refine W.exit ?_))
      (repeat (first | refine W.seq ?_ | refine W.block ?_ | refine W.skip ?_ | refine W.exit ?_))
      refine W.regionK tab_ok b (by decide) ?_
      refine runk_split 8 (by simp only [exa, beq_self_eq_true, ByteArray.size, Nat.reduceAdd, Nat.reduceLeDiff, Nat.reduceEqDiff, Nat.reduceMul, Int.reduceToNat, reduceIte, Int.reduceLE, Int.reduceNeg, killS_app, A.kill, jq, b3q, if_false, hm3, Nat.reducePow, Nat.reduceLT, and_self, Bool.false_eq_true, Int.reduceSub, Int.cast_ofNat_Int, List.length_cons, List.length_nil]; rfl) ?_
      refine runk_callE (D := [q]) rfl rfl rfl rfl rfl (fun i hi => by simp at hi; subst hi; exact nkq) (by simp) (by first | exact cvs_cons cv_refl (cvs_cons cv_refl cvs_nil) | exact cvs_cons cv_refl (cvs_cons cv_refl (cvs_cons cv_refl cvs_nil))) (layM h1 true B0 [⟨#[105, 102, 32, 40]⟩] (by simp) (by simp) (by have hf := hs; simp [txtB] at hf ⊢; omega)) ?_
      simp only [killL, putS]
      refine runk_exec (by simp only [exa, beq_self_eq_true, ByteArray.size, Nat.reduceAdd, Nat.reduceLeDiff, Nat.reduceEqDiff, Nat.reduceMul, Int.reduceToNat, reduceIte, Int.reduceLE, Int.reduceNeg]; rfl) ?_
      (repeat (first | refine W.seq ?_ | refine W.block ?_ | refine W.skip ?_ | refine W.exit ?_))
      refine W.regionK tab_ok b (by decide) ?_
      refine runk_split 3 (by simp only [exa, beq_self_eq_true, ByteArray.size, Nat.reduceAdd, Nat.reduceLeDiff, Nat.reduceEqDiff, Nat.reduceMul, Int.reduceToNat, reduceIte, Int.reduceLE, Int.reduceNeg, killS_app, A.kill, jq, b3q, if_false, hm3]; rfl) ?_
      refine runk_callE (D := [q]) rfl rfl rfl rfl rfl (fun i hi => by simp at hi; subst hi; exact nkq) (by simp) (by first | exact cvs_cons cv_refl (cvs_cons cv_refl cvs_nil) | exact cvs_cons cv_refl (cvs_cons cv_refl (cvs_cons cv_refl cvs_nil))) (listM h1 f1 (l := es) hE hlen true (B0 ++ txtB [⟨#[105, 102, 32, 40]⟩]) ⟨#[41, 32]⟩ (by show _ + _ + 2 ≤ _; have hf := hs; simp [txtB] at hf ⊢; omega)) ?_
      simp only [killL, putS]
      refine runk_exec (by simp only [exa, beq_self_eq_true, ByteArray.size, Nat.reduceAdd, Nat.reduceLeDiff, Nat.reduceEqDiff, Nat.reduceMul, Int.reduceToNat, reduceIte, Int.reduceLE, Int.reduceNeg]; rfl) ?_
      (repeat (first | refine W.seq ?_ | refine W.block ?_ | refine W.skip ?_ | refine W.exit ?_))
      refine W.regionK tab_ok b (by decide) ?_
      refine runk_split 3 (by simp only [exa, beq_self_eq_true, ByteArray.size, Nat.reduceAdd, Nat.reduceLeDiff, Nat.reduceEqDiff, Nat.reduceMul, Int.reduceToNat, reduceIte, Int.reduceLE, Int.reduceNeg, killS_app, A.kill, jq, b3q, if_false, hm3]; rfl) ?_
      refine runk_callE (D := [q]) rfl rfl rfl rfl rfl (fun i hi => by simp at hi; subst hi; exact nkq) (by simp) (by first | exact cvs_cons cv_refl (cvs_cons cv_refl cvs_nil) | exact cvs_cons cv_refl (cvs_cons cv_refl (cvs_cons cv_refl cvs_nil))) (blockM h1 f1 (l := th) hTh hlT true (B0 ++ txtB [⟨#[105, 102, 32, 40]⟩] ++ listE es ++ (⟨#[41, 32]⟩ : ByteArray).data.toList) (by have hf := hs; simp [txtB] at hf ⊢; omega)) ?_
      simp only [killL, putS]
      refine runk_exec (by simp only [exa, beq_self_eq_true, ByteArray.size, Nat.reduceAdd, Nat.reduceLeDiff, Nat.reduceEqDiff, Nat.reduceMul, Int.reduceToNat, reduceIte, Int.reduceLE, Int.reduceNeg]; rfl) ?_
      repeat (first | refine W.seq ?_ | refine W.block ?_ | refine W.skip ?_ | refine W.exit ?_ | refine W.region tab_ok b (by decide) (exec_run (by simp only [exa, beq_self_eq_true, ByteArray.size, Nat.reduceAdd, Nat.reduceLeDiff, Nat.reduceEqDiff, Nat.reduceMul, Int.reduceToNat, reduceIte, Int.reduceLE, Int.reduceNeg, killS_app, A.kill, jq, b3q, if_false, hm3]; rfl)) ?_)
      refine W.cond rfl (fun _ => ?_) (fun h => absurd (of_decide_eq_false h) (by omega))
      (repeat (first | refine W.seq ?_ | refine W.block ?_ | refine W.skip ?_ | refine W.exit ?_))
      refine W.regionK tab_ok b (by decide) ?_
      refine runk_split 2 (by simp only [exa, beq_self_eq_true, ByteArray.size, Nat.reduceAdd, Nat.reduceLeDiff, Nat.reduceEqDiff, Nat.reduceMul, Int.reduceToNat, reduceIte, Int.reduceLE, Int.reduceNeg, killS_app, A.kill, jq, b3q, if_false, hm3]; rfl) ?_
      refine runk_callE (D := [q]) rfl rfl rfl rfl rfl (fun i hi => by simp at hi; subst hi; exact nkq) (by simp) (by first | exact cvs_cons cv_refl (cvs_cons cv_refl cvs_nil) | exact cvs_cons cv_refl (cvs_cons cv_refl (cvs_cons cv_refl cvs_nil))) (layM h1 true (B0 ++ txtB [⟨#[105, 102, 32, 40]⟩] ++ listE es ++ (⟨#[41, 32]⟩ : ByteArray).data.toList ++ brcX t (stmtsX th (t + 1))) [⟨#[32, 101, 108, 115, 101, 32]⟩] (by simp) (by simp) (by have hf := hs; simp [txtB] at hf ⊢; omega)) ?_
      simp only [killL, putS]
      refine runk_exec (by simp only [exa, beq_self_eq_true, ByteArray.size, Nat.reduceAdd, Nat.reduceLeDiff, Nat.reduceEqDiff, Nat.reduceMul, Int.reduceToNat, reduceIte, Int.reduceLE, Int.reduceNeg]; rfl) ?_
      (repeat (first | refine W.seq ?_ | refine W.block ?_ | refine W.skip ?_ | refine W.exit ?_))
      refine W.regionK tab_ok b (by decide) ?_
      refine runk_split 3 (by simp only [exa, beq_self_eq_true, ByteArray.size, Nat.reduceAdd, Nat.reduceLeDiff, Nat.reduceEqDiff, Nat.reduceMul, Int.reduceToNat, reduceIte, Int.reduceLE, Int.reduceNeg, killS_app, A.kill, jq, b3q, if_false, hm3]; rfl) ?_
      refine runk_callE (D := [q]) rfl rfl rfl rfl rfl (fun i hi => by simp at hi; subst hi; exact nkq) (by simp) (by first | exact cvs_cons cv_refl (cvs_cons cv_refl cvs_nil) | exact cvs_cons cv_refl (cvs_cons cv_refl (cvs_cons cv_refl cvs_nil))) (blockM h1 f1 (l := el) hEl hlL true (B0 ++ txtB [⟨#[105, 102, 32, 40]⟩] ++ listE es ++ (⟨#[41, 32]⟩ : ByteArray).data.toList ++ brcX t (stmtsX th (t + 1)) ++ txtB [⟨#[32, 101, 108, 115, 101, 32]⟩]) (by have hf := hs; simp [txtB] at hf ⊢; omega)) ?_
      simp only [killL, putS]
      refine runk_exec (by simp only [exa, beq_self_eq_true, ByteArray.size, Nat.reduceAdd, Nat.reduceLeDiff, Nat.reduceEqDiff, Nat.reduceMul, Int.reduceToNat, reduceIte, Int.reduceLE, Int.reduceNeg]; rfl) ?_
      (repeat (first | refine W.seq ?_ | refine W.block ?_ | refine W.skip ?_ | refine W.exit ?_))
      refine W.regionK tab_ok b (by decide) ?_
      refine runk_split 2 (by simp only [exa, beq_self_eq_true, ByteArray.size, Nat.reduceAdd, Nat.reduceLeDiff, Nat.reduceEqDiff, Nat.reduceMul, Int.reduceToNat, reduceIte, Int.reduceLE, Int.reduceNeg, killS_app, A.kill, jq, b3q, if_false, hm3]; rfl) ?_
      refine runk_callE (D := [q]) rfl rfl rfl rfl rfl (fun i hi => by simp at hi; subst hi; exact nkq) (by simp) (by first | exact cvs_cons cv_refl (cvs_cons cv_refl cvs_nil) | exact cvs_cons cv_refl (cvs_cons cv_refl (cvs_cons cv_refl cvs_nil))) (layM h1 true (B0 ++ txtB [⟨#[105, 102, 32, 40]⟩] ++ listE es ++ (⟨#[41, 32]⟩ : ByteArray).data.toList ++ brcX t (stmtsX th (t + 1)) ++ txtB [⟨#[32, 101, 108, 115, 101, 32]⟩] ++ brcX t (stmtsX el (t + 1))) [⟨#[10]⟩] (by simp) (by simp) (by have hf := hs; simp [txtB] at hf ⊢; omega)) ?_
      simp only [killL, putS]
      refine runk_exec (by simp only [exa, beq_self_eq_true, ByteArray.size, Nat.reduceAdd, Nat.reduceLeDiff, Nat.reduceEqDiff, Nat.reduceMul, Int.reduceToNat, reduceIte, Int.reduceLE, Int.reduceNeg]; rfl) ?_
      (repeat (first | refine W.seq ?_ | refine W.block ?_ | refine W.skip ?_ | refine W.exit ?_))
      refine W.ret ⟨.inr rfl, by rfl, ?_, ?mle⟩
      simp only [Tryd.f51, resE, resOne, fin, toT, exa, beq_self_eq_true, ByteArray.size, Nat.reduceAdd, Nat.reduceLeDiff, Nat.reduceEqDiff, Nat.reduceMul, Int.reduceToNat, reduceIte, Int.reduceLE, Int.reduceNeg]
      case mle =>
        refine mle_eq (congrArg (pgM M j q true t) ?_) (off _ _)
        rw [hbd]
        simp [txtB, List.append_assoc]
  · cases hel : el.isEmpty with
    | true =>
      have hze : (cStmts el).length = 0 := by rw [cStmts_len, List.isEmpty_iff.1 hel]; rfl
      rw [hel] at hs
      have hbd : bodyS 4 n ty.data.toList nm.data.toList es t (stmtsX th (t + 1)) (stmtsX el (t + 1)) true = [119, 104, 105, 108, 101, 32, 40] ++ listE es ++ [41, 32] ++ brcX t (stmtsX th (t + 1)) ++ [10] := by simp [bodyS]
      rw [hbd] at hs
      repeat (first | refine W.seq ?_ | refine W.block ?_ | refine W.skip ?_ | refine W.exit ?_ | refine W.region tab_ok b (by decide) (exec_run (by simp only [exa, beq_self_eq_true, ByteArray.size, Nat.reduceAdd, Nat.reduceLeDiff, Nat.reduceEqDiff, Nat.reduceMul, Int.reduceToNat, reduceIte, Int.reduceLE, Int.reduceNeg, killS_app, A.kill, jq, b3q, if_false, hm3]; rfl)) ?_)
      iterate 2 (refine W.cond rfl (fun h => absurd h (by decide)) (fun _ => ?_); repeat (first | refine W.seq ?_ | refine W.block ?_ | refine W.skip ?_ | refine W.exit ?_ | refine W.region tab_ok b (by decide) (exec_run (by simp only [exa, beq_self_eq_true, ByteArray.size, Nat.reduceAdd, Nat.reduceLeDiff, Nat.reduceEqDiff, Nat.reduceMul, Int.reduceToNat, reduceIte, Int.reduceLE, Int.reduceNeg, killS_app, A.kill, jq, b3q, if_false, hm3]; rfl)) ?_))
      iterate 1 (refine W.cond rfl (fun h => absurd h (by decide)) (fun _ => ?_); repeat (first | refine W.seq ?_ | refine W.block ?_ | refine W.skip ?_ | refine W.exit ?_ | refine W.region tab_ok b (by decide) (exec_run (by simp only [exa, beq_self_eq_true, ByteArray.size, Nat.reduceAdd, Nat.reduceLeDiff, Nat.reduceEqDiff, Nat.reduceMul, Int.reduceToNat, reduceIte, Int.reduceLE, Int.reduceNeg, killS_app, A.kill, jq, b3q, if_false, hm3]; rfl)) ?_))
      refine W.cond rfl (fun _ => ?_) (fun h => absurd h (by decide))
      (repeat (first | refine W.seq ?_ | refine W.block ?_ | refine W.skip ?_ | refine W.exit ?_))
      (repeat (first | refine W.seq ?_ | refine W.block ?_ | refine W.skip ?_ | refine W.exit ?_))
      refine W.regionK tab_ok b (by decide) ?_
      refine runk_split 8 (by simp only [exa, beq_self_eq_true, ByteArray.size, Nat.reduceAdd, Nat.reduceLeDiff, Nat.reduceEqDiff, Nat.reduceMul, Int.reduceToNat, reduceIte, Int.reduceLE, Int.reduceNeg, killS_app, A.kill, jq, b3q, if_false, hm3, Nat.reducePow, Nat.reduceLT, and_self, Bool.false_eq_true, Int.reduceSub, Int.cast_ofNat_Int, List.length_cons, List.length_nil]; rfl) ?_
      refine runk_callE (D := [q]) rfl rfl rfl rfl rfl (fun i hi => by simp at hi; subst hi; exact nkq) (by simp) (by first | exact cvs_cons cv_refl (cvs_cons cv_refl cvs_nil) | exact cvs_cons cv_refl (cvs_cons cv_refl (cvs_cons cv_refl cvs_nil))) (layM h1 true B0 [⟨#[119, 104, 105, 108, 101, 32, 40]⟩] (by simp) (by simp) (by have hf := hs; simp [txtB] at hf ⊢; omega)) ?_
      simp only [killL, putS]
      refine runk_exec (by simp only [exa, beq_self_eq_true, ByteArray.size, Nat.reduceAdd, Nat.reduceLeDiff, Nat.reduceEqDiff, Nat.reduceMul, Int.reduceToNat, reduceIte, Int.reduceLE, Int.reduceNeg]; rfl) ?_
      (repeat (first | refine W.seq ?_ | refine W.block ?_ | refine W.skip ?_ | refine W.exit ?_))
      refine W.regionK tab_ok b (by decide) ?_
      refine runk_split 3 (by simp only [exa, beq_self_eq_true, ByteArray.size, Nat.reduceAdd, Nat.reduceLeDiff, Nat.reduceEqDiff, Nat.reduceMul, Int.reduceToNat, reduceIte, Int.reduceLE, Int.reduceNeg, killS_app, A.kill, jq, b3q, if_false, hm3]; rfl) ?_
      refine runk_callE (D := [q]) rfl rfl rfl rfl rfl (fun i hi => by simp at hi; subst hi; exact nkq) (by simp) (by first | exact cvs_cons cv_refl (cvs_cons cv_refl cvs_nil) | exact cvs_cons cv_refl (cvs_cons cv_refl (cvs_cons cv_refl cvs_nil))) (listM h1 f1 (l := es) hE hlen true (B0 ++ txtB [⟨#[119, 104, 105, 108, 101, 32, 40]⟩]) ⟨#[41, 32]⟩ (by show _ + _ + 2 ≤ _; have hf := hs; simp [txtB] at hf ⊢; omega)) ?_
      simp only [killL, putS]
      refine runk_exec (by simp only [exa, beq_self_eq_true, ByteArray.size, Nat.reduceAdd, Nat.reduceLeDiff, Nat.reduceEqDiff, Nat.reduceMul, Int.reduceToNat, reduceIte, Int.reduceLE, Int.reduceNeg]; rfl) ?_
      (repeat (first | refine W.seq ?_ | refine W.block ?_ | refine W.skip ?_ | refine W.exit ?_))
      refine W.regionK tab_ok b (by decide) ?_
      refine runk_split 3 (by simp only [exa, beq_self_eq_true, ByteArray.size, Nat.reduceAdd, Nat.reduceLeDiff, Nat.reduceEqDiff, Nat.reduceMul, Int.reduceToNat, reduceIte, Int.reduceLE, Int.reduceNeg, killS_app, A.kill, jq, b3q, if_false, hm3]; rfl) ?_
      refine runk_callE (D := [q]) rfl rfl rfl rfl rfl (fun i hi => by simp at hi; subst hi; exact nkq) (by simp) (by first | exact cvs_cons cv_refl (cvs_cons cv_refl cvs_nil) | exact cvs_cons cv_refl (cvs_cons cv_refl (cvs_cons cv_refl cvs_nil))) (blockM h1 f1 (l := th) hTh hlT true (B0 ++ txtB [⟨#[119, 104, 105, 108, 101, 32, 40]⟩] ++ listE es ++ (⟨#[41, 32]⟩ : ByteArray).data.toList) (by have hf := hs; simp [txtB] at hf ⊢; omega)) ?_
      simp only [killL, putS]
      refine runk_exec (by simp only [exa, beq_self_eq_true, ByteArray.size, Nat.reduceAdd, Nat.reduceLeDiff, Nat.reduceEqDiff, Nat.reduceMul, Int.reduceToNat, reduceIte, Int.reduceLE, Int.reduceNeg]; rfl) ?_
      repeat (first | refine W.seq ?_ | refine W.block ?_ | refine W.skip ?_ | refine W.exit ?_ | refine W.region tab_ok b (by decide) (exec_run (by simp only [exa, beq_self_eq_true, ByteArray.size, Nat.reduceAdd, Nat.reduceLeDiff, Nat.reduceEqDiff, Nat.reduceMul, Int.reduceToNat, reduceIte, Int.reduceLE, Int.reduceNeg, killS_app, A.kill, jq, b3q, if_false, hm3]; rfl)) ?_)
      refine W.cond rfl (fun h => absurd (of_decide_eq_true h) (by omega)) (fun _ => ?_)
      (repeat (first | refine W.seq ?_ | refine W.block ?_ | refine W.skip ?_ | refine W.exit ?_))
      refine W.regionK tab_ok b (by decide) ?_
      refine runk_split 2 (by simp only [exa, beq_self_eq_true, ByteArray.size, Nat.reduceAdd, Nat.reduceLeDiff, Nat.reduceEqDiff, Nat.reduceMul, Int.reduceToNat, reduceIte, Int.reduceLE, Int.reduceNeg, killS_app, A.kill, jq, b3q, if_false, hm3]; rfl) ?_
      refine runk_callE (D := [q]) rfl rfl rfl rfl rfl (fun i hi => by simp at hi; subst hi; exact nkq) (by simp) (by first | exact cvs_cons cv_refl (cvs_cons cv_refl cvs_nil) | exact cvs_cons cv_refl (cvs_cons cv_refl (cvs_cons cv_refl cvs_nil))) (layM h1 true (B0 ++ txtB [⟨#[119, 104, 105, 108, 101, 32, 40]⟩] ++ listE es ++ (⟨#[41, 32]⟩ : ByteArray).data.toList ++ brcX t (stmtsX th (t + 1))) [⟨#[10]⟩] (by simp) (by simp) (by have hf := hs; simp [txtB] at hf ⊢; omega)) ?_
      simp only [killL, putS]
      refine runk_exec (by simp only [exa, beq_self_eq_true, ByteArray.size, Nat.reduceAdd, Nat.reduceLeDiff, Nat.reduceEqDiff, Nat.reduceMul, Int.reduceToNat, reduceIte, Int.reduceLE, Int.reduceNeg]; rfl) ?_
      (repeat (first | refine W.seq ?_ | refine W.block ?_ | refine W.skip ?_ | refine W.exit ?_))
      refine W.ret ⟨.inr rfl, by rfl, ?_, ?mle⟩
      simp only [Tryd.f51, resE, resOne, fin, toT, exa, beq_self_eq_true, ByteArray.size, Nat.reduceAdd, Nat.reduceLeDiff, Nat.reduceEqDiff, Nat.reduceMul, Int.reduceToNat, reduceIte, Int.reduceLE, Int.reduceNeg]
      case mle =>
        refine mle_eq (congrArg (pgM M j q true t) ?_) (off _ _)
        rw [hbd]
        simp [txtB, List.append_assoc]
    | false =>
      have hne : 0 < (cStmts el).length := by
        rw [cStmts_len]
        cases el with
        | nil => cases hel
        | cons a b => simp
      rw [hel] at hs
      have hbd : bodyS 4 n ty.data.toList nm.data.toList es t (stmtsX th (t + 1)) (stmtsX el (t + 1)) false = [119, 104, 105, 108, 101, 32, 40] ++ listE es ++ [41, 32] ++ brcX t (stmtsX th (t + 1)) ++ ([32, 101, 108, 115, 101, 32] ++ brcX t (stmtsX el (t + 1))) ++ [10] := by simp [bodyS]
      rw [hbd] at hs
      repeat (first | refine W.seq ?_ | refine W.block ?_ | refine W.skip ?_ | refine W.exit ?_ | refine W.region tab_ok b (by decide) (exec_run (by simp only [exa, beq_self_eq_true, ByteArray.size, Nat.reduceAdd, Nat.reduceLeDiff, Nat.reduceEqDiff, Nat.reduceMul, Int.reduceToNat, reduceIte, Int.reduceLE, Int.reduceNeg, killS_app, A.kill, jq, b3q, if_false, hm3]; rfl)) ?_)
      iterate 2 (refine W.cond rfl (fun h => absurd h (by decide)) (fun _ => ?_); repeat (first | refine W.seq ?_ | refine W.block ?_ | refine W.skip ?_ | refine W.exit ?_ | refine W.region tab_ok b (by decide) (exec_run (by simp only [exa, beq_self_eq_true, ByteArray.size, Nat.reduceAdd, Nat.reduceLeDiff, Nat.reduceEqDiff, Nat.reduceMul, Int.reduceToNat, reduceIte, Int.reduceLE, Int.reduceNeg, killS_app, A.kill, jq, b3q, if_false, hm3]; rfl)) ?_))
      iterate 1 (refine W.cond rfl (fun h => absurd h (by decide)) (fun _ => ?_); repeat (first | refine W.seq ?_ | refine W.block ?_ | refine W.skip ?_ | refine W.exit ?_ | refine W.region tab_ok b (by decide) (exec_run (by simp only [exa, beq_self_eq_true, ByteArray.size, Nat.reduceAdd, Nat.reduceLeDiff, Nat.reduceEqDiff, Nat.reduceMul, Int.reduceToNat, reduceIte, Int.reduceLE, Int.reduceNeg, killS_app, A.kill, jq, b3q, if_false, hm3]; rfl)) ?_))
      refine W.cond rfl (fun _ => ?_) (fun h => absurd h (by decide))
      (repeat (first | refine W.seq ?_ | refine W.block ?_ | refine W.skip ?_ | refine W.exit ?_))
      (repeat (first | refine W.seq ?_ | refine W.block ?_ | refine W.skip ?_ | refine W.exit ?_))
      refine W.regionK tab_ok b (by decide) ?_
      refine runk_split 8 (by simp only [exa, beq_self_eq_true, ByteArray.size, Nat.reduceAdd, Nat.reduceLeDiff, Nat.reduceEqDiff, Nat.reduceMul, Int.reduceToNat, reduceIte, Int.reduceLE, Int.reduceNeg, killS_app, A.kill, jq, b3q, if_false, hm3, Nat.reducePow, Nat.reduceLT, and_self, Bool.false_eq_true, Int.reduceSub, Int.cast_ofNat_Int, List.length_cons, List.length_nil]; rfl) ?_
      refine runk_callE (D := [q]) rfl rfl rfl rfl rfl (fun i hi => by simp at hi; subst hi; exact nkq) (by simp) (by first | exact cvs_cons cv_refl (cvs_cons cv_refl cvs_nil) | exact cvs_cons cv_refl (cvs_cons cv_refl (cvs_cons cv_refl cvs_nil))) (layM h1 true B0 [⟨#[119, 104, 105, 108, 101, 32, 40]⟩] (by simp) (by simp) (by have hf := hs; simp [txtB] at hf ⊢; omega)) ?_
      simp only [killL, putS]
      refine runk_exec (by simp only [exa, beq_self_eq_true, ByteArray.size, Nat.reduceAdd, Nat.reduceLeDiff, Nat.reduceEqDiff, Nat.reduceMul, Int.reduceToNat, reduceIte, Int.reduceLE, Int.reduceNeg]; rfl) ?_
      (repeat (first | refine W.seq ?_ | refine W.block ?_ | refine W.skip ?_ | refine W.exit ?_))
      refine W.regionK tab_ok b (by decide) ?_
      refine runk_split 3 (by simp only [exa, beq_self_eq_true, ByteArray.size, Nat.reduceAdd, Nat.reduceLeDiff, Nat.reduceEqDiff, Nat.reduceMul, Int.reduceToNat, reduceIte, Int.reduceLE, Int.reduceNeg, killS_app, A.kill, jq, b3q, if_false, hm3]; rfl) ?_
      refine runk_callE (D := [q]) rfl rfl rfl rfl rfl (fun i hi => by simp at hi; subst hi; exact nkq) (by simp) (by first | exact cvs_cons cv_refl (cvs_cons cv_refl cvs_nil) | exact cvs_cons cv_refl (cvs_cons cv_refl (cvs_cons cv_refl cvs_nil))) (listM h1 f1 (l := es) hE hlen true (B0 ++ txtB [⟨#[119, 104, 105, 108, 101, 32, 40]⟩]) ⟨#[41, 32]⟩ (by show _ + _ + 2 ≤ _; have hf := hs; simp [txtB] at hf ⊢; omega)) ?_
      simp only [killL, putS]
      refine runk_exec (by simp only [exa, beq_self_eq_true, ByteArray.size, Nat.reduceAdd, Nat.reduceLeDiff, Nat.reduceEqDiff, Nat.reduceMul, Int.reduceToNat, reduceIte, Int.reduceLE, Int.reduceNeg]; rfl) ?_
      (repeat (first | refine W.seq ?_ | refine W.block ?_ | refine W.skip ?_ | refine W.exit ?_))
      refine W.regionK tab_ok b (by decide) ?_
      refine runk_split 3 (by simp only [exa, beq_self_eq_true, ByteArray.size, Nat.reduceAdd, Nat.reduceLeDiff, Nat.reduceEqDiff, Nat.reduceMul, Int.reduceToNat, reduceIte, Int.reduceLE, Int.reduceNeg, killS_app, A.kill, jq, b3q, if_false, hm3]; rfl) ?_
      refine runk_callE (D := [q]) rfl rfl rfl rfl rfl (fun i hi => by simp at hi; subst hi; exact nkq) (by simp) (by first | exact cvs_cons cv_refl (cvs_cons cv_refl cvs_nil) | exact cvs_cons cv_refl (cvs_cons cv_refl (cvs_cons cv_refl cvs_nil))) (blockM h1 f1 (l := th) hTh hlT true (B0 ++ txtB [⟨#[119, 104, 105, 108, 101, 32, 40]⟩] ++ listE es ++ (⟨#[41, 32]⟩ : ByteArray).data.toList) (by have hf := hs; simp [txtB] at hf ⊢; omega)) ?_
      simp only [killL, putS]
      refine runk_exec (by simp only [exa, beq_self_eq_true, ByteArray.size, Nat.reduceAdd, Nat.reduceLeDiff, Nat.reduceEqDiff, Nat.reduceMul, Int.reduceToNat, reduceIte, Int.reduceLE, Int.reduceNeg]; rfl) ?_
      repeat (first | refine W.seq ?_ | refine W.block ?_ | refine W.skip ?_ | refine W.exit ?_ | refine W.region tab_ok b (by decide) (exec_run (by simp only [exa, beq_self_eq_true, ByteArray.size, Nat.reduceAdd, Nat.reduceLeDiff, Nat.reduceEqDiff, Nat.reduceMul, Int.reduceToNat, reduceIte, Int.reduceLE, Int.reduceNeg, killS_app, A.kill, jq, b3q, if_false, hm3]; rfl)) ?_)
      refine W.cond rfl (fun _ => ?_) (fun h => absurd (of_decide_eq_false h) (by omega))
      (repeat (first | refine W.seq ?_ | refine W.block ?_ | refine W.skip ?_ | refine W.exit ?_))
      refine W.regionK tab_ok b (by decide) ?_
      refine runk_split 2 (by simp only [exa, beq_self_eq_true, ByteArray.size, Nat.reduceAdd, Nat.reduceLeDiff, Nat.reduceEqDiff, Nat.reduceMul, Int.reduceToNat, reduceIte, Int.reduceLE, Int.reduceNeg, killS_app, A.kill, jq, b3q, if_false, hm3]; rfl) ?_
      refine runk_callE (D := [q]) rfl rfl rfl rfl rfl (fun i hi => by simp at hi; subst hi; exact nkq) (by simp) (by first | exact cvs_cons cv_refl (cvs_cons cv_refl cvs_nil) | exact cvs_cons cv_refl (cvs_cons cv_refl (cvs_cons cv_refl cvs_nil))) (layM h1 true (B0 ++ txtB [⟨#[119, 104, 105, 108, 101, 32, 40]⟩] ++ listE es ++ (⟨#[41, 32]⟩ : ByteArray).data.toList ++ brcX t (stmtsX th (t + 1))) [⟨#[32, 101, 108, 115, 101, 32]⟩] (by simp) (by simp) (by have hf := hs; simp [txtB] at hf ⊢; omega)) ?_
      simp only [killL, putS]
      refine runk_exec (by simp only [exa, beq_self_eq_true, ByteArray.size, Nat.reduceAdd, Nat.reduceLeDiff, Nat.reduceEqDiff, Nat.reduceMul, Int.reduceToNat, reduceIte, Int.reduceLE, Int.reduceNeg]; rfl) ?_
      (repeat (first | refine W.seq ?_ | refine W.block ?_ | refine W.skip ?_ | refine W.exit ?_))
      refine W.regionK tab_ok b (by decide) ?_
      refine runk_split 3 (by simp only [exa, beq_self_eq_true, ByteArray.size, Nat.reduceAdd, Nat.reduceLeDiff, Nat.reduceEqDiff, Nat.reduceMul, Int.reduceToNat, reduceIte, Int.reduceLE, Int.reduceNeg, killS_app, A.kill, jq, b3q, if_false, hm3]; rfl) ?_
      refine runk_callE (D := [q]) rfl rfl rfl rfl rfl (fun i hi => by simp at hi; subst hi; exact nkq) (by simp) (by first | exact cvs_cons cv_refl (cvs_cons cv_refl cvs_nil) | exact cvs_cons cv_refl (cvs_cons cv_refl (cvs_cons cv_refl cvs_nil))) (blockM h1 f1 (l := el) hEl hlL true (B0 ++ txtB [⟨#[119, 104, 105, 108, 101, 32, 40]⟩] ++ listE es ++ (⟨#[41, 32]⟩ : ByteArray).data.toList ++ brcX t (stmtsX th (t + 1)) ++ txtB [⟨#[32, 101, 108, 115, 101, 32]⟩]) (by have hf := hs; simp [txtB] at hf ⊢; omega)) ?_
      simp only [killL, putS]
      refine runk_exec (by simp only [exa, beq_self_eq_true, ByteArray.size, Nat.reduceAdd, Nat.reduceLeDiff, Nat.reduceEqDiff, Nat.reduceMul, Int.reduceToNat, reduceIte, Int.reduceLE, Int.reduceNeg]; rfl) ?_
      (repeat (first | refine W.seq ?_ | refine W.block ?_ | refine W.skip ?_ | refine W.exit ?_))
      refine W.regionK tab_ok b (by decide) ?_
      refine runk_split 2 (by simp only [exa, beq_self_eq_true, ByteArray.size, Nat.reduceAdd, Nat.reduceLeDiff, Nat.reduceEqDiff, Nat.reduceMul, Int.reduceToNat, reduceIte, Int.reduceLE, Int.reduceNeg, killS_app, A.kill, jq, b3q, if_false, hm3]; rfl) ?_
      refine runk_callE (D := [q]) rfl rfl rfl rfl rfl (fun i hi => by simp at hi; subst hi; exact nkq) (by simp) (by first | exact cvs_cons cv_refl (cvs_cons cv_refl cvs_nil) | exact cvs_cons cv_refl (cvs_cons cv_refl (cvs_cons cv_refl cvs_nil))) (layM h1 true (B0 ++ txtB [⟨#[119, 104, 105, 108, 101, 32, 40]⟩] ++ listE es ++ (⟨#[41, 32]⟩ : ByteArray).data.toList ++ brcX t (stmtsX th (t + 1)) ++ txtB [⟨#[32, 101, 108, 115, 101, 32]⟩] ++ brcX t (stmtsX el (t + 1))) [⟨#[10]⟩] (by simp) (by simp) (by have hf := hs; simp [txtB] at hf ⊢; omega)) ?_
      simp only [killL, putS]
      refine runk_exec (by simp only [exa, beq_self_eq_true, ByteArray.size, Nat.reduceAdd, Nat.reduceLeDiff, Nat.reduceEqDiff, Nat.reduceMul, Int.reduceToNat, reduceIte, Int.reduceLE, Int.reduceNeg]; rfl) ?_
      (repeat (first | refine W.seq ?_ | refine W.block ?_ | refine W.skip ?_ | refine W.exit ?_))
      refine W.ret ⟨.inr rfl, by rfl, ?_, ?mle⟩
      simp only [Tryd.f51, resE, resOne, fin, toT, exa, beq_self_eq_true, ByteArray.size, Nat.reduceAdd, Nat.reduceLeDiff, Nat.reduceEqDiff, Nat.reduceMul, Int.reduceToNat, reduceIte, Int.reduceLE, Int.reduceNeg]
      case mle =>
        refine mle_eq (congrArg (pgM M j q true t) ?_) (off _ _)
        rw [hbd]
        simp [txtB, List.append_assoc]
  · skip
    have hbd : bodyS 5 n ty.data.toList nm.data.toList es t (stmtsX th (t + 1)) (stmtsX el (t + 1)) el.isEmpty = [112, 114, 105, 110, 116, 40] ++ Lib.itoa n ++ [44, 32] ++ listE es ++ [41] ++ [59, 10] := by simp [bodyS]
    rw [hbd] at hs
    repeat (first | refine W.seq ?_ | refine W.block ?_ | refine W.skip ?_ | refine W.exit ?_ | refine W.region tab_ok b (by decide) (exec_run (by simp only [exa, beq_self_eq_true, ByteArray.size, Nat.reduceAdd, Nat.reduceLeDiff, Nat.reduceEqDiff, Nat.reduceMul, Int.reduceToNat, reduceIte, Int.reduceLE, Int.reduceNeg, killS_app, A.kill, jq, b3q, if_false, hm3]; rfl)) ?_)
    iterate 4 (refine W.cond rfl (fun h => absurd h (by decide)) (fun _ => ?_); repeat (first | refine W.seq ?_ | refine W.block ?_ | refine W.skip ?_ | refine W.exit ?_ | refine W.region tab_ok b (by decide) (exec_run (by simp only [exa, beq_self_eq_true, ByteArray.size, Nat.reduceAdd, Nat.reduceLeDiff, Nat.reduceEqDiff, Nat.reduceMul, Int.reduceToNat, reduceIte, Int.reduceLE, Int.reduceNeg, killS_app, A.kill, jq, b3q, if_false, hm3]; rfl)) ?_))
    refine W.cond rfl (fun _ => ?_) (fun h => absurd h (by decide))
    (repeat (first | refine W.seq ?_ | refine W.block ?_ | refine W.skip ?_ | refine W.exit ?_))
    (repeat (first | refine W.seq ?_ | refine W.block ?_ | refine W.skip ?_ | refine W.exit ?_))
    refine W.regionK tab_ok b (by decide) ?_
    refine runk_split 3 (by simp only [exa, beq_self_eq_true, ByteArray.size, Nat.reduceAdd, Nat.reduceLeDiff, Nat.reduceEqDiff, Nat.reduceMul, Int.reduceToNat, reduceIte, Int.reduceLE, Int.reduceNeg, killS_app, A.kill, jq, b3q, if_false, hm3]; rfl) ?_
    refine runk_call rfl rfl rfl rfl rfl (by simp) (cvs_cons cv_refl cvs_nil) (num_ok n _) ?_
    refine runk_split 1 (by simp only [exa, beq_self_eq_true, ByteArray.size, Nat.reduceAdd, Nat.reduceLeDiff, Nat.reduceEqDiff, Nat.reduceMul, Int.reduceToNat, reduceIte, Int.reduceLE, Int.reduceNeg, killS_app, A.kill, jq, b3q, if_false, hm3]; rfl) ?_
    refine runk_callE (D := [q]) rfl rfl rfl rfl rfl (fun i hi => by simp at hi; subst hi; exact nkq) (by simp) (by first | exact cvs_cons cv_refl (cvs_cons cv_refl cvs_nil) | exact cvs_cons cv_refl (cvs_cons cv_refl (cvs_cons cv_refl cvs_nil))) (layM h1 true B0 [⟨#[112, 114, 105, 110, 116, 40]⟩, ⟨(Lib.itoa n).toArray⟩, ⟨#[44, 32]⟩] (by simp) (by simp) (by have hf := hs; simp [txtB] at hf ⊢; omega)) ?_
    simp only [killL, putS]
    refine runk_exec (by simp only [exa, beq_self_eq_true, ByteArray.size, Nat.reduceAdd, Nat.reduceLeDiff, Nat.reduceEqDiff, Nat.reduceMul, Int.reduceToNat, reduceIte, Int.reduceLE, Int.reduceNeg]; rfl) ?_
    (repeat (first | refine W.seq ?_ | refine W.block ?_ | refine W.skip ?_ | refine W.exit ?_))
    refine W.regionK tab_ok b (by decide) ?_
    refine runk_split 3 (by simp only [exa, beq_self_eq_true, ByteArray.size, Nat.reduceAdd, Nat.reduceLeDiff, Nat.reduceEqDiff, Nat.reduceMul, Int.reduceToNat, reduceIte, Int.reduceLE, Int.reduceNeg, killS_app, A.kill, jq, b3q, if_false, hm3]; rfl) ?_
    refine runk_callE (D := [q]) rfl rfl rfl rfl rfl (fun i hi => by simp at hi; subst hi; exact nkq) (by simp) (by first | exact cvs_cons cv_refl (cvs_cons cv_refl cvs_nil) | exact cvs_cons cv_refl (cvs_cons cv_refl (cvs_cons cv_refl cvs_nil))) (listM h1 f1 (l := es) hE hlen true (B0 ++ txtB [⟨#[112, 114, 105, 110, 116, 40]⟩, ⟨(Lib.itoa n).toArray⟩, ⟨#[44, 32]⟩]) ⟨#[41]⟩ (by show _ + _ + 1 ≤ _; have hf := hs; simp [txtB] at hf ⊢; omega)) ?_
    simp only [killL, putS]
    refine runk_exec (by simp only [exa, beq_self_eq_true, ByteArray.size, Nat.reduceAdd, Nat.reduceLeDiff, Nat.reduceEqDiff, Nat.reduceMul, Int.reduceToNat, reduceIte, Int.reduceLE, Int.reduceNeg]; rfl) ?_
    (repeat (first | refine W.seq ?_ | refine W.block ?_ | refine W.skip ?_ | refine W.exit ?_))
    refine W.regionK tab_ok b (by decide) ?_
    refine runk_split 2 (by simp only [exa, beq_self_eq_true, ByteArray.size, Nat.reduceAdd, Nat.reduceLeDiff, Nat.reduceEqDiff, Nat.reduceMul, Int.reduceToNat, reduceIte, Int.reduceLE, Int.reduceNeg, killS_app, A.kill, jq, b3q, if_false, hm3]; rfl) ?_
    refine runk_callE (D := [q]) rfl rfl rfl rfl rfl (fun i hi => by simp at hi; subst hi; exact nkq) (by simp) (by first | exact cvs_cons cv_refl (cvs_cons cv_refl cvs_nil) | exact cvs_cons cv_refl (cvs_cons cv_refl (cvs_cons cv_refl cvs_nil))) (layM h1 true (B0 ++ txtB [⟨#[112, 114, 105, 110, 116, 40]⟩, ⟨(Lib.itoa n).toArray⟩, ⟨#[44, 32]⟩] ++ listE es ++ (⟨#[41]⟩ : ByteArray).data.toList) [⟨#[59, 10]⟩] (by simp) (by simp) (by have hf := hs; simp [txtB] at hf ⊢; omega)) ?_
    simp only [killL, putS]
    refine runk_exec (by simp only [exa, beq_self_eq_true, ByteArray.size, Nat.reduceAdd, Nat.reduceLeDiff, Nat.reduceEqDiff, Nat.reduceMul, Int.reduceToNat, reduceIte, Int.reduceLE, Int.reduceNeg]; rfl) ?_
    refine ⟨by simp, by rfl, by rfl, ?_⟩
    refine mle_eq (congrArg (pgM M j q true t) ?_) (off _ _)
    rw [hbd]
    simp [txtB, List.append_assoc]
  · skip
    have hbd : bodyS 6 n ty.data.toList nm.data.toList es t (stmtsX th (t + 1)) (stmtsX el (t + 1)) el.isEmpty = [114, 101, 116, 117, 114, 110, 32] ++ listE es ++ [59, 10] := by simp [bodyS]
    rw [hbd] at hs
    repeat (first | refine W.seq ?_ | refine W.block ?_ | refine W.skip ?_ | refine W.exit ?_ | refine W.region tab_ok b (by decide) (exec_run (by simp only [exa, beq_self_eq_true, ByteArray.size, Nat.reduceAdd, Nat.reduceLeDiff, Nat.reduceEqDiff, Nat.reduceMul, Int.reduceToNat, reduceIte, Int.reduceLE, Int.reduceNeg, killS_app, A.kill, jq, b3q, if_false, hm3]; rfl)) ?_)
    iterate 5 (refine W.cond rfl (fun h => absurd h (by decide)) (fun _ => ?_); repeat (first | refine W.seq ?_ | refine W.block ?_ | refine W.skip ?_ | refine W.exit ?_ | refine W.region tab_ok b (by decide) (exec_run (by simp only [exa, beq_self_eq_true, ByteArray.size, Nat.reduceAdd, Nat.reduceLeDiff, Nat.reduceEqDiff, Nat.reduceMul, Int.reduceToNat, reduceIte, Int.reduceLE, Int.reduceNeg, killS_app, A.kill, jq, b3q, if_false, hm3]; rfl)) ?_))
    refine W.cond rfl (fun _ => ?_) (fun h => absurd h (by decide))
    (repeat (first | refine W.seq ?_ | refine W.block ?_ | refine W.skip ?_ | refine W.exit ?_))
    (repeat (first | refine W.seq ?_ | refine W.block ?_ | refine W.skip ?_ | refine W.exit ?_))
    refine W.regionK tab_ok b (by decide) ?_
    refine runk_split 2 (by simp only [exa, beq_self_eq_true, ByteArray.size, Nat.reduceAdd, Nat.reduceLeDiff, Nat.reduceEqDiff, Nat.reduceMul, Int.reduceToNat, reduceIte, Int.reduceLE, Int.reduceNeg, killS_app, A.kill, jq, b3q, if_false, hm3]; rfl) ?_
    refine runk_callE (D := [q]) rfl rfl rfl rfl rfl (fun i hi => by simp at hi; subst hi; exact nkq) (by simp) (by first | exact cvs_cons cv_refl (cvs_cons cv_refl cvs_nil) | exact cvs_cons cv_refl (cvs_cons cv_refl (cvs_cons cv_refl cvs_nil))) (layM h1 true B0 [⟨#[114, 101, 116, 117, 114, 110, 32]⟩] (by simp) (by simp) (by have hf := hs; simp [txtB] at hf ⊢; omega)) ?_
    simp only [killL, putS]
    refine runk_exec (by simp only [exa, beq_self_eq_true, ByteArray.size, Nat.reduceAdd, Nat.reduceLeDiff, Nat.reduceEqDiff, Nat.reduceMul, Int.reduceToNat, reduceIte, Int.reduceLE, Int.reduceNeg]; rfl) ?_
    (repeat (first | refine W.seq ?_ | refine W.block ?_ | refine W.skip ?_ | refine W.exit ?_))
    refine W.regionK tab_ok b (by decide) ?_
    refine runk_split 3 (by simp only [exa, beq_self_eq_true, ByteArray.size, Nat.reduceAdd, Nat.reduceLeDiff, Nat.reduceEqDiff, Nat.reduceMul, Int.reduceToNat, reduceIte, Int.reduceLE, Int.reduceNeg, killS_app, A.kill, jq, b3q, if_false, hm3]; rfl) ?_
    refine runk_callE (D := [q]) rfl rfl rfl rfl rfl (fun i hi => by simp at hi; subst hi; exact nkq) (by simp) (by first | exact cvs_cons cv_refl (cvs_cons cv_refl cvs_nil) | exact cvs_cons cv_refl (cvs_cons cv_refl (cvs_cons cv_refl cvs_nil))) (listM h1 f1 (l := es) hE hlen true (B0 ++ txtB [⟨#[114, 101, 116, 117, 114, 110, 32]⟩]) ⟨#[]⟩ (by show _ + _ + 0 ≤ _; have hf := hs; simp [txtB] at hf ⊢; omega)) ?_
    simp only [killL, putS]
    refine runk_exec (by simp only [exa, beq_self_eq_true, ByteArray.size, Nat.reduceAdd, Nat.reduceLeDiff, Nat.reduceEqDiff, Nat.reduceMul, Int.reduceToNat, reduceIte, Int.reduceLE, Int.reduceNeg]; rfl) ?_
    (repeat (first | refine W.seq ?_ | refine W.block ?_ | refine W.skip ?_ | refine W.exit ?_))
    refine W.regionK tab_ok b (by decide) ?_
    refine runk_split 2 (by simp only [exa, beq_self_eq_true, ByteArray.size, Nat.reduceAdd, Nat.reduceLeDiff, Nat.reduceEqDiff, Nat.reduceMul, Int.reduceToNat, reduceIte, Int.reduceLE, Int.reduceNeg, killS_app, A.kill, jq, b3q, if_false, hm3]; rfl) ?_
    refine runk_callE (D := [q]) rfl rfl rfl rfl rfl (fun i hi => by simp at hi; subst hi; exact nkq) (by simp) (by first | exact cvs_cons cv_refl (cvs_cons cv_refl cvs_nil) | exact cvs_cons cv_refl (cvs_cons cv_refl (cvs_cons cv_refl cvs_nil))) (layM h1 true (B0 ++ txtB [⟨#[114, 101, 116, 117, 114, 110, 32]⟩] ++ listE es) [⟨#[59, 10]⟩] (by simp) (by simp) (by have hf := hs; simp [txtB] at hf ⊢; omega)) ?_
    simp only [killL, putS]
    refine runk_exec (by simp only [exa, beq_self_eq_true, ByteArray.size, Nat.reduceAdd, Nat.reduceLeDiff, Nat.reduceEqDiff, Nat.reduceMul, Int.reduceToNat, reduceIte, Int.reduceLE, Int.reduceNeg]; rfl) ?_
    refine ⟨by simp, by rfl, by rfl, ?_⟩
    refine mle_eq (congrArg (pgM M j q true t) ?_) (off _ _)
    rw [hbd]
    simp [txtB, List.append_assoc]
  · skip
    have hbd : bodyS 7 n ty.data.toList nm.data.toList es t (stmtsX th (t + 1)) (stmtsX el (t + 1)) el.isEmpty = listE es ++ [59, 10] := by simp [bodyS]
    rw [hbd] at hs
    repeat (first | refine W.seq ?_ | refine W.block ?_ | refine W.skip ?_ | refine W.exit ?_ | refine W.region tab_ok b (by decide) (exec_run (by simp only [exa, beq_self_eq_true, ByteArray.size, Nat.reduceAdd, Nat.reduceLeDiff, Nat.reduceEqDiff, Nat.reduceMul, Int.reduceToNat, reduceIte, Int.reduceLE, Int.reduceNeg, killS_app, A.kill, jq, b3q, if_false, hm3]; rfl)) ?_)
    iterate 6 (refine W.cond rfl (fun h => absurd h (by decide)) (fun _ => ?_); repeat (first | refine W.seq ?_ | refine W.block ?_ | refine W.skip ?_ | refine W.exit ?_ | refine W.region tab_ok b (by decide) (exec_run (by simp only [exa, beq_self_eq_true, ByteArray.size, Nat.reduceAdd, Nat.reduceLeDiff, Nat.reduceEqDiff, Nat.reduceMul, Int.reduceToNat, reduceIte, Int.reduceLE, Int.reduceNeg, killS_app, A.kill, jq, b3q, if_false, hm3]; rfl)) ?_))
    (repeat (first | refine W.seq ?_ | refine W.block ?_ | refine W.skip ?_ | refine W.exit ?_))
    refine W.regionK tab_ok b (by decide) ?_
    refine runk_split 3 (by simp only [exa, beq_self_eq_true, ByteArray.size, Nat.reduceAdd, Nat.reduceLeDiff, Nat.reduceEqDiff, Nat.reduceMul, Int.reduceToNat, reduceIte, Int.reduceLE, Int.reduceNeg, killS_app, A.kill, jq, b3q, if_false, hm3]; rfl) ?_
    refine runk_callE (D := [q]) rfl rfl rfl rfl rfl (fun i hi => by simp at hi; subst hi; exact nkq) (by simp) (by first | exact cvs_cons cv_refl (cvs_cons cv_refl cvs_nil) | exact cvs_cons cv_refl (cvs_cons cv_refl (cvs_cons cv_refl cvs_nil))) (listM h1 f1 (l := es) hE hlen true B0 ⟨#[]⟩ (by show _ + _ + 0 ≤ _; have hf := hs; simp [txtB] at hf ⊢; omega)) ?_
    simp only [killL, putS]
    refine runk_exec (by simp only [exa, beq_self_eq_true, ByteArray.size, Nat.reduceAdd, Nat.reduceLeDiff, Nat.reduceEqDiff, Nat.reduceMul, Int.reduceToNat, reduceIte, Int.reduceLE, Int.reduceNeg]; rfl) ?_
    (repeat (first | refine W.seq ?_ | refine W.block ?_ | refine W.skip ?_ | refine W.exit ?_))
    refine W.regionK tab_ok b (by decide) ?_
    refine runk_split 2 (by simp only [exa, beq_self_eq_true, ByteArray.size, Nat.reduceAdd, Nat.reduceLeDiff, Nat.reduceEqDiff, Nat.reduceMul, Int.reduceToNat, reduceIte, Int.reduceLE, Int.reduceNeg, killS_app, A.kill, jq, b3q, if_false, hm3]; rfl) ?_
    refine runk_callE (D := [q]) rfl rfl rfl rfl rfl (fun i hi => by simp at hi; subst hi; exact nkq) (by simp) (by first | exact cvs_cons cv_refl (cvs_cons cv_refl cvs_nil) | exact cvs_cons cv_refl (cvs_cons cv_refl (cvs_cons cv_refl cvs_nil))) (layM h1 true (B0 ++ listE es) [⟨#[59, 10]⟩] (by simp) (by simp) (by have hf := hs; simp [txtB] at hf ⊢; omega)) ?_
    simp only [killL, putS]
    refine runk_exec (by simp only [exa, beq_self_eq_true, ByteArray.size, Nat.reduceAdd, Nat.reduceLeDiff, Nat.reduceEqDiff, Nat.reduceMul, Int.reduceToNat, reduceIte, Int.reduceLE, Int.reduceNeg]; rfl) ?_
    refine ⟨by simp, by rfl, by rfl, ?_⟩
    refine mle_eq (congrArg (pgM M j q true t) ?_) (off _ _)
    rw [hbd]
    simp [txtB, List.append_assoc]
end V
end Go.Proofs.YtbmbmcdaabhgnaaDoor
end
section
set_option linter.unusedVariables false
set_option linter.unusedSimpArgs false
namespace Go.Proofs.YtbmbmcdaabhgnaaDoor
open Go.RowKit
set_option maxHeartbeats 2000000 in
set_option maxRecDepth 100000 in
theorem string_run (b g cap : Nat) (p t : Value) (cur : Array Value) (l : List UInt8) (w : World) (h0 : l ≠ []) (hbk : w.heap[b]? = some (.cells #[p, .slice (some ⟨g, 0, none⟩) l.length cap, t] 47 (0, 0))) (hg : w.heap[g]? = some (.cells cur 5 (0, 0)))
    (hnc : l.length ≤ cap) (hcm : cap ≤ maxLen) (hcs : cur.size = cap) (hcell : ∀ j x, l[j]? = some x → w.cell? ((⟨g, 0, none⟩ : Addr).add j) = some (.int .u8 x.toNat)) :
    Calls Tryd.prog 42 #[.pointer (some ⟨b, 0, none⟩)] w fun e w' => e = .returned (.string ⟨l.toArray⟩) ∧ w' = w.drew.freeze ⟨g, 0, none⟩ l.length := by
  have hl0 : l.length ≠ 0 := by simpa using h0
  have c1 : w.drew.cell? ⟨b, 1, none⟩ = some (.slice (some ⟨g, 0, none⟩) l.length cap) := by
    have : w.drew.heap[b]? = some (.cells #[p, .slice (some ⟨g, 0, none⟩) l.length cap, t] 47 (0, 0)) := hbk
    rw [Lib.cell_of_heap this]; rfl
  have hSD : (Builtin.unsafeSliceData_ #[43] 102 #[.slice (some ⟨g, 0, none⟩) l.length cap]).run Tryd.prog w.drew = .ok (.pointer (some ⟨g, 0, none⟩)) w.drew :=
    Lib.run_unsafeSliceData_row _ _ _ _ _ _ (by omega)
  have hUS : (Builtin.unsafeString_ #[102, 3] 9 #[.pointer (some ⟨g, 0, none⟩), .int .i64 l.length]).run Tryd.prog w.drew = .ok (.string ⟨l.toArray⟩) (w.drew.freeze ⟨g, 0, none⟩ l.length) := by
    refine Lib.run_unsafeString_row w.drew 102 3 9 5 Tryd.underlying102 (by kernel_rfl) g cur.size (by have hg' : w.drew.heap[g]? = some (.cells cur 5 (0, 0)) := hg; simp [World.shape?, hg']) l h0 (by omega) (by unfold maxLen at hcm; omega) ?_
    intro j x hx
    exact hcell j x hx
  clear hcell
  have mixed := V.follows_mixed
  go_enter Tryd.func42, Tryd.ntmps42
  go_wp2
  go_region_o
  all_goals (go_wp2; go_ret; exact ⟨rfl, rfl⟩)
namespace V
theorem freeze_cell (w : World) (a : Addr) (n : Nat) (p : Addr) : (w.freeze a n).cell? p = w.cell? p := by
  unfold World.freeze
  split
  · rfl
  · unfold World.cell?
    simp only [Array.getElem?_modify]
    by_cases e : a.block = p.block
    · rw [if_pos e]
      cases hh : w.heap[p.block]? with
      | none => rfl
      | some o => cases o <;> rfl
    · rw [if_neg e]
theorem freeze_other (w : World) (a : Addr) (n k : Nat) (h : k ≠ a.block) : (w.freeze a n).heap[k]? = w.heap[k]? := by
  unfold World.freeze
  split
  · rfl
  · simp only [Array.getElem?_modify]
    rw [if_neg (Ne.symm h)]
theorem flat_bytes : ∀ l : List UInt8, flat (cBytes l) = l.map fun b => C.int .u8 b.toNat
  | [] => rfl
  | y :: l => by
    have ih := flat_bytes l
    unfold flat cBytes at ih ⊢
    simp only [List.map_cons, List.flatten_cons, List.singleton_append]
    rw [ih]
theorem gone_wf {M : Mem} {q : Nat} (hw : WFm M) (hq : (M q).isSome = true) : WFm (upd (killM q M) q (some .gone)) := by
  have liv : ∀ i, (M i).isSome = true → (upd (killM q M) q (some O.gone) i).isSome = true := fun i hi => by
    unfold upd; split
    · rfl
    · simpa [killM_app] using hi
  intro i o ho k hk
  unfold upd at ho
  split at ho
  · cases ho; simp [O.ids] at hk
  · have ho : (M i).map (O.kill q) = some o := ho
    cases hm : M i with
    | none => rw [hm] at ho; cases ho
    | some o0 => rw [hm] at ho; cases ho; exact liv k (hw i o0 hm k (O.kill_ids k hk))
theorem string_ok {M : Mem} {j q : Nat} {u : Bool} {t : Int} {bs : List UInt8} (h : PgAt M j q u t bs) (h0 : bs ≠ []) (hlen : bs.length ≤ 140737488351232) : CallE Tryd.prog 42 [.ptr j 0] M [] (.c (.str ⟨bs.toArray⟩)) (upd (killM q M) q (some .gone)) := by
  have hqs : (M q).isSome = true := by rw [h.row]; rfl
  have liv : ∀ i, (M i).isSome = true → (upd (killM q M) q (some O.gone) i).isSome = true := fun i hi => by
    unfold upd; split
    · rfl
    · simpa [killM_app] using hi
  refine ⟨enters_of Tryd.func42 (by kernel_rfl) rfl, fun i hi => by simp [A.ids] at hi, liv, fun hw => gone_wf hw hqs, ?_⟩
  intro w0 I0 B I w vals hm hv
  match vals, hv with
  | [v], ⟨h1, _⟩ =>
    obtain ⟨b, vs, hB, hh, hvs, hno⟩ := hm.objs j _ h.box
    obtain ⟨b', hB', rfl⟩ := h1
    obtain rfl : b = b' := by rw [hB] at hB'; cases hB'; rfl
    obtain ⟨vsq, hown, hrc, hlx, hiff⟩ := hm.objs q _ h.row
    have hbl : (cBytes bs).length = bs.length := by unfold cBytes; rw [List.length_map]
    rw [hbl] at hown hiff
    match vs, hvs with
    | [x0, x1, x2], ⟨_, ⟨hx1, _⟩, _, _⟩ =>
      have hx1 : x1 = B q := hx1.1
      have hl0 : bs.length ≠ 0 := by simpa using h0
      rcases hown.2 with ⟨-, hz⟩ | ⟨g, cap, cur, hBq, hbg, hg, hnc, hcm, hcs, htake⟩
      · exact absurd hz hl0
      · rw [hBq] at hx1
        subst hx1
        have hcell : ∀ i x, bs[i]? = some x → w.cell? ((⟨g, 0, none⟩ : Addr).add i) = some (.int .u8 x.toNat) := by
          intro i x hx
          have hfl := flat_bytes bs
          rw [hfl] at hrc
          obtain ⟨v, hv1, hv2⟩ := hrc.at i (C.int .u8 x.toNat) (by simp [hx])
          rw [hBq] at hown
          have := hown.cells (g := g) rfl i v hv1
          rw [this, hv2.toInt.1]
        refine (string_run b g cap x0 x2 cur bs w h0 hh hg hnc hcm (by simpa using hcs) hcell).mono ?_
        rintro e w' ⟨rfl, rfl⟩
        have hE : Ext w (w.drew.freeze ⟨g, 0, none⟩ bs.length) I I := ⟨fun _ _ k => k, fun b o _ => by rw [freeze_cell]; rfl⟩
        have hfoot : ∀ k, foot B q (textB bs) k ↔ k = g := fun k => by
          show (B q).ownBlock = some k ↔ _
          rw [hBq]; simp [Value.ownBlock, eq_comm]
        have hr := hm.reval (id := q) (v' := B q) (o' := .gone) (w' := w.drew.freeze ⟨g, 0, none⟩ bs.length) (I' := I) h.row (by unfold World.freeze; split <;> rfl) (by unfold World.freeze; split <;> rfl) (by unfold World.freeze; split <;> rfl) (by unfold World.freeze; split; exact Nat.le_refl _; show w.heap.size ≤ (Array.modify w.drew.heap _ _).size; rw [Array.size_modify]; exact Nat.le_refl _) (fun b hb hnf => by
          rw [freeze_other _ _ _ _ (fun e => hnf ((hfoot b).2 e))]; rfl) (fun k hk => hk.elim) hE (fun _ _ k => .inl k) trivial (fun i hi => by simp [O.ids] at hi)
        have hBB : upd B q (B q) = B := upd_id B rfl
        rw [hBB] at hr
        exact ⟨_, B, I, rfl, hr, hE, fun _ _ _ => rfl, .str (by show bs.toArray.size ≤ maxStr; unfold maxStr; simpa using hlen)⟩
end V
end Go.Proofs.YtbmbmcdaabhgnaaDoor
end
section
set_option linter.unusedVariables false
set_option linter.unusedSimpArgs false
namespace Go.Proofs.YtbmbmcdaabhgnaaDoor
namespace V
open Go.RowKit
theorem len_ok {M : Mem} {j q : Nat} {u : Bool} {t : Int} {bs : List UInt8} (h : PgAt M j q u t bs) : CallE Tryd.prog 41 [.ptr j 0] M [] (.c (.int .i64 bs.length)) M := by
  have hjs : (M j).isSome = true := by rw [h.box]; rfl
  have hbx := h.box
  have hrw := h.row
  have hcb : (cBytes bs).length = bs.length := by unfold cBytes; rw [List.length_map]
  unfold pageB at hbx
  unfold textB at hrw
  refine (ok_eff tab_ok [] Tryd.func41 (by kernel_rfl) rfl rfl (by rfl) (by rfl) ?ids ?res ?sub ?wfm (fun hWF Rr hkeep => ?_))
  case ids => intro a ha i hi; simp at ha; subst ha; simp [A.ids] at hi; subst hi; exact hjs
  case res => intro i hi; simp [A.ids] at hi
  case sub => exact fun i hi => hi
  case wfm => exact fun hw => hw
  repeat (first | refine W.seq ?_ | refine W.block ?_ | refine W.skip ?_ | refine W.exit ?_ | refine W.region tab_ok 0 (by decide) (exec_run (by simp only [exa, beq_self_eq_true, ByteArray.size, Nat.reduceAdd, Nat.reduceLeDiff, Nat.reduceEqDiff, Nat.reduceMul, Int.reduceToNat, reduceIte, Int.reduceLE, Int.reduceNeg, hbx, hrw, hcb]; rfl)) ?_)
  refine W.ret ⟨.inr rfl, by rfl, ?_, ?mle⟩
  simp only [Tryd.f41, resE, resOne, fin, toT, exa, beq_self_eq_true, ByteArray.size, Nat.reduceAdd, Nat.reduceLeDiff, Nat.reduceEqDiff, Nat.reduceMul, Int.reduceToNat, reduceIte, Int.reduceLE, Int.reduceNeg]
  case mle => exact mle_refl _
def pgDoneM (M : Mem) (q : Nat) (bs : List UInt8) : Mem := if 8192 < bs.length then M else upd (killM q M) q (some .gone)
def pgDoneR (bs : List UInt8) : A := if 8192 < bs.length then .tupA [.c (.str ⟨#[]⟩), .c (.int .i64 2)] else .tupA [.c (.str ⟨bs.toArray⟩), .c (.int .i64 0)]
theorem done_ok {M : Mem} {j q : Nat} {u : Bool} {t : Int} {bs : List UInt8} (h : PgAt M j q u t bs) (h0 : bs ≠ []) (hlen : bs.length ≤ 140737488351232) : CallE Tryd.prog 17 [.ptr j 0] M [] (pgDoneR bs) (pgDoneM M q bs) := by
  have hjs : (M j).isSome = true := by rw [h.box]; rfl
  have hqs : (M q).isSome = true := by rw [h.row]; rfl
  refine (ok_eff tab_ok [] Tryd.func17 (by kernel_rfl) rfl rfl (by rfl) (by rfl) ?ids ?res ?sub ?wfm (fun hWF Rr hkeep => ?_))
  case ids => intro a ha i hi; simp at ha; subst ha; simp [A.ids] at hi; subst hi; exact hjs
  case res => intro i hi; unfold pgDoneR at hi; split at hi <;> simp [A.ids, A1.ids] at hi
  case sub =>
    intro i hi
    unfold pgDoneM
    split
    · exact hi
    · unfold upd; split
      · rfl
      · simpa [killM_app] using hi
  case wfm => intro hw; unfold pgDoneM; split; exact hw; exact gone_wf hw hqs
  repeat (first | refine W.seq ?_ | refine W.block ?_ | refine W.skip ?_ | refine W.exit ?_ | refine W.region tab_ok 0 (by decide) (exec_run (by simp only [exa, beq_self_eq_true, ByteArray.size, Nat.reduceAdd, Nat.reduceLeDiff, Nat.reduceEqDiff, Nat.reduceMul, Int.reduceToNat, reduceIte, Int.reduceLE, Int.reduceNeg]; rfl)) ?_)
  (repeat (first | refine W.seq ?_ | refine W.block ?_ | refine W.skip ?_))
  refine W.regionK tab_ok 0 (by decide) ?_
  refine runk_split 3 (by simp only [exa, beq_self_eq_true, ByteArray.size, Nat.reduceAdd, Nat.reduceLeDiff, Nat.reduceEqDiff, Nat.reduceMul, Int.reduceToNat, reduceIte, Int.reduceLE, Int.reduceNeg]; rfl) ?_
  refine runk_callE (D := []) rfl rfl rfl rfl rfl (fun j hj => by simp at hj) (by simp) (cvs_cons cv_refl cvs_nil) (len_ok h) ?_
  simp only [killL, putS, upd_upd]
  refine runk_exec (by simp only [exa, beq_self_eq_true, ByteArray.size, Nat.reduceAdd, Nat.reduceLeDiff, Nat.reduceEqDiff, Nat.reduceMul, Int.reduceToNat, reduceIte, Int.reduceLE, Int.reduceNeg]; rfl) ?_
  (repeat (first | refine W.seq ?_ | refine W.block ?_ | refine W.skip ?_))
  refine W.cond rfl ?_ ?_
  · intro hc
    have hc : 8192 < bs.length := by have := of_decide_eq_true hc; omega
    repeat (first | refine W.seq ?_ | refine W.block ?_ | refine W.skip ?_ | refine W.exit ?_ | refine W.region tab_ok 0 (by decide) (exec_run (by simp only [exa, beq_self_eq_true, ByteArray.size, Nat.reduceAdd, Nat.reduceLeDiff, Nat.reduceEqDiff, Nat.reduceMul, Int.reduceToNat, reduceIte, Int.reduceLE, Int.reduceNeg]; rfl)) ?_)
    refine W.ret ⟨.inr rfl, by rfl, ?_, ?mle⟩
    simp only [Tryd.f17, resE, resOne, fin, toT, exa, beq_self_eq_true, ByteArray.size, Nat.reduceAdd, Nat.reduceLeDiff, Nat.reduceEqDiff, Nat.reduceMul, Int.reduceToNat, reduceIte, Int.reduceLE, Int.reduceNeg]
    · simp only [pgDoneR, if_pos hc]
    case mle => unfold pgDoneM; rw [if_pos hc]; exact mle_refl _
  · intro hc
    have hc : ¬ 8192 < bs.length := by have := of_decide_eq_false hc; omega
    (repeat (first | refine W.seq ?_ | refine W.block ?_ | refine W.skip ?_))
    refine W.regionK tab_ok 0 (by decide) ?_
    refine runk_split 3 (by simp only [exa, beq_self_eq_true, ByteArray.size, Nat.reduceAdd, Nat.reduceLeDiff, Nat.reduceEqDiff, Nat.reduceMul, Int.reduceToNat, reduceIte, Int.reduceLE, Int.reduceNeg]; rfl) ?_
    refine runk_callE (D := []) rfl rfl rfl rfl rfl (fun j hj => by simp at hj) (by simp) (cvs_cons cv_refl cvs_nil) (string_ok h h0 hlen) ?_
    simp only [killL, putS, upd_upd]
    refine runk_exec (by simp only [exa, beq_self_eq_true, ByteArray.size, Nat.reduceAdd, Nat.reduceLeDiff, Nat.reduceEqDiff, Nat.reduceMul, Int.reduceToNat, reduceIte, Int.reduceLE, Int.reduceNeg]; rfl) ?_
    (repeat (first | refine W.seq ?_ | refine W.block ?_ | refine W.skip ?_))
    refine W.ret ⟨.inr rfl, by rfl, ?_, ?mle⟩
    simp only [Tryd.f17, resE, resOne, fin, toT, exa, beq_self_eq_true, ByteArray.size, Nat.reduceAdd, Nat.reduceLeDiff, Nat.reduceEqDiff, Nat.reduceMul, Int.reduceToNat, reduceIte, Int.reduceLE, Int.reduceNeg]
    · simp only [pgDoneR, if_neg hc]
    case mle => unfold pgDoneM; rw [if_neg hc]; exact mle_refl _
end V
end Go.Proofs.YtbmbmcdaabhgnaaDoor
end
section
set_option linter.unusedVariables false
set_option linter.unusedSimpArgs false
namespace Go.Proofs.YtbmbmcdaabhgnaaDoor
namespace V
open Go.RowKit
def showX (x : Expr) : ByteArray × Int := if exprB x then (if 8192 < (exprX x 1).length then (⟨#[]⟩, 2) else (⟨(exprX x 1).toArray⟩, 0)) else (⟨#[]⟩, 30)
theorem dec_ne (u : Nat) : Lib.decDigits u ≠ [] := by
  unfold Lib.decDigits
  split <;> simp
theorem itoa_ne (n : Int) : Lib.itoa n ≠ [] := by
  unfold Lib.itoa
  split
  · simp
  · exact dec_ne _
theorem textX_ne {x : Expr} (hx : exprB x = true) : textX x ≠ [] := by
  obtain ⟨k, n, nm, kids⟩ := x
  rw [exprB_eq] at hx
  obtain ⟨htop, -⟩ := Bool.and_eq_true_iff.1 hx
  rw [exprTop_eq] at htop
  simp only [Bool.and_eq_true, decide_eq_true_eq] at htop
  obtain ⟨⟨⟨⟨⟨hkk, hlo⟩, hhi⟩, hn0⟩, hn1⟩, hnm⟩ := htop
  rw [textX_eq]
  dsimp only
  unfold bodyX
  by_cases e1 : k = 1
  · rw [if_pos e1]; exact itoa_ne n
  rw [if_neg e1]
  by_cases e4 : k = 4
  · subst e4
    rw [if_neg (by decide), if_neg (by decide), if_pos rfl]
    have hnm : isNameB nm = true := hnm
    intro e
    rw [isNameB, e] at hnm
    simp at hnm
  by_cases e2 : k = 2
  · rw [if_pos e2]; simp
  rw [if_neg e2]
  by_cases e3 : k = 3
  · rw [if_pos e3]; simp
  rw [if_neg e3, if_neg e4]
  by_cases e5 : k = 5
  · rw [if_pos e5]; simp
  rw [if_neg e5]
  by_cases e6 : k = 6
  · rw [if_pos e6]; simp
  rw [if_neg e6]
  by_cases e7 : k = 7
  · rw [if_pos e7]; simp
  rw [if_neg e7]
  by_cases e8 : k = 8
  · rw [if_pos e8]; simp
  rw [if_neg e8]
  by_cases e9 : k = 9
  · rw [if_pos e9]; simp
  rw [if_neg e9]
  by_cases e10 : k = 10
  · rw [if_pos e10]; simp
  rw [if_neg e10]
  by_cases e11 : k = 11
  · rw [if_pos e11]; simp
  rw [if_neg e11]
  by_cases e12 : k = 12
  · rw [if_pos e12]; simp
  rw [if_neg e12]
  have hkr : 1 ≤ k ∧ k ≤ 18 := by
    by_cases hk : 1 ≤ k ∧ k ≤ 18
    · exact hk
    · unfold shapeOf at hkk; rw [if_neg hk] at hkk; cases hkk
  have : k = 13 ∨ k = 14 ∨ k = 15 ∨ k = 16 ∨ k = 17 ∨ k = 18 := by omega
  rcases this with rfl | rfl | rfl | rfl | rfl | rfl <;> simp [shapeOf, shapes]
theorem exprX_ne {x : Expr} (hx : exprB x = true) (want : Int) : exprX x want ≠ [] := by
  rw [exprX_of]
  split
  · simp
  · exact textX_ne hx
theorem showX_ok (x : Expr) (hs : exprB x = true → (exprX x 1).length ≤ 140737488351232) (m : Mem) : COk Tryd.prog 7 [.agg (cExpr x)] m (.tup [(false, [.str (showX x).1]), (false, [.int .i64 (showX x).2])]) := by
  refine (ok_pure tab_ok Tryd.func7 (by kernel_rfl) rfl rfl (by rfl) (by rfl) (by rfl) (fun R hkeep => ?_) m)
  obtain ⟨k, n, nm, kids⟩ := x
  repeat (first | refine W.seq ?_ | refine W.block ?_ | refine W.skip ?_ | refine W.exit ?_ | refine W.region tab_ok 0 (by decide) (exec_run (by simp only [exa, beq_self_eq_true, ByteArray.size, Nat.reduceAdd, Nat.reduceLeDiff, Nat.reduceEqDiff, Nat.reduceMul, Int.reduceToNat, reduceIte, Int.reduceLE, Int.reduceNeg, cExpr]; rfl)) ?_)
  refine W.regionK tab_ok 0 (by decide) ?_
  refine runk_split 1 (by simp only [exa, beq_self_eq_true, ByteArray.size, Nat.reduceAdd, Nat.reduceLeDiff, Nat.reduceEqDiff, Nat.reduceMul, Int.reduceToNat, reduceIte, Int.reduceLE, Int.reduceNeg, cExpr]; rfl) ?_
  refine runk_call rfl rfl rfl rfl rfl (by simp) (cvs_cons cv_refl cvs_nil) (expr_ok ⟨k, n, nm, kids⟩ _) ?_
  refine runk_exec (by simp only [exa, beq_self_eq_true, ByteArray.size, Nat.reduceAdd, Nat.reduceLeDiff, Nat.reduceEqDiff, Nat.reduceMul, Int.reduceToNat, reduceIte, Int.reduceLE, Int.reduceNeg]; rfl) ?_
  repeat (first | refine W.seq ?_ | refine W.block ?_ | refine W.skip ?_ | refine W.exit ?_ | refine W.region tab_ok 0 (by decide) (exec_run (by simp only [exa, beq_self_eq_true, ByteArray.size, Nat.reduceAdd, Nat.reduceLeDiff, Nat.reduceEqDiff, Nat.reduceMul, Int.reduceToNat, reduceIte, Int.reduceLE, Int.reduceNeg]; rfl)) ?_)
  refine W.cond rfl ?_ ?_
  · intro hb
    have hb : exprB ⟨k, n, nm, kids⟩ = false := by simpa using hb
    repeat (first | refine W.seq ?_ | refine W.block ?_ | refine W.skip ?_ | refine W.exit ?_ | refine W.region tab_ok 0 (by decide) (exec_run (by simp only [exa, beq_self_eq_true, ByteArray.size, Nat.reduceAdd, Nat.reduceLeDiff, Nat.reduceEqDiff, Nat.reduceMul, Int.reduceToNat, reduceIte, Int.reduceLE, Int.reduceNeg]; rfl)) ?_)
    refine W.ret ⟨.inr rfl, by rfl, ?_⟩
    simp only [Tryd.f7, resA, resOne, toT, fin, exa, beq_self_eq_true, ByteArray.size, Nat.reduceAdd, Nat.reduceLeDiff, Nat.reduceEqDiff, Nat.reduceMul, Int.reduceToNat, reduceIte, Int.reduceLE, Int.reduceNeg]
    simp [showX, hb]
  · intro hb
    have hb : exprB ⟨k, n, nm, kids⟩ = true := by simpa using hb
    have hs := hs hb
    repeat (first | refine W.seq ?_ | refine W.block ?_ | refine W.skip ?_ | refine W.exit ?_ | refine W.region tab_ok 0 (by decide) (exec_run (by simp only [exa, beq_self_eq_true, ByteArray.size, Nat.reduceAdd, Nat.reduceLeDiff, Nat.reduceEqDiff, Nat.reduceMul, Int.reduceToNat, reduceIte, Int.reduceLE, Int.reduceNeg]; rfl)) ?_)
    refine W.newRowBox true 9 1 20 5 1 (tyb := 47) (cells := [A.nilv (.pointer none), .nil, .c (.int .i64 0)]) rfl rfl rfl ?_
    obtain ⟨M, hM⟩ : ∃ M, M = upd (upd (upd (upd Mem.nil 1 (some (.box 24 [.c (.int .i64 k), .c (.int .i64 n), .c (.str nm), .c (.sl (cExprs kids))]))) 9 (some (.box 47 [.nilv (.pointer none), .nil, .c (.int .i64 0)]))) 20 (some (rowO true 5 1 []))) 9 (some (.box 47 ([A.nilv (.pointer none), .nil, .c (.int .i64 0)].set 1 (.own 20)))) := ⟨_, rfl⟩
    rw [← hM]
    have hp : PgAt M 9 20 false 0 [] := by
      rw [hM]
      refine ⟨rfl, rfl, by decide, fun i o ho hi => ?_⟩
      rw [upd_ne _ _ hi] at ho
      by_cases e1 : i = 20
      · subst e1; rw [upd_same] at ho; cases ho; rfl
      rw [upd_ne _ _ e1, upd_ne _ _ hi] at ho
      by_cases e2 : i = 1
      · subst e2; rw [upd_same] at ho; cases ho; rfl
      · rw [upd_ne _ _ e2] at ho; cases ho
    have hf : ∀ d, M (30 + d) = none := fun d => by
      rw [hM, upd_ne _ _ (by omega), upd_ne _ _ (by omega), upd_ne _ _ (by omega), upd_ne _ _ (by omega)]; rfl
    have hM1 : M 1 = some (.box 24 [.c (.int .i64 k), .c (.int .i64 n), .c (.str nm), .c (.sl (cExprs kids))]) := by rw [hM]; rfl
    clear hM
    have hw := expr_at _ ⟨k, n, nm, kids⟩ (Nat.le_refl _) hb M 9 20 false 0 [] 30 1 hp hf (by simp; omega)
    rw [List.nil_append] at hw
    refine W.regionK tab_ok 0 (by decide) ?_
    refine runk_split 2 (by simp only [exa, beq_self_eq_true, ByteArray.size, Nat.reduceAdd, Nat.reduceLeDiff, Nat.reduceEqDiff, Nat.reduceMul, Int.reduceToNat, reduceIte, Int.reduceLE, Int.reduceNeg, hM1]; rfl) ?_
    refine runk_callE (D := [20]) rfl rfl rfl rfl rfl (fun i hi => by rw [hkeep]; exact id) (by simp) (cvs_cons cv_refl (cvs_cons cv_refl (cvs_cons cv_refl cvs_nil))) hw ?_
    simp only [killL, putS]
    refine runk_exec (by simp only [exa, beq_self_eq_true, ByteArray.size, Nat.reduceAdd, Nat.reduceLeDiff, Nat.reduceEqDiff, Nat.reduceMul, Int.reduceToNat, reduceIte, Int.reduceLE, Int.reduceNeg]; rfl) ?_
    have hd := done_ok (hp.pgM (u' := true) (t' := 0) (bs' := exprX ⟨k, n, nm, kids⟩ 1)) (exprX_ne hb 1) hs
    (repeat (first | refine W.seq ?_ | refine W.block ?_ | refine W.skip ?_))
    refine W.regionK tab_ok 0 (by decide) ?_
    refine runk_split 1 (by simp only [exa, beq_self_eq_true, ByteArray.size, Nat.reduceAdd, Nat.reduceLeDiff, Nat.reduceEqDiff, Nat.reduceMul, Int.reduceToNat, reduceIte, Int.reduceLE, Int.reduceNeg, killS_app, A.kill, Nat.reduceEqDiff, reduceIte]; rfl) ?_
    refine runk_callE (D := []) rfl rfl rfl rfl rfl (fun j hj => by simp at hj) (by simp) (cvs_cons cv_refl cvs_nil) hd ?_
    simp only [killL, putS]
    unfold pgDoneR
    by_cases hl : 8192 < (exprX ⟨k, n, nm, kids⟩ 1).length
    · rw [if_pos hl]
      refine runk_exec (by simp only [exa, beq_self_eq_true, ByteArray.size, Nat.reduceAdd, Nat.reduceLeDiff, Nat.reduceEqDiff, Nat.reduceMul, Int.reduceToNat, reduceIte, Int.reduceLE, Int.reduceNeg]; rfl) ?_
      repeat (first | refine W.seq ?_ | refine W.block ?_ | refine W.skip ?_ | refine W.exit ?_ | refine W.region tab_ok 0 (by decide) (exec_run (by simp only [exa, beq_self_eq_true, ByteArray.size, Nat.reduceAdd, Nat.reduceLeDiff, Nat.reduceEqDiff, Nat.reduceMul, Int.reduceToNat, reduceIte, Int.reduceLE, Int.reduceNeg]; rfl)) ?_)
      refine W.ret ⟨.inr rfl, by rfl, ?_⟩
      simp only [Tryd.f7, resA, resOne, toT, fin, exa, beq_self_eq_true, ByteArray.size, Nat.reduceAdd, Nat.reduceLeDiff, Nat.reduceEqDiff, Nat.reduceMul, Int.reduceToNat, reduceIte, Int.reduceLE, Int.reduceNeg]
      simp [showX, hb, hl]
    · rw [if_neg hl]
      refine runk_exec (by simp only [exa, beq_self_eq_true, ByteArray.size, Nat.reduceAdd, Nat.reduceLeDiff, Nat.reduceEqDiff, Nat.reduceMul, Int.reduceToNat, reduceIte, Int.reduceLE, Int.reduceNeg]; rfl) ?_
      repeat (first | refine W.seq ?_ | refine W.block ?_ | refine W.skip ?_ | refine W.exit ?_ | refine W.region tab_ok 0 (by decide) (exec_run (by simp only [exa, beq_self_eq_true, ByteArray.size, Nat.reduceAdd, Nat.reduceLeDiff, Nat.reduceEqDiff, Nat.reduceMul, Int.reduceToNat, reduceIte, Int.reduceLE, Int.reduceNeg]; rfl)) ?_)
      refine W.ret ⟨.inr rfl, by rfl, ?_⟩
      simp only [Tryd.f7, resA, resOne, toT, fin, exa, beq_self_eq_true, ByteArray.size, Nat.reduceAdd, Nat.reduceLeDiff, Nat.reduceEqDiff, Nat.reduceMul, Int.reduceToNat, reduceIte, Int.reduceLE, Int.reduceNeg]
      simp [showX, hb, hl]
end V
end Go.Proofs.YtbmbmcdaabhgnaaDoor
end
section
namespace Go.Proofs.YtbmbmcdaabhgnaaDoor
namespace V
open Go.RowKit
theorem treeErr_wf (b : Bool) : (Lit.int .i64 (treeErr b)).wf = true := by cases b <;> decide
theorem refTree_ok (p : Program) (m : Mem) : COk Tryd.prog 27 [.agg (cProg p)] m (.c (.int .i64 (treeErr (checkB p)))) := by
  refine ⟨enters_of Tryd.func27 (by kernel_rfl) rfl, rfl, fun m' _ => ?_⟩
  intro w0 I0 B I w vals hm hv
  match vals, hv with
  | [v], ⟨h1, _⟩ =>
    obtain ⟨d, hp⟩ := rprog_of hm.there h1
    refine (refCheck_any d w v p hp).mono ?_
    rintro e w' ⟨rfl, hb⟩
    exact ⟨_, I, rfl, hb, fun _ _ k => k, fun _ _ k => .inl k, .int (treeErr_wf _)⟩
theorem tree_ok (p : Program) (m : Mem) : COk Tryd.prog 14 [.agg (cProg p)] m (.c (.int .i64 (treeErr (checkB p)))) := by
  refine ⟨enters_of Tryd.func14 (by kernel_rfl) rfl, rfl, fun m' _ => ?_⟩
  intro w0 I0 B I w vals hm hv
  match vals, hv with
  | [v], ⟨h1, _⟩ =>
    obtain ⟨d, hp⟩ := rprog_of hm.there h1
    refine (check_any d w v p hm.globNow.max hp).mono ?_
    rintro e w' ⟨rfl, hb⟩
    exact ⟨_, I, rfl, hb, fun _ _ k => k, fun _ _ k => .inl k, .int (treeErr_wf _)⟩
end V
end Go.Proofs.YtbmbmcdaabhgnaaDoor
end
section
set_option linter.unusedVariables false
set_option linter.unusedSimpArgs false
namespace Go.Proofs.YtbmbmcdaabhgnaaDoor
namespace V
open Go.RowKit
abbrev strX (l : List UInt8) : ByteArray := ⟨l.toArray⟩
theorem strX_size (l : List UInt8) : (strX l).size = l.length := by show l.toArray.size = _; simp
theorem strX_of (s : ByteArray) : s = strX s.data.toList := by
  apply ByteArray.ext; simp [strX]
theorem if_le {a n : Nat} {α : Type} {x y : α} (h : a ≤ n) : (if a ≤ n then x else y) = x := if_pos h
theorem dig_len (u : Nat) (hu : u < 18446744073709551616) : (Lib.decDigits u).length ≤ 100 := by
  by_cases h : u < 10
  · rw [Lib.decDigits, dif_pos h]; simp
  · have h1 := Lib.itoa_length_le ((u / 10 : Nat) : Int) (by omega) (by omega)
    rw [Lib.itoa, if_neg (by omega), Int.toNat_natCast] at h1
    rw [Lib.decDigits, dif_neg h, List.length_append]
    simp only [List.length_cons, List.length_nil]
    omega
theorem dig_ok (u : Nat) (hu : u < 18446744073709551616) (m : Mem) : COk Tryd.prog 71 [.c (.int .u64 u)] m (.c (.str (strX (Lib.decDigits u)))) := by
  refine ⟨enters_of Tryd.func71 (by kernel_rfl) rfl, rfl, fun m' _ => ?_⟩
  intro w0 I0 B I w vals hm hv
  match vals, hv with
  | [v], ⟨h1, _⟩ =>
    cases h1
    refine (digits_any u u (Nat.le_refl _) hu w).mono ?_
    rintro e w' ⟨rfl, hb⟩
    have h1 : (Lib.decDigits u).length ≤ 100 := dig_len u hu
    exact ⟨_, I, rfl, hb, fun _ _ k => k, fun _ _ k => .inl k, .str (by rw [strX_size]; exact Nat.le_trans h1 (by decide))⟩
theorem size01_ok (n : Int) (h0 : 0 ≤ n) (h1 : n ≤ 9223372036854775807) (m : Mem) : COk Tryd.prog 72 [.c (.int .i64 n)] m (.c (.int .u64 n)) := by
  have hn : decide (n < 0) = false := by simpa using h0
  have hw : IntKind.u64.wrap n = n := by simp [IntKind.wrap, IntKind.bits, IntKind.signed]; omega
  refine (ok_pure tab_ok Tryd.func72 (by kernel_rfl) rfl rfl (by rfl) (by rfl) (by rfl) (fun R hkeep => ?_) m)
  repeat (first | refine W.seq ?_ | refine W.block ?_ | refine W.skip ?_ | refine W.exit ?_ | refine W.region tab_ok 0 (by decide) (exec_run (by simp only [exa, beq_self_eq_true, ByteArray.size, Nat.reduceAdd, Nat.reduceLeDiff, Nat.reduceEqDiff, Nat.reduceMul, Int.reduceToNat, reduceIte, Int.reduceLE, Int.reduceNeg]; rfl)) ?_)
  refine W.cond rfl (fun h => by rw [hn] at h; cases h) (fun _ => ?_)
  repeat (first | refine W.seq ?_ | refine W.block ?_ | refine W.skip ?_ | refine W.exit ?_ | refine W.region tab_ok 0 (by decide) (exec_run (by simp only [exa, beq_self_eq_true, ByteArray.size, Nat.reduceAdd, Nat.reduceLeDiff, Nat.reduceEqDiff, Nat.reduceMul, Int.reduceToNat, reduceIte, Int.reduceLE, Int.reduceNeg, hw]; rfl)) ?_)
  refine W.ret ⟨.inr rfl, by rfl, ?_⟩
  simp only [Tryd.f72, resA, resOne, toT, fin, exa, beq_self_eq_true, ByteArray.size, Nat.reduceAdd, Nat.reduceLeDiff, Nat.reduceEqDiff, Nat.reduceMul, Int.reduceToNat, reduceIte, Int.reduceLE, Int.reduceNeg]
theorem num01_ok (n : Int) (h0 : 0 ≤ n) (h1 : n ≤ 9223372036854775807) (m : Mem) : COk Tryd.prog 45 [.c (.int .i64 n)] m (.c (.str (strX (Lib.itoa n)))) := by
  have hn : decide (n < 0) = false := by simpa using h0
  obtain ⟨u, hu⟩ := Int.eq_ofNat_of_zero_le h0
  have hi : Lib.itoa n = Lib.decDigits u := by rw [Lib.itoa, if_neg (by omega), hu, Int.toNat_natCast]
  rw [hi]
  have hd := dig_ok u (by omega)
  rw [← hu] at hd
  have hz := size01_ok n h0 h1
  refine (ok_pure tab_ok Tryd.func45 (by kernel_rfl) rfl rfl (by rfl) (by rfl) (by rfl) (fun R hkeep => ?_) m)
  repeat (first | refine W.seq ?_ | refine W.block ?_ | refine W.skip ?_ | refine W.exit ?_ | refine W.region tab_ok 0 (by decide) (exec_run (by simp only [exa, beq_self_eq_true, ByteArray.size, Nat.reduceAdd, Nat.reduceLeDiff, Nat.reduceEqDiff, Nat.reduceMul, Int.reduceToNat, reduceIte, Int.reduceLE, Int.reduceNeg]; rfl)) ?_)
  refine W.cond rfl (fun h => by rw [hn] at h; cases h) (fun _ => ?_)
  (repeat (first | refine W.seq ?_ | refine W.block ?_ | refine W.skip ?_))
  refine W.regionK tab_ok 0 (by decide) ?_
  refine runk_split 1 (by simp only [exa, beq_self_eq_true, ByteArray.size, Nat.reduceAdd, Nat.reduceLeDiff, Nat.reduceEqDiff, Nat.reduceMul, Int.reduceToNat, reduceIte, Int.reduceLE, Int.reduceNeg]; rfl) ?_
  refine runk_call rfl rfl rfl rfl rfl (by simp) (cvs_cons cv_refl cvs_nil) (hz _) ?_
  refine runk_split 0 (by simp only [exa, beq_self_eq_true, ByteArray.size, Nat.reduceAdd, Nat.reduceLeDiff, Nat.reduceEqDiff, Nat.reduceMul, Int.reduceToNat, reduceIte, Int.reduceLE, Int.reduceNeg]; rfl) ?_
  refine runk_call rfl rfl rfl rfl rfl (by simp) (cvs_cons cv_refl cvs_nil) (hd _) ?_
  refine runk_exec (by simp only [exa, beq_self_eq_true, ByteArray.size, Nat.reduceAdd, Nat.reduceLeDiff, Nat.reduceEqDiff, Nat.reduceMul, Int.reduceToNat, reduceIte, Int.reduceLE, Int.reduceNeg]; rfl) ?_
  refine W.ret ⟨.inr rfl, by rfl, ?_⟩
  simp only [Tryd.f45, resA, resOne, toT, fin, exa, beq_self_eq_true, ByteArray.size, Nat.reduceAdd, Nat.reduceLeDiff, Nat.reduceEqDiff, Nat.reduceMul, Int.reduceToNat, reduceIte, Int.reduceLE, Int.reduceNeg]
set_option maxHeartbeats 8000000 in
theorem level_ok (k : Int) (hk : 1 ≤ k ∧ k ≤ 18) (m : Mem) : COk Tryd.prog 73 [.c (.int .i64 k)] m (.c (.int .i64 (levX k))) := by
  obtain ⟨L, hL⟩ : ∃ L, levX k = L := ⟨_, rfl⟩
  rw [hL]
  have hcase : k = 1 ∨ k = 2 ∨ k = 3 ∨ k = 4 ∨ k = 5 ∨ k = 6 ∨ k = 7 ∨ k = 8 ∨ k = 9 ∨ k = 10 ∨ k = 11 ∨ k = 12 ∨ k = 13 ∨ k = 14 ∨ k = 15 ∨ k = 16 ∨ k = 17 ∨ k = 18 := by omega
  rcases hcase with rfl | rfl | rfl | rfl | rfl | rfl | rfl | rfl | rfl | rfl | rfl | rfl | rfl | rfl | rfl | rfl | rfl | rfl
  all_goals
    refine (ok_pure tab_ok Tryd.func73 (by kernel_rfl) rfl rfl (by rfl) (by rfl) (by rfl) (fun R hkeep => ?_) m)
    repeat (first | refine W.seq ?_ | refine W.block ?_ | refine W.skip ?_ | refine W.exit ?_ | refine W.region tab_ok 0 (by decide) (exec_run (by simp only [exa, beq_self_eq_true, ByteArray.size, Nat.reduceAdd, Nat.reduceLeDiff, Nat.reduceEqDiff, Nat.reduceMul, Int.reduceToNat, reduceIte, Int.reduceLE, Int.reduceNeg]; rfl)) ?_ | refine W.cond rfl (fun _ => ?_) (fun h => absurd h (by decide)) | refine W.cond rfl (fun h => absurd h (by decide)) (fun _ => ?_))
    refine W.ret ⟨.inr rfl, by rfl, ?_⟩
    simp only [Tryd.f73, resA, resOne, toT, fin, exa, beq_self_eq_true, ByteArray.size, Nat.reduceAdd, Nat.reduceLeDiff, Nat.reduceEqDiff, Nat.reduceMul, Int.reduceToNat, reduceIte, Int.reduceLE, Int.reduceNeg]
    rw [← hL]
    rfl
def signX (k : Int) : List UInt8 := if k = 17 then [60] else if k = 18 then [61, 61] else if k = 13 then [43] else if k = 14 then [45] else if k = 15 then [42] else [47]
set_option maxHeartbeats 8000000 in
theorem sign_ok (k : Int) (hk : 13 ≤ k ∧ k ≤ 18) (m : Mem) : COk Tryd.prog 47 [.c (.int .i64 k)] m (.c (.str (strX (signX k)))) := by
  obtain ⟨L, hL⟩ : ∃ L, signX k = L := ⟨_, rfl⟩
  rw [hL]
  have hcase : k = 13 ∨ k = 14 ∨ k = 15 ∨ k = 16 ∨ k = 17 ∨ k = 18 := by omega
  rcases hcase with rfl | rfl | rfl | rfl | rfl | rfl
  all_goals
    refine (ok_pure tab_ok Tryd.func47 (by kernel_rfl) rfl rfl (by rfl) (by rfl) (by rfl) (fun R hkeep => ?_) m)
    repeat (first | refine W.seq ?_ | refine W.block ?_ | refine W.skip ?_ | refine W.exit ?_ | refine W.region tab_ok 0 (by decide) (exec_run (by simp only [exa, beq_self_eq_true, ByteArray.size, Nat.reduceAdd, Nat.reduceLeDiff, Nat.reduceEqDiff, Nat.reduceMul, Int.reduceToNat, reduceIte, Int.reduceLE, Int.reduceNeg]; rfl)) ?_ | refine W.cond rfl (fun _ => ?_) (fun h => absurd h (by decide)) | refine W.cond rfl (fun h => absurd h (by decide)) (fun _ => ?_))
    refine W.ret ⟨.inr rfl, by rfl, ?_⟩
    simp only [Tryd.f47, resA, resOne, toT, fin, exa, beq_self_eq_true, ByteArray.size, Nat.reduceAdd, Nat.reduceLeDiff, Nat.reduceEqDiff, Nat.reduceMul, Int.reduceToNat, reduceIte, Int.reduceLE, Int.reduceNeg]
    rw [← hL]
    rfl
theorem at_ok {x : Expr} (hx : exprB x = true) (hc : cntE x ≤ 1048576) (ht : ∀ m, COk Tryd.prog 19 [.agg (cExpr x)] m (.c (.str (strX (textX x))))) (want : Int) (m : Mem) : COk Tryd.prog 46 [.agg (cExpr x), .c (.int .i64 want)] m (.c (.str (strX (exprX x want)))) := by
  have hl := textX_len x hx
  have hk : 1 ≤ x.kind ∧ x.kind ≤ 18 := by
    rw [exprB_eq] at hx
    obtain ⟨htop, -⟩ := Bool.and_eq_true_iff.1 hx
    rw [exprTop_eq] at htop
    simp only [Bool.and_eq_true, decide_eq_true_eq] at htop
    obtain ⟨⟨⟨⟨⟨hkk, -⟩, -⟩, -⟩, -⟩, -⟩ := htop
    by_cases hk : 1 ≤ x.kind ∧ x.kind ≤ 18
    · exact hk
    · unfold shapeOf at hkk; rw [if_neg hk] at hkk; cases hkk
  have hv := level_ok x.kind hk
  have hX : exprX x want = if levX x.kind < want then 40 :: (textX x ++ [41]) else textX x := rfl
  rw [hX]
  obtain ⟨T, hT⟩ : ∃ T, textX x = T := ⟨_, rfl⟩
  obtain ⟨L, hL⟩ : ∃ L, levX x.kind = L := ⟨_, rfl⟩
  rw [hT] at ht hl ⊢
  rw [hL] at hv ⊢
  have hs : T.length ≤ 100000000 := by omega
  obtain ⟨k, n, nm, kids⟩ := x
  simp only [cExpr] at ht ⊢
  refine (ok_pure tab_ok Tryd.func46 (by kernel_rfl) rfl rfl (by rfl) (by rfl) (by rfl) (fun R hkeep => ?_) m)
  repeat (first | refine W.seq ?_ | refine W.block ?_ | refine W.skip ?_ | refine W.exit ?_ | refine W.region tab_ok 0 (by decide) (exec_run (by simp only [exa, beq_self_eq_true, ByteArray.size, Nat.reduceAdd, Nat.reduceLeDiff, Nat.reduceEqDiff, Nat.reduceMul, Int.reduceToNat, reduceIte, Int.reduceLE, Int.reduceNeg]; rfl)) ?_)
  (repeat (first | refine W.seq ?_ | refine W.block ?_ | refine W.skip ?_))
  refine W.regionK tab_ok 0 (by decide) ?_
  refine runk_split 1 (by simp only [exa, beq_self_eq_true, ByteArray.size, Nat.reduceAdd, Nat.reduceLeDiff, Nat.reduceEqDiff, Nat.reduceMul, Int.reduceToNat, reduceIte, Int.reduceLE, Int.reduceNeg]; rfl) ?_
  refine runk_call rfl rfl rfl rfl rfl (by simp) (cvs_cons cv_refl cvs_nil) (ht _) ?_
  refine runk_exec (by simp only [exa, beq_self_eq_true, ByteArray.size, Nat.reduceAdd, Nat.reduceLeDiff, Nat.reduceEqDiff, Nat.reduceMul, Int.reduceToNat, reduceIte, Int.reduceLE, Int.reduceNeg]; rfl) ?_
  (repeat (first | refine W.seq ?_ | refine W.block ?_ | refine W.skip ?_))
  refine W.regionK tab_ok 0 (by decide) ?_
  refine runk_split 2 (by simp only [exa, beq_self_eq_true, ByteArray.size, Nat.reduceAdd, Nat.reduceLeDiff, Nat.reduceEqDiff, Nat.reduceMul, Int.reduceToNat, reduceIte, Int.reduceLE, Int.reduceNeg]; rfl) ?_
  refine runk_call rfl rfl rfl rfl rfl (by simp) (cvs_cons cv_refl cvs_nil) (hv _) ?_
  refine runk_exec (by simp only [exa, beq_self_eq_true, ByteArray.size, Nat.reduceAdd, Nat.reduceLeDiff, Nat.reduceEqDiff, Nat.reduceMul, Int.reduceToNat, reduceIte, Int.reduceLE, Int.reduceNeg]; rfl) ?_
  (repeat (first | refine W.seq ?_ | refine W.block ?_ | refine W.skip ?_))
  refine W.cond rfl ?_ ?_
  · intro hlt
    have hlt : L < want := by simpa using hlt
    rw [if_pos hlt]
    (repeat (first | refine W.seq ?_ | refine W.block ?_ | refine W.skip ?_))
    refine W.regionK tab_ok 0 (by decide) ?_
    refine runk_exec (by simp (disch := omega) only [exa, beq_self_eq_true, ByteArray.size, Nat.reduceAdd, Nat.reduceLeDiff, Nat.reduceEqDiff, Nat.reduceMul, Int.reduceToNat, reduceIte, Int.reduceLE, Int.reduceNeg, app_bytes, if_le, List.length_append, List.length_cons, List.length_nil]; rfl) ?_
    refine W.ret ⟨.inr rfl, by rfl, ?_⟩
    simp only [Tryd.f46, resA, resOne, toT, fin, exa, beq_self_eq_true, ByteArray.size, Nat.reduceAdd, Nat.reduceLeDiff, Nat.reduceEqDiff, Nat.reduceMul, Int.reduceToNat, reduceIte, Int.reduceLE, Int.reduceNeg]
  · intro hlt
    have hlt : ¬ L < want := by simpa using hlt
    rw [if_neg hlt]
    repeat (first | refine W.seq ?_ | refine W.block ?_ | refine W.skip ?_ | refine W.exit ?_ | refine W.region tab_ok 0 (by decide) (exec_run (by simp only [exa, beq_self_eq_true, ByteArray.size, Nat.reduceAdd, Nat.reduceLeDiff, Nat.reduceEqDiff, Nat.reduceMul, Int.reduceToNat, reduceIte, Int.reduceLE, Int.reduceNeg]; rfl)) ?_)
    refine W.ret ⟨.inr rfl, by rfl, ?_⟩
    simp only [Tryd.f46, resA, resOne, toT, fin, exa, beq_self_eq_true, ByteArray.size, Nat.reduceAdd, Nat.reduceLeDiff, Nat.reduceEqDiff, Nat.reduceMul, Int.reduceToNat, reduceIte, Int.reduceLE, Int.reduceNeg]
end V
end Go.Proofs.YtbmbmcdaabhgnaaDoor
end
