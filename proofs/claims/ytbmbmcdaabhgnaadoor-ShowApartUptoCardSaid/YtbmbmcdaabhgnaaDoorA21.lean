/- Joined by my own program, in build order: Ex, Sb, Dn, Tk, Tj, Tj2, Jn. -/
import Derived.Test.YtbmbmcdaabhgnaaDoorA20
import Derived.Shelf.RegionOpenPlain
import Derived.Lib.Strings
import Derived.Lib.Walk
import Derived.Test.YtbmbmcdaabhgnaaDoorA15
import Derived.Test.YtbmbmcdaabhgnaaDoorA10
import Derived.Test.YtbmbmcdaabhgnaaDoorT4
set_option linter.unusedVariables false
set_option linter.unusedSimpArgs false
section
set_option linter.unusedVariables false
set_option linter.unusedSimpArgs false
namespace Go.Proofs.YtbmbmcdaabhgnaaDoor
namespace V
open Go.RowKit
section
variable {M1 : Mem} {j q : Nat} {u0 : Bool} {t : Int} {bs0 : List UInt8}
theorem layU_ne {u : Bool} {l : List ByteArray} (h : l ≠ []) : layU u l = true := by
  cases l with
  | nil => exact absurd rfl h
  | cons a l => simp [layU]
theorem layM (h : PgAt M1 j q u0 t bs0) (u : Bool) (bs : List UInt8) (l : List ByteArray) (hl : l ≠ []) (hl2 : l.length ≤ 3) (hs : bs.length + (txtB l).length ≤ 140737488355328) :
    CallE Tryd.prog 23 [.ptr j 0, .c (.sl (l.map cStr))] (pgM M1 j q u t bs) [q] (.tup []) (pgM M1 j q true t (bs ++ txtB l)) := by
  have := lay_ok (h.pgM (u' := u) (t' := t) (bs' := bs)) l (by omega) hs
  rwa [pgM_pgM h.ne, layU_ne hl] at this
theorem exprM (h : PgAt M1 j q u0 t bs0) {b : Nat} (hM : ∀ d, M1 (b + d) = none) {x : Expr} (hx : ExprAt x) (u : Bool) (bs : List UInt8) (want : Int) (hs : bs.length + (exprX x want).length ≤ 140737488355328) :
    CallE Tryd.prog 16 [.ptr j 0, .agg (cExpr x), .c (.int .i64 want)] (pgM M1 j q u t bs) [q] (.tup []) (pgM M1 j q true t (bs ++ exprX x want)) := by
  have := hx _ j q u t bs b want h.pgM (fun d => pgM_none h (hM d)) hs
  rwa [pgM_pgM h.ne] at this
theorem listM (h : PgAt M1 j q u0 t bs0) {b : Nat} (hM : ∀ d, M1 (b + d) = none) {l : List Expr} (hx : ∀ x ∈ l, ExprAt x) (hl : l.length ≤ 1000000000) (u : Bool) (bs : List UInt8) (e : ByteArray) (hs : bs.length + (listE l).length + e.size ≤ 140737488355328) :
    CallE Tryd.prog 40 [.ptr j 0, .c (.sl (cExprs l)), .c (.str e)] (pgM M1 j q u t bs) [q] (.tup []) (pgM M1 j q true t (bs ++ listE l ++ e.data.toList)) := by
  rw [cExprs_map]
  have := list_ok (h.pgM (u' := u) (t' := t) (bs' := bs)) (fun d => pgM_none h (hM d)) l hx e hl hs
  rwa [pgM_pgM h.ne] at this
def Keeps (j : Nat) (s s' : Nat → A) : Prop := dfs (s' DID) = dfs (s DID) ∧ (∀ v, s (DID + 1) = .pinP v j 0 → s' (DID + 1) = .pinP v j 0) ∧ ∀ v z, s (DID + 2) = .pinC v z → s' (DID + 2) = .pinC v z
theorem keeps_refl (s : Nat → A) : Keeps j s s := ⟨rfl, fun _ h => h, fun _ _ h => h⟩
theorem keeps_upd {s s' : Nat → A} {i : Nat} {a : A} (hi : i < DID) (h : Keeps j s s') : Keeps j s (upd s' i a) := by
  obtain ⟨h1, h2, h3⟩ := h
  refine ⟨?_, fun v hv => ?_, fun v z hv => ?_⟩
  · rw [upd_ne _ _ (Nat.ne_of_gt hi)]; exact h1
  · rw [upd_ne _ _ (Nat.ne_of_gt (Nat.lt_succ_of_lt hi))]; exact h2 v hv
  · rw [upd_ne _ _ (Nat.ne_of_gt (Nat.lt_succ_of_lt (Nat.lt_succ_of_lt hi)))]; exact h3 v z hv
theorem keeps_kill {s s' : Nat → A} (hne : j ≠ q) (h : Keeps j s s') : Keeps j s (killS q s') := by
  obtain ⟨h1, h2, h3⟩ := h
  refine ⟨(killL_dfs [q] s').trans h1, fun v hv => ?_, fun v z hv => ?_⟩
  · rw [killS_app, h2 v hv]; simp [A.kill, hne]
  · rw [killS_app, h3 v z hv]; rfl
end
theorem rows4 : ∀ (l : List Expr), ∀ x ∈ cExprs l, x.length = 4
  | [], x, h => by simp [cExprs] at h
  | y :: l, x, h => by
    simp only [cExprs, List.mem_cons] at h
    rcases h with rfl | h
    · cases y; rfl
    · exact rows4 l x h
theorem len5 {kids : List Expr} (h1 : (1 : Int) ≤ (kids.length : Int)) (h2 : (kids.length : Int) ≤ 5) : ∃ y r, kids = y :: r ∧ r.length ≤ 100 := by
  match kids, h1 with
  | y :: r, _ => exact ⟨y, r, rfl, by simp at h2; omega⟩
theorem len1 {kids : List Expr} (h1 : (1 : Int) ≤ (kids.length : Int)) (h2 : (kids.length : Int) ≤ 1) : ∃ y, kids = [y] := by
  match kids, (by omega : kids.length = 1) with
  | [y], _ => exact ⟨y, rfl⟩
theorem len2' {kids : List Expr} (h1 : (2 : Int) ≤ (kids.length : Int)) (h2 : (kids.length : Int) ≤ 2) : ∃ y y2, kids = [y, y2] := by
  match kids, (by omega : kids.length = 2) with
  | [y, y2], _ => exact ⟨y, y2, rfl⟩
theorem exprX_of (x : Expr) (want : Int) : exprX x want = if levX x.kind < want then 40 :: (textX x ++ [41]) else textX x := rfl
set_option maxHeartbeats 4000000 in
theorem expr_at : ∀ (z : Nat) (x : Expr), SizeOf.sizeOf x ≤ z → exprB x = true → ExprAt x := by
  intro z
  induction z using Nat.strongRecOn with
  | ind z ih =>
  intro x hz hx M j q u t bs b want h hM hs
  obtain ⟨k, n, nm, kids⟩ := x
  rw [exprB_eq] at hx
  obtain ⟨htop, hkids⟩ := Bool.and_eq_true_iff.1 hx
  have hE : ∀ y ∈ kids, ExprAt y := fun y hy => ih (SizeOf.sizeOf y) (by
    have h1 := List.sizeOf_lt_of_mem hy
    have h2 := Expr.mk.sizeOf_spec k n nm kids
    omega) y (Nat.le_refl _) (List.all_eq_true.1 hkids y hy)
  rw [exprTop_eq] at htop
  simp only [Bool.and_eq_true, decide_eq_true_eq] at htop
  obtain ⟨⟨⟨⟨⟨hkk, hlo⟩, hhi⟩, hn0⟩, hn1⟩, hnm⟩ := htop
  have hkr : 1 ≤ k ∧ k ≤ 18 := by
    by_cases hk : 1 ≤ k ∧ k ≤ 18
    · exact hk
    · unfold shapeOf at hkk; rw [if_neg hk] at hkk; cases hkk
  have hjs : (M j).isSome = true := by rw [h.box]; rfl
  have hqs : (M q).isSome = true := by rw [h.row]; rfl
  have bj : ∀ d, j ≠ b + d := fun d k => by have := hM d; rw [← k] at this; rw [this] at hjs; cases hjs
  have bq : ∀ d, q ≠ b + d := fun d k => by have := hM d; rw [← k] at this; rw [this] at hqs; cases hqs
  have hpM : ∀ {l : List ByteArray}, l ≠ [] → True := fun _ => trivial
  refine (ok_effT tab_ok [q] (j := j) (g := 23) (z := .sl [[.str ⟨#[41]⟩]]) (fun v1 v2 w => by simp [invoke]) Tryd.func16 (by kernel_rfl) rfl rfl (by rfl) (by rfl) ?ids pgM_live (pgM_wf h) (fun hWF Rr hkeep => ?_))
  case ids => intro a ha i hi; simp at ha; rcases ha with rfl | rfl | rfl <;> simp [A.ids] at hi; subst hi; exact hjs
  have nkq : ¬ Rr.keep q := by rw [hkeep]; intro hh; exact hh.2 (by simp)
  have jq : (j = q) = False := eq_false h.ne
  have b4q : (b + 4 = q) = False := eq_false (Ne.symm (bq 4))
  have b6q : (b + 6 = q) = False := eq_false (Ne.symm (bq 6))
  have hM4 := hM 4
  have hM6 := hM 6
  repeat (first | refine W.seq ?_ | refine W.block ?_ | refine W.skip ?_ | refine W.exit ?_ | refine W.region tab_ok b (by decide) (exec_run (by simp only [exa, beq_self_eq_true, ByteArray.size, Nat.reduceAdd, Nat.reduceLeDiff, Nat.reduceEqDiff, Nat.reduceMul, Int.reduceToNat, reduceIte, Int.reduceLE, Int.reduceNeg, cExpr, hM4]; rfl)) ?_)
  (repeat (first | refine W.seq ?_ | refine W.block ?_ | refine W.skip ?_))
  refine W.regionK tab_ok b (by decide) ?_
  refine runk_split 2 (by simp only [exa, beq_self_eq_true, ByteArray.size, Nat.reduceAdd, Nat.reduceLeDiff, Nat.reduceEqDiff, Nat.reduceMul, Int.reduceToNat, reduceIte, Int.reduceLE, Int.reduceNeg, upd_same, cExpr]; rfl) ?_
  refine runk_call rfl rfl rfl rfl rfl (by simp) (cvs_cons cv_refl cvs_nil) (of_ok k _) ?_
  refine runk_exec (by simp only [exa, beq_self_eq_true, ByteArray.size, Nat.reduceAdd, Nat.reduceLeDiff, Nat.reduceEqDiff, Nat.reduceMul, Int.reduceToNat, reduceIte, Int.reduceLE, Int.reduceNeg, hM6, cShape, upd_same, Nat.add_left_cancel_iff]; rfl) ?_
  simp only [upd_upd]
  obtain ⟨M1, hM1⟩ : ∃ M1, M1 = upd (upd M (b + 4) (some (.box 24 [.c (.int .i64 k), .c (.int .i64 n), .c (.str nm), .c (.sl (cExprs kids))]))) (b + 6) (some (.box 75 [.c (.int .i64 (shapeOf k).1.least), .c (.int .i64 (shapeOf k).1.most), .c (.bool (shapeOf k).1.name), .c (.int .i64 (shapeOf k).1.num), .c (.int .i64 (shapeOf k).1.level), .c (.str (shapeOf k).1.sign)])) := ⟨_, rfl⟩
  rw [← hM1]
  have m4 : M1 (b + 4) = some (.box 24 [.c (.int .i64 k), .c (.int .i64 n), .c (.str nm), .c (.sl (cExprs kids))]) := by rw [hM1, upd_ne _ _ (by omega), upd_same]
  have m6 : M1 (b + 6) = some (.box 75 [.c (.int .i64 (shapeOf k).1.least), .c (.int .i64 (shapeOf k).1.most), .c (.bool (shapeOf k).1.name), .c (.int .i64 (shapeOf k).1.num), .c (.int .i64 (shapeOf k).1.level), .c (.str (shapeOf k).1.sign)]) := by rw [hM1, upd_same]
  have h1 : PgAt M1 j q u t bs := by
    rw [hM1]
    exact (h.new hM4 rfl).new (by rw [upd_ne _ _ (by omega)]; exact hM6) rfl
  have f1 : ∀ d, M1 (b + 7 + d) = none := fun d => by
    rw [hM1, upd_ne _ _ (by omega), upd_ne _ _ (by omega), Nat.add_assoc]; exact hM _
  have off : ∀ (u' : Bool) (bs' : List UInt8), MLe (pgM M1 j q u' t bs') (pgM M j q u' t bs') := fun u' bs' => by
    rw [hM1, pgM_upd (bj 6) (bq 6), pgM_upd (bj 4) (bq 4)]
    intro i
    rcases mle_off (m := pgM M j q u' t bs') (o := .box 24 [.c (.int .i64 k), .c (.int .i64 n), .c (.str nm), .c (.sl (cExprs kids))]) (pgM_none h hM4) i with e | e
    · exact .inl e
    rcases mle_off (m := upd (pgM M j q u' t bs') (b + 4) (some (.box 24 [.c (.int .i64 k), .c (.int .i64 n), .c (.str nm), .c (.sl (cExprs kids))]))) (o := .box 75 [.c (.int .i64 (shapeOf k).1.least), .c (.int .i64 (shapeOf k).1.most), .c (.bool (shapeOf k).1.name), .c (.int .i64 (shapeOf k).1.num), .c (.int .i64 (shapeOf k).1.level), .c (.str (shapeOf k).1.sign)]) (show upd (pgM M j q u' t bs') (b + 4) _ (b + 6) = none by rw [upd_ne _ _ (by omega)]; exact pgM_none h hM6) i with e2 | e2
    · exact .inl (e.trans e2)
    · exact .inr (e.trans e2)
  have hm4 : ∀ u' bs', pgM M1 j q u' t bs' (b + 4) = some (.box 24 [.c (.int .i64 k), .c (.int .i64 n), .c (.str nm), .c (.sl (cExprs kids))]) := fun u' bs' => by
    unfold pgM; rw [upd_ne _ _ (Ne.symm (bq 4)), upd_ne _ _ (Ne.symm (bj 4)), m4]
  have hm6 : ∀ u' bs', pgM M1 j q u' t bs' (b + 6) = some (.box 75 [.c (.int .i64 (shapeOf k).1.least), .c (.int .i64 (shapeOf k).1.most), .c (.bool (shapeOf k).1.name), .c (.int .i64 (shapeOf k).1.num), .c (.int .i64 (shapeOf k).1.level), .c (.str (shapeOf k).1.sign)]) := fun u' bs' => by
    unfold pgM; rw [upd_ne _ _ (Ne.symm (bq 6)), upd_ne _ _ (Ne.symm (bj 6)), m6]
  have hsame : pgM M1 j q u t bs = M1 := pgM_same h1
  clear hM1
  have hll : (levX k < want) ∨ ¬ (levX k < want) := Classical.em _
  refine W.seqJoin (ι := (Nat → A) × Bool × List UInt8) (fun i => ⟨i.1, pgM M1 j q i.2.1 t i.2.2⟩)
    (fun i => i.1 0 = .ptr j 0 ∧ i.1 4 = .ptr (b + 4) 0 ∧ i.1 6 = .ptr (b + 6) 0 ∧ ((¬ levX k < want ∧ i.2.1 = u ∧ i.2.2 = bs ∧ dfs (i.1 DID) = []) ∨
      (levX k < want ∧ i.2.1 = true ∧ i.2.2 = bs ++ [40] ∧ ∃ v1 v2, dfs (i.1 DID) = [{ target := .fn (.func 23) #[], args := #[v1, v2] }] ∧ i.1 (DID + 1) = .pinP v1 j 0 ∧ i.1 (DID + 2) = .pinC v2 (.sl [[.str ⟨#[41]⟩]])))) ?first ?rest
  case first =>
    repeat (first | refine W.seq ?_ | refine W.block ?_ | refine W.skip ?_ | refine W.exit ?_ | refine W.region tab_ok b (by decide) (exec_run (by simp only [exa, beq_self_eq_true, ByteArray.size, Nat.reduceAdd, Nat.reduceLeDiff, Nat.reduceEqDiff, Nat.reduceMul, Int.reduceToNat, reduceIte, Int.reduceLE, Int.reduceNeg, m6]; rfl)) ?_)
    refine W.cond rfl ?_ ?_
    · intro hlt
      simp only [decide_eq_true_eq] at hlt
      have hlt' : levX k < want := hlt
      have hX := exprX_of ⟨k, n, nm, kids⟩ want
      rw [if_pos hlt'] at hX
      have hlen := congrArg List.length hX
      simp only [List.length_cons, List.length_append, List.length_nil] at hlen
      have hl := layM h1 u bs [⟨#[40]⟩] (by simp) (by decide) (by simp [txtB]; omega)
      rw [hsame] at hl
      (repeat (first | refine W.seq ?_ | refine W.block ?_ | refine W.skip ?_))
      refine W.regionK tab_ok b (by decide) ?_
      refine runk_split 2 (by simp only [exa, beq_self_eq_true, ByteArray.size, Nat.reduceAdd, Nat.reduceLeDiff, Nat.reduceEqDiff, Nat.reduceMul, Int.reduceToNat, reduceIte, Int.reduceLE, Int.reduceNeg]; rfl) ?_
      refine runk_callE (D := [q]) rfl rfl rfl rfl rfl (fun i hi => by simp at hi; subst hi; exact nkq) (by simp) (cvs_cons cv_refl (cvs_cons cv_refl cvs_nil)) hl ?_
      simp only [killL, putS]
      refine runk_exec (by simp only [exa, beq_self_eq_true, ByteArray.size, Nat.reduceAdd, Nat.reduceLeDiff, Nat.reduceEqDiff, Nat.reduceMul, Int.reduceToNat, reduceIte, Int.reduceLE, Int.reduceNeg]; rfl) ?_
      (repeat (first | refine W.seq ?_ | refine W.block ?_ | refine W.skip ?_))
      refine W.deferAt tab_ok b 2 (by decide) rfl rfl (by simp only [exa, beq_self_eq_true, ByteArray.size, Nat.reduceAdd, Nat.reduceLeDiff, Nat.reduceEqDiff, Nat.reduceMul, Int.reduceToNat, reduceIte, Int.reduceLE, Int.reduceNeg, killS_app, A.kill, jq, if_false]; rfl) rfl rfl rfl rfl rfl (j := j) (z := .sl [[.str ⟨#[41]⟩]]) (by simp only [exa, beq_self_eq_true, ByteArray.size, Nat.reduceAdd, Nat.reduceLeDiff, Nat.reduceEqDiff, Nat.reduceMul, Int.reduceToNat, reduceIte, Int.reduceLE, Int.reduceNeg, killS_app, A.kill, jq, if_false]) (by exact pgM_live _ (by rw [h1.box]; rfl)) (by simp only [exa, beq_self_eq_true, ByteArray.size, Nat.reduceAdd, Nat.reduceLeDiff, Nat.reduceEqDiff, Nat.reduceMul, Int.reduceToNat, reduceIte, Int.reduceLE, Int.reduceNeg]) ?_
      intro v1 v2
      refine ⟨rfl, fun c K' hk => ?_⟩
      generalize hd : dfr _ _ v1 v2 j _ = sd
      refine hk ⟨sd, true, bs ++ [40]⟩ ⟨?_, ?_, ?_, .inr ⟨hlt', rfl, rfl, v1, v2, ?_, ?_, ?_⟩⟩
      · show sd _ = _; rw [← hd, dfr_lt (by decide)]; simp only [upd_app, killS_app, entry_zero, A.kill, jq, if_false, Nat.reduceEqDiff, reduceIte]
      · show sd _ = _; rw [← hd, dfr_lt (by decide)]; simp only [upd_app, killS_app, A.kill, jq, b4q, if_false, Nat.reduceEqDiff, reduceIte]
      · show sd _ = _; rw [← hd, dfr_lt (by decide)]; simp only [upd_app, killS_app, A.kill, jq, b6q, if_false, Nat.reduceEqDiff, reduceIte]
      · show dfs (sd _) = _; rw [← hd, dfr_DID]; rfl
      · show sd _ = _; rw [← hd]; exact dfr_1
      · show sd _ = _; rw [← hd]; exact dfr_2
    · intro hge
      simp only [decide_eq_false_iff_not] at hge
      have hge' : ¬ levX k < want := hge
      refine W.skip ?_
      refine ⟨rfl, fun c K' hk => ?_⟩
      rw [← hsame]
      exact hk ⟨_, u, bs⟩ ⟨rfl, rfl, rfl, .inl ⟨hge', rfl, rfl, by rfl⟩⟩
  case rest =>
    rintro ⟨s0, u', bs'⟩ ⟨h0, h4, h6, hQ⟩
    dsimp only at h0 h4 h6 hQ ⊢
    have hfit : bs'.length + (textX ⟨k, n, nm, kids⟩).length ≤ 140737488355328 := by
      have hX := exprX_of ⟨k, n, nm, kids⟩ want
      rcases hQ with ⟨hl, -, rfl, -⟩ | ⟨hl, -, rfl, -⟩
      · rw [if_neg hl] at hX; rw [hX] at hs; exact hs
      · rw [if_pos hl] at hX; rw [hX] at hs
        simp only [List.length_cons, List.length_append, List.length_nil] at hs ⊢; omega
    have fin : ∀ (s' : Nat → A) (Bf : List UInt8), Bf = bs' ++ textX ⟨k, n, nm, kids⟩ → Keeps j s0 s' → ((Exit.normal = Exit.normal ∨ Exit.normal = Exit.ret) ∧
      ((dfs (s' DID) = [] ∧ MLe (pgM M1 j q true t Bf) (pgM M j q true t (bs ++ exprX ⟨k, n, nm, kids⟩ want))) ∨
       ∃ v1 v2 M2, dfs (s' DID) = [{ target := .fn (.func 23) #[], args := #[v1, v2] }] ∧ s' (DID + 1) = .pinP v1 j 0 ∧ s' (DID + 2) = .pinC v2 (.sl [[.str ⟨#[41]⟩]]) ∧ MLe (pgM M1 j q true t Bf) M2 ∧ WFm M2 ∧ (∀ i, (M i).isSome = true → (M2 i).isSome = true) ∧ CallDf Tryd.prog 23 [.ptr j 0, .c (.sl [[.str ⟨#[41]⟩]])] M2 [q] (pgM M j q true t (bs ++ exprX ⟨k, n, nm, kids⟩ want)))) := by
      rintro s' Bf rfl ⟨e1, e2, e3⟩
      have hX := exprX_of ⟨k, n, nm, kids⟩ want
      refine ⟨.inl rfl, ?_⟩
      rcases hQ with ⟨hl, -, rfl, hd⟩ | ⟨hl, -, rfl, v1, v2, hd, hp1, hp2⟩
      · rw [if_neg hl] at hX
        rw [hX]
        exact .inl ⟨e1.trans hd, off _ _⟩
      · rw [if_pos hl] at hX
        rw [hX] at hs ⊢
        simp only [List.length_cons, List.length_append, List.length_nil] at hs
        refine .inr ⟨v1, v2, pgM M j q true t (bs ++ [40] ++ textX ⟨k, n, nm, kids⟩), e1.trans hd, e2 _ hp1, e3 _ _ hp2, off _ _, pgM_wf h hWF, fun i hi => pgM_live i hi, ?_⟩
        have hl := lay_df (h.pgM (u' := true) (t' := t) (bs' := bs ++ [40] ++ textX ⟨k, n, nm, kids⟩)) [⟨#[41]⟩] (by decide) (by simp [txtB]; omega)
        rw [pgM_pgM h.ne, layU_ne (by simp)] at hl
        have e : bs ++ [40] ++ textX ⟨k, n, nm, kids⟩ ++ txtB [(⟨#[41]⟩ : ByteArray)] = bs ++ 40 :: (textX ⟨k, n, nm, kids⟩ ++ [41]) := by simp [txtB]
        rw [e] at hl
        exact hl
    clear hQ off h hM
    have hcase : k = 1 ∨ k = 2 ∨ k = 3 ∨ k = 4 ∨ k = 5 ∨ k = 6 ∨ k = 7 ∨ k = 8 ∨ k = 9 ∨ k = 10 ∨ k = 11 ∨ k = 12 ∨ k = 13 ∨ k = 14 ∨ k = 15 ∨ k = 16 ∨ k = 17 ∨ k = 18 := by omega
    rcases hcase with rfl | rfl | rfl | rfl | rfl | rfl | rfl | rfl | rfl | rfl | rfl | rfl | rfl | rfl | rfl | rfl | rfl | rfl
    · -- Lit
      have hT : textX ⟨1, n, nm, kids⟩ = Lib.itoa n := by simp [textX, bodyX]
      rw [hT] at hfit fin
      repeat (first | refine W.seq ?_ | refine W.block ?_ | refine W.skip ?_ | refine W.exit ?_ | refine W.region tab_ok b (by decide) (exec_run (by simp only [exa, beq_self_eq_true, ByteArray.size, Nat.reduceAdd, Nat.reduceLeDiff, Nat.reduceEqDiff, Nat.reduceMul, Int.reduceToNat, reduceIte, Int.reduceLE, Int.reduceNeg, h0, h4, h6, hm4, hm6]; rfl)) ?_)
      refine W.cond rfl (fun _ => ?_) (fun h => absurd h (by decide))
      (repeat (first | refine W.seq ?_ | refine W.block ?_ | refine W.skip ?_))
      refine W.regionK tab_ok b (by decide) ?_
      refine runk_split 3 (by simp only [exa, beq_self_eq_true, ByteArray.size, Nat.reduceAdd, Nat.reduceLeDiff, Nat.reduceEqDiff, Nat.reduceMul, Int.reduceToNat, reduceIte, Int.reduceLE, Int.reduceNeg, killS_app, A.kill, jq, b4q, b6q, if_false, h0, h4, h6, hm4, hm6, cExpr, cShape]; rfl) ?_
      refine runk_call rfl rfl rfl rfl rfl (by simp) (cvs_cons cv_refl cvs_nil) (num_ok n _) ?_
      refine runk_split 1 (by simp only [exa, beq_self_eq_true, ByteArray.size, Nat.reduceAdd, Nat.reduceLeDiff, Nat.reduceEqDiff, Nat.reduceMul, Int.reduceToNat, reduceIte, Int.reduceLE, Int.reduceNeg, killS_app, A.kill, jq, b4q, b6q, if_false, h0, h4, h6, hm4, hm6, cExpr, cShape]; rfl) ?_
      refine runk_callE (D := [q]) rfl rfl rfl rfl rfl (fun i hi => by simp at hi; subst hi; exact nkq) (by simp) (cvs_cons cv_refl (cvs_cons cv_refl cvs_nil)) (layM h1 u' bs' [⟨(Lib.itoa n).toArray⟩] (by simp) (Nat.le_of_ble_eq_true rfl) (by have hf := hfit; simp [txtB] at hf ⊢; omega)) ?_
      simp only [killL, putS]
      refine runk_exec (by simp only [exa, beq_self_eq_true, ByteArray.size, Nat.reduceAdd, Nat.reduceLeDiff, Nat.reduceEqDiff, Nat.reduceMul, Int.reduceToNat, reduceIte, Int.reduceLE, Int.reduceNeg]; rfl) ?_
      refine fin _ _ (by simp [txtB]) ?_
      repeat (first | exact keeps_refl _ | refine keeps_upd (by decide) ?_ | refine keeps_kill h1.ne ?_)
    · -- Null
      have hT : textX ⟨2, n, nm, kids⟩ = [110, 117, 108, 108] := by simp [textX, bodyX]
      rw [hT] at hfit fin
      repeat (first | refine W.seq ?_ | refine W.block ?_ | refine W.skip ?_ | refine W.exit ?_ | refine W.region tab_ok b (by decide) (exec_run (by simp only [exa, beq_self_eq_true, ByteArray.size, Nat.reduceAdd, Nat.reduceLeDiff, Nat.reduceEqDiff, Nat.reduceMul, Int.reduceToNat, reduceIte, Int.reduceLE, Int.reduceNeg, h0, h4, h6, hm4, hm6]; rfl)) ?_)
      iterate 1 (refine W.cond rfl (fun h => absurd h (by decide)) (fun _ => ?_); repeat (first | refine W.seq ?_ | refine W.block ?_ | refine W.skip ?_ | refine W.exit ?_ | refine W.region tab_ok b (by decide) (exec_run (by simp only [exa, beq_self_eq_true, ByteArray.size, Nat.reduceAdd, Nat.reduceLeDiff, Nat.reduceEqDiff, Nat.reduceMul, Int.reduceToNat, reduceIte, Int.reduceLE, Int.reduceNeg, h0, h4, h6, hm4, hm6]; rfl)) ?_))
      refine W.cond rfl (fun _ => ?_) (fun h => absurd h (by decide))
      (repeat (first | refine W.seq ?_ | refine W.block ?_ | refine W.skip ?_))
      refine W.regionK tab_ok b (by decide) ?_
      refine runk_split 2 (by simp only [exa, beq_self_eq_true, ByteArray.size, Nat.reduceAdd, Nat.reduceLeDiff, Nat.reduceEqDiff, Nat.reduceMul, Int.reduceToNat, reduceIte, Int.reduceLE, Int.reduceNeg, killS_app, A.kill, jq, b4q, b6q, if_false, h0, h4, h6, hm4, hm6, cExpr, cShape]; rfl) ?_
      refine runk_callE (D := [q]) rfl rfl rfl rfl rfl (fun i hi => by simp at hi; subst hi; exact nkq) (by simp) (cvs_cons cv_refl (cvs_cons cv_refl cvs_nil)) (layM h1 u' bs' [⟨#[110, 117, 108, 108]⟩] (by simp) (Nat.le_of_ble_eq_true rfl) (by have hf := hfit; simp [txtB] at hf ⊢; omega)) ?_
      simp only [killL, putS]
      refine runk_exec (by simp only [exa, beq_self_eq_true, ByteArray.size, Nat.reduceAdd, Nat.reduceLeDiff, Nat.reduceEqDiff, Nat.reduceMul, Int.reduceToNat, reduceIte, Int.reduceLE, Int.reduceNeg]; rfl) ?_
      refine fin _ _ (by simp [txtB]) ?_
      repeat (first | exact keeps_refl _ | refine keeps_upd (by decide) ?_ | refine keeps_kill h1.ne ?_)
    · -- This
      have hT : textX ⟨3, n, nm, kids⟩ = [116, 104, 105, 115] := by simp [textX, bodyX]
      rw [hT] at hfit fin
      repeat (first | refine W.seq ?_ | refine W.block ?_ | refine W.skip ?_ | refine W.exit ?_ | refine W.region tab_ok b (by decide) (exec_run (by simp only [exa, beq_self_eq_true, ByteArray.size, Nat.reduceAdd, Nat.reduceLeDiff, Nat.reduceEqDiff, Nat.reduceMul, Int.reduceToNat, reduceIte, Int.reduceLE, Int.reduceNeg, h0, h4, h6, hm4, hm6]; rfl)) ?_)
      iterate 2 (refine W.cond rfl (fun h => absurd h (by decide)) (fun _ => ?_); repeat (first | refine W.seq ?_ | refine W.block ?_ | refine W.skip ?_ | refine W.exit ?_ | refine W.region tab_ok b (by decide) (exec_run (by simp only [exa, beq_self_eq_true, ByteArray.size, Nat.reduceAdd, Nat.reduceLeDiff, Nat.reduceEqDiff, Nat.reduceMul, Int.reduceToNat, reduceIte, Int.reduceLE, Int.reduceNeg, h0, h4, h6, hm4, hm6]; rfl)) ?_))
      refine W.cond rfl (fun _ => ?_) (fun h => absurd h (by decide))
      (repeat (first | refine W.seq ?_ | refine W.block ?_ | refine W.skip ?_))
      refine W.regionK tab_ok b (by decide) ?_
      refine runk_split 2 (by simp only [exa, beq_self_eq_true, ByteArray.size, Nat.reduceAdd, Nat.reduceLeDiff, Nat.reduceEqDiff, Nat.reduceMul, Int.reduceToNat, reduceIte, Int.reduceLE, Int.reduceNeg, killS_app, A.kill, jq, b4q, b6q, if_false, h0, h4, h6, hm4, hm6, cExpr, cShape]; rfl) ?_
      refine runk_callE (D := [q]) rfl rfl rfl rfl rfl (fun i hi => by simp at hi; subst hi; exact nkq) (by simp) (cvs_cons cv_refl (cvs_cons cv_refl cvs_nil)) (layM h1 u' bs' [⟨#[116, 104, 105, 115]⟩] (by simp) (Nat.le_of_ble_eq_true rfl) (by have hf := hfit; simp [txtB] at hf ⊢; omega)) ?_
      simp only [killL, putS]
      refine runk_exec (by simp only [exa, beq_self_eq_true, ByteArray.size, Nat.reduceAdd, Nat.reduceLeDiff, Nat.reduceEqDiff, Nat.reduceMul, Int.reduceToNat, reduceIte, Int.reduceLE, Int.reduceNeg]; rfl) ?_
      refine fin _ _ (by simp [txtB]) ?_
      repeat (first | exact keeps_refl _ | refine keeps_upd (by decide) ?_ | refine keeps_kill h1.ne ?_)
    · -- Var
      have hT : textX ⟨4, n, nm, kids⟩ = nm.data.toList := by simp [textX, bodyX]
      rw [hT] at hfit fin
      repeat (first | refine W.seq ?_ | refine W.block ?_ | refine W.skip ?_ | refine W.exit ?_ | refine W.region tab_ok b (by decide) (exec_run (by simp only [exa, beq_self_eq_true, ByteArray.size, Nat.reduceAdd, Nat.reduceLeDiff, Nat.reduceEqDiff, Nat.reduceMul, Int.reduceToNat, reduceIte, Int.reduceLE, Int.reduceNeg, h0, h4, h6, hm4, hm6]; rfl)) ?_)
      iterate 3 (refine W.cond rfl (fun h => absurd h (by decide)) (fun _ => ?_); repeat (first | refine W.seq ?_ | refine W.block ?_ | refine W.skip ?_ | refine W.exit ?_ | refine W.region tab_ok b (by decide) (exec_run (by simp only [exa, beq_self_eq_true, ByteArray.size, Nat.reduceAdd, Nat.reduceLeDiff, Nat.reduceEqDiff, Nat.reduceMul, Int.reduceToNat, reduceIte, Int.reduceLE, Int.reduceNeg, h0, h4, h6, hm4, hm6]; rfl)) ?_))
      refine W.cond rfl (fun _ => ?_) (fun h => absurd h (by decide))
      (repeat (first | refine W.seq ?_ | refine W.block ?_ | refine W.skip ?_))
      refine W.regionK tab_ok b (by decide) ?_
      refine runk_split 4 (by simp only [exa, beq_self_eq_true, ByteArray.size, Nat.reduceAdd, Nat.reduceLeDiff, Nat.reduceEqDiff, Nat.reduceMul, Int.reduceToNat, reduceIte, Int.reduceLE, Int.reduceNeg, killS_app, A.kill, jq, b4q, b6q, if_false, h0, h4, h6, hm4, hm6, cExpr, cShape]; rfl) ?_
      refine runk_callE (D := [q]) rfl rfl rfl rfl rfl (fun i hi => by simp at hi; subst hi; exact nkq) (by simp) (cvs_cons cv_refl (cvs_cons cv_refl cvs_nil)) (layM h1 u' bs' [nm] (by simp) (Nat.le_of_ble_eq_true rfl) (by have hf := hfit; simp [txtB] at hf ⊢; omega)) ?_
      simp only [killL, putS]
      refine runk_exec (by simp only [exa, beq_self_eq_true, ByteArray.size, Nat.reduceAdd, Nat.reduceLeDiff, Nat.reduceEqDiff, Nat.reduceMul, Int.reduceToNat, reduceIte, Int.reduceLE, Int.reduceNeg]; rfl) ?_
      refine fin _ _ (by simp [txtB]) ?_
      repeat (first | exact keeps_refl _ | refine keeps_upd (by decide) ?_ | refine keeps_kill h1.ne ?_)
    · -- New
      have hT : textX ⟨5, n, nm, kids⟩ = [110, 101, 119, 32] ++ nm.data.toList ++ [40, 41] := by simp [textX, bodyX]
      rw [hT] at hfit fin
      repeat (first | refine W.seq ?_ | refine W.block ?_ | refine W.skip ?_ | refine W.exit ?_ | refine W.region tab_ok b (by decide) (exec_run (by simp only [exa, beq_self_eq_true, ByteArray.size, Nat.reduceAdd, Nat.reduceLeDiff, Nat.reduceEqDiff, Nat.reduceMul, Int.reduceToNat, reduceIte, Int.reduceLE, Int.reduceNeg, h0, h4, h6, hm4, hm6]; rfl)) ?_)
      iterate 4 (refine W.cond rfl (fun h => absurd h (by decide)) (fun _ => ?_); repeat (first | refine W.seq ?_ | refine W.block ?_ | refine W.skip ?_ | refine W.exit ?_ | refine W.region tab_ok b (by decide) (exec_run (by simp only [exa, beq_self_eq_true, ByteArray.size, Nat.reduceAdd, Nat.reduceLeDiff, Nat.reduceEqDiff, Nat.reduceMul, Int.reduceToNat, reduceIte, Int.reduceLE, Int.reduceNeg, h0, h4, h6, hm4, hm6]; rfl)) ?_))
      refine W.cond rfl (fun _ => ?_) (fun h => absurd h (by decide))
      (repeat (first | refine W.seq ?_ | refine W.block ?_ | refine W.skip ?_))
      refine W.regionK tab_ok b (by decide) ?_
      refine runk_split 4 (by simp only [exa, beq_self_eq_true, ByteArray.size, Nat.reduceAdd, Nat.reduceLeDiff, Nat.reduceEqDiff, Nat.reduceMul, Int.reduceToNat, reduceIte, Int.reduceLE, Int.reduceNeg, killS_app, A.kill, jq, b4q, b6q, if_false, h0, h4, h6, hm4, hm6, cExpr, cShape]; rfl) ?_
      refine runk_callE (D := [q]) rfl rfl rfl rfl rfl (fun i hi => by simp at hi; subst hi; exact nkq) (by simp) (cvs_cons cv_refl (cvs_cons cv_refl cvs_nil)) (layM h1 u' bs' [⟨#[110, 101, 119, 32]⟩, nm, ⟨#[40, 41]⟩] (by simp) (Nat.le_of_ble_eq_true rfl) (by have hf := hfit; simp [txtB] at hf ⊢; omega)) ?_
      simp only [killL, putS]
      refine runk_exec (by simp only [exa, beq_self_eq_true, ByteArray.size, Nat.reduceAdd, Nat.reduceLeDiff, Nat.reduceEqDiff, Nat.reduceMul, Int.reduceToNat, reduceIte, Int.reduceLE, Int.reduceNeg]; rfl) ?_
      refine fin _ _ (by simp [txtB]) ?_
      repeat (first | exact keeps_refl _ | refine keeps_upd (by decide) ?_ | refine keeps_kill h1.ne ?_)
    · -- NewArray
      obtain ⟨y, rfl⟩ : ∃ y, kids = [y] := len1 hlo hhi
      have hT : textX ⟨6, n, nm, [y]⟩ = [110, 101, 119, 32, 105, 110, 116, 91] ++ listE [y] ++ [93] := by rw [textX_eq, ← listX_eq]; rfl
      rw [hT] at hfit fin
      have hlen : [y].length ≤ 100 := by simp
      repeat (first | refine W.seq ?_ | refine W.block ?_ | refine W.skip ?_ | refine W.exit ?_ | refine W.region tab_ok b (by decide) (exec_run (by simp only [exa, beq_self_eq_true, ByteArray.size, Nat.reduceAdd, Nat.reduceLeDiff, Nat.reduceEqDiff, Nat.reduceMul, Int.reduceToNat, reduceIte, Int.reduceLE, Int.reduceNeg, h0, h4, h6, hm4, hm6]; rfl)) ?_)
      iterate 5 (refine W.cond rfl (fun h => absurd h (by decide)) (fun _ => ?_); repeat (first | refine W.seq ?_ | refine W.block ?_ | refine W.skip ?_ | refine W.exit ?_ | refine W.region tab_ok b (by decide) (exec_run (by simp only [exa, beq_self_eq_true, ByteArray.size, Nat.reduceAdd, Nat.reduceLeDiff, Nat.reduceEqDiff, Nat.reduceMul, Int.reduceToNat, reduceIte, Int.reduceLE, Int.reduceNeg, h0, h4, h6, hm4, hm6]; rfl)) ?_))
      refine W.cond rfl (fun _ => ?_) (fun h => absurd h (by decide))
      (repeat (first | refine W.seq ?_ | refine W.block ?_ | refine W.skip ?_))
      refine W.regionK tab_ok b (by decide) ?_
      refine runk_split 2 (by simp only [exa, beq_self_eq_true, ByteArray.size, Nat.reduceAdd, Nat.reduceLeDiff, Nat.reduceEqDiff, Nat.reduceMul, Int.reduceToNat, reduceIte, Int.reduceLE, Int.reduceNeg, killS_app, A.kill, jq, b4q, b6q, if_false, h0, h4, h6, hm4, hm6, cExpr, cShape]; rfl) ?_
      refine runk_callE (D := [q]) rfl rfl rfl rfl rfl (fun i hi => by simp at hi; subst hi; exact nkq) (by simp) (cvs_cons cv_refl (cvs_cons cv_refl cvs_nil)) (layM h1 u' bs' [⟨#[110, 101, 119, 32, 105, 110, 116, 91]⟩] (by simp) (Nat.le_of_ble_eq_true rfl) (by have hf := hfit; simp [txtB] at hf ⊢; omega)) ?_
      simp only [killL, putS]
      refine runk_exec (by simp only [exa, beq_self_eq_true, ByteArray.size, Nat.reduceAdd, Nat.reduceLeDiff, Nat.reduceEqDiff, Nat.reduceMul, Int.reduceToNat, reduceIte, Int.reduceLE, Int.reduceNeg]; rfl) ?_
      (repeat (first | refine W.seq ?_ | refine W.block ?_ | refine W.skip ?_))
      refine W.regionK tab_ok b (by decide) ?_
      refine runk_split 3 (by simp only [exa, beq_self_eq_true, ByteArray.size, Nat.reduceAdd, Nat.reduceLeDiff, Nat.reduceEqDiff, Nat.reduceMul, Int.reduceToNat, reduceIte, Int.reduceLE, Int.reduceNeg, killS_app, A.kill, jq, b4q, b6q, if_false, h0, h4, h6, hm4, hm6, cExpr, cShape, cExprs]; rfl) ?_
      refine runk_callE (D := [q]) rfl rfl rfl rfl rfl (fun i hi => by simp at hi; subst hi; exact nkq) (by simp) (cvs_cons cv_refl (cvs_cons cv_refl (cvs_cons cv_refl cvs_nil))) (listM h1 f1 (l := [y]) (fun y hy => hE y (by simp [hy])) (Nat.le_trans hlen (by decide)) true (bs' ++ txtB [⟨#[110, 101, 119, 32, 105, 110, 116, 91]⟩]) ⟨#[93]⟩ (by show _ + _ + 1 ≤ _; have hf := hfit; simp [txtB] at hf ⊢; omega)) ?_
      simp only [killL, putS]
      refine runk_exec (by simp only [exa, beq_self_eq_true, ByteArray.size, Nat.reduceAdd, Nat.reduceLeDiff, Nat.reduceEqDiff, Nat.reduceMul, Int.reduceToNat, reduceIte, Int.reduceLE, Int.reduceNeg]; rfl) ?_
      refine fin _ _ (by simp [txtB]) ?_
      repeat (first | exact keeps_refl _ | refine keeps_upd (by decide) ?_ | refine keeps_kill h1.ne ?_)
    · -- Field
      obtain ⟨⟨yk, yn, ym, ys⟩, rfl⟩ : ∃ y, kids = [y] := len1 hlo hhi
      have hT : textX ⟨7, n, nm, [⟨yk, yn, ym, ys⟩]⟩ = exprX ⟨yk, yn, ym, ys⟩ 4 ++ [46] ++ nm.data.toList := by rw [textX_eq, ← kidX_at (l := [⟨yk, yn, ym, ys⟩]) (i := 0) rfl]; rfl
      rw [hT] at hfit fin
      repeat (first | refine W.seq ?_ | refine W.block ?_ | refine W.skip ?_ | refine W.exit ?_ | refine W.region tab_ok b (by decide) (exec_run (by simp only [exa, beq_self_eq_true, ByteArray.size, Nat.reduceAdd, Nat.reduceLeDiff, Nat.reduceEqDiff, Nat.reduceMul, Int.reduceToNat, reduceIte, Int.reduceLE, Int.reduceNeg, h0, h4, h6, hm4, hm6]; rfl)) ?_)
      iterate 6 (refine W.cond rfl (fun h => absurd h (by decide)) (fun _ => ?_); repeat (first | refine W.seq ?_ | refine W.block ?_ | refine W.skip ?_ | refine W.exit ?_ | refine W.region tab_ok b (by decide) (exec_run (by simp only [exa, beq_self_eq_true, ByteArray.size, Nat.reduceAdd, Nat.reduceLeDiff, Nat.reduceEqDiff, Nat.reduceMul, Int.reduceToNat, reduceIte, Int.reduceLE, Int.reduceNeg, h0, h4, h6, hm4, hm6]; rfl)) ?_))
      refine W.cond rfl (fun _ => ?_) (fun h => absurd h (by decide))
      (repeat (first | refine W.seq ?_ | refine W.block ?_ | refine W.skip ?_))
      refine W.regionK tab_ok b (by decide) ?_
      refine runk_split 5 (by simp only [exa, beq_self_eq_true, ByteArray.size, Nat.reduceAdd, Nat.reduceLeDiff, Nat.reduceEqDiff, Nat.reduceMul, Int.reduceToNat, reduceIte, Int.reduceLE, Int.reduceNeg, killS_app, A.kill, jq, b4q, b6q, if_false, h0, h4, h6, hm4, hm6, cExpr, cShape, cExprs]; rfl) ?_
      refine runk_callE (D := [q]) rfl rfl rfl rfl rfl (fun i hi => by simp at hi; subst hi; exact nkq) (by simp) (cvs_cons cv_refl (cvs_cons cv_refl (cvs_cons cv_refl cvs_nil))) (exprM h1 f1 (hE ⟨yk, yn, ym, ys⟩ (by simp)) u' bs' 4 (by have hf := hfit; simp [txtB] at hf ⊢; omega)) ?_
      simp only [killL, putS]
      refine runk_exec (by simp only [exa, beq_self_eq_true, ByteArray.size, Nat.reduceAdd, Nat.reduceLeDiff, Nat.reduceEqDiff, Nat.reduceMul, Int.reduceToNat, reduceIte, Int.reduceLE, Int.reduceNeg]; rfl) ?_
      (repeat (first | refine W.seq ?_ | refine W.block ?_ | refine W.skip ?_))
      refine W.regionK tab_ok b (by decide) ?_
      refine runk_split 4 (by simp only [exa, beq_self_eq_true, ByteArray.size, Nat.reduceAdd, Nat.reduceLeDiff, Nat.reduceEqDiff, Nat.reduceMul, Int.reduceToNat, reduceIte, Int.reduceLE, Int.reduceNeg, killS_app, A.kill, jq, b4q, b6q, if_false, h0, h4, h6, hm4, hm6, cExpr, cShape]; rfl) ?_
      refine runk_callE (D := [q]) rfl rfl rfl rfl rfl (fun i hi => by simp at hi; subst hi; exact nkq) (by simp) (cvs_cons cv_refl (cvs_cons cv_refl cvs_nil)) (layM h1 true (bs' ++ exprX ⟨yk, yn, ym, ys⟩ 4) [⟨#[46]⟩, nm] (by simp) (Nat.le_of_ble_eq_true rfl) (by have hf := hfit; simp [txtB] at hf ⊢; omega)) ?_
      simp only [killL, putS]
      refine runk_exec (by simp only [exa, beq_self_eq_true, ByteArray.size, Nat.reduceAdd, Nat.reduceLeDiff, Nat.reduceEqDiff, Nat.reduceMul, Int.reduceToNat, reduceIte, Int.reduceLE, Int.reduceNeg]; rfl) ?_
      refine fin _ _ (by simp [txtB]) ?_
      repeat (first | exact keeps_refl _ | refine keeps_upd (by decide) ?_ | refine keeps_kill h1.ne ?_)
    · -- Elem
      obtain ⟨⟨yk, yn, ym, ys⟩, y2, rfl⟩ : ∃ y y2, kids = [y, y2] := len2' hlo hhi
      have hT : textX ⟨8, n, nm, [⟨yk, yn, ym, ys⟩, y2]⟩ = exprX ⟨yk, yn, ym, ys⟩ 4 ++ [91] ++ listE [y2] ++ [93] := by rw [textX_eq, ← kidX_at (l := [⟨yk, yn, ym, ys⟩, y2]) (i := 0) rfl, ← listX_eq]; rfl
      rw [hT] at hfit fin
      have hlen : [y2].length ≤ 100 := by simp
      have hsl := eq_true (Or.inr (rows4 [⟨yk, yn, ym, ys⟩, y2]) : False ∨ ∀ x ∈ [[C.int .i64 yk, C.int .i64 yn, C.str ym, C.sl (cExprs ys)], cExpr y2], x.length = 4)
      repeat (first | refine W.seq ?_ | refine W.block ?_ | refine W.skip ?_ | refine W.exit ?_ | refine W.region tab_ok b (by decide) (exec_run (by simp only [exa, beq_self_eq_true, ByteArray.size, Nat.reduceAdd, Nat.reduceLeDiff, Nat.reduceEqDiff, Nat.reduceMul, Int.reduceToNat, reduceIte, Int.reduceLE, Int.reduceNeg, h0, h4, h6, hm4, hm6]; rfl)) ?_)
      iterate 7 (refine W.cond rfl (fun h => absurd h (by decide)) (fun _ => ?_); repeat (first | refine W.seq ?_ | refine W.block ?_ | refine W.skip ?_ | refine W.exit ?_ | refine W.region tab_ok b (by decide) (exec_run (by simp only [exa, beq_self_eq_true, ByteArray.size, Nat.reduceAdd, Nat.reduceLeDiff, Nat.reduceEqDiff, Nat.reduceMul, Int.reduceToNat, reduceIte, Int.reduceLE, Int.reduceNeg, h0, h4, h6, hm4, hm6]; rfl)) ?_))
      refine W.cond rfl (fun _ => ?_) (fun h => absurd h (by decide))
      (repeat (first | refine W.seq ?_ | refine W.block ?_ | refine W.skip ?_))
      refine W.regionK tab_ok b (by decide) ?_
      refine runk_split 5 (by simp only [exa, beq_self_eq_true, ByteArray.size, Nat.reduceAdd, Nat.reduceLeDiff, Nat.reduceEqDiff, Nat.reduceMul, Int.reduceToNat, reduceIte, Int.reduceLE, Int.reduceNeg, killS_app, A.kill, jq, b4q, b6q, if_false, h0, h4, h6, hm4, hm6, cExpr, cShape, cExprs]; rfl) ?_
      refine runk_callE (D := [q]) rfl rfl rfl rfl rfl (fun i hi => by simp at hi; subst hi; exact nkq) (by simp) (cvs_cons cv_refl (cvs_cons cv_refl (cvs_cons cv_refl cvs_nil))) (exprM h1 f1 (hE ⟨yk, yn, ym, ys⟩ (by simp)) u' bs' 4 (by have hf := hfit; simp [txtB] at hf ⊢; omega)) ?_
      simp only [killL, putS]
      refine runk_exec (by simp only [exa, beq_self_eq_true, ByteArray.size, Nat.reduceAdd, Nat.reduceLeDiff, Nat.reduceEqDiff, Nat.reduceMul, Int.reduceToNat, reduceIte, Int.reduceLE, Int.reduceNeg]; rfl) ?_
      (repeat (first | refine W.seq ?_ | refine W.block ?_ | refine W.skip ?_))
      refine W.regionK tab_ok b (by decide) ?_
      refine runk_split 2 (by simp only [exa, beq_self_eq_true, ByteArray.size, Nat.reduceAdd, Nat.reduceLeDiff, Nat.reduceEqDiff, Nat.reduceMul, Int.reduceToNat, reduceIte, Int.reduceLE, Int.reduceNeg, killS_app, A.kill, jq, b4q, b6q, if_false, h0, h4, h6, hm4, hm6, cExpr, cShape]; rfl) ?_
      refine runk_callE (D := [q]) rfl rfl rfl rfl rfl (fun i hi => by simp at hi; subst hi; exact nkq) (by simp) (cvs_cons cv_refl (cvs_cons cv_refl cvs_nil)) (layM h1 true (bs' ++ exprX ⟨yk, yn, ym, ys⟩ 4) [⟨#[91]⟩] (by simp) (Nat.le_of_ble_eq_true rfl) (by have hf := hfit; simp [txtB] at hf ⊢; omega)) ?_
      simp only [killL, putS]
      refine runk_exec (by simp only [exa, beq_self_eq_true, ByteArray.size, Nat.reduceAdd, Nat.reduceLeDiff, Nat.reduceEqDiff, Nat.reduceMul, Int.reduceToNat, reduceIte, Int.reduceLE, Int.reduceNeg]; rfl) ?_
      (repeat (first | refine W.seq ?_ | refine W.block ?_ | refine W.skip ?_))
      refine W.regionK tab_ok b (by decide) ?_
      refine runk_split 4 (by simp only [exa, beq_self_eq_true, ByteArray.size, Nat.reduceAdd, Nat.reduceLeDiff, Nat.reduceEqDiff, Nat.reduceMul, Int.reduceToNat, reduceIte, Int.reduceLE, Int.reduceNeg, killS_app, A.kill, jq, b4q, b6q, if_false, h0, h4, h6, hm4, hm6, cExpr, cShape, cExprs, hsl, if_true]; rfl) ?_
      refine runk_callE (D := [q]) rfl rfl rfl rfl rfl (fun i hi => by simp at hi; subst hi; exact nkq) (by simp) (cvs_cons cv_refl (cvs_cons cv_refl (cvs_cons cv_refl cvs_nil))) (listM h1 f1 (l := [y2]) (fun y hy => hE y (by simp [hy])) (Nat.le_trans hlen (by decide)) true (bs' ++ exprX ⟨yk, yn, ym, ys⟩ 4 ++ txtB [⟨#[91]⟩]) ⟨#[93]⟩ (by show _ + _ + 1 ≤ _; have hf := hfit; simp [txtB] at hf ⊢; omega)) ?_
      simp only [killL, putS]
      refine runk_exec (by simp only [exa, beq_self_eq_true, ByteArray.size, Nat.reduceAdd, Nat.reduceLeDiff, Nat.reduceEqDiff, Nat.reduceMul, Int.reduceToNat, reduceIte, Int.reduceLE, Int.reduceNeg]; rfl) ?_
      refine fin _ _ (by simp [txtB]) ?_
      repeat (first | exact keeps_refl _ | refine keeps_upd (by decide) ?_ | refine keeps_kill h1.ne ?_)
    · -- Length
      obtain ⟨⟨yk, yn, ym, ys⟩, rfl⟩ : ∃ y, kids = [y] := len1 hlo hhi
      have hT : textX ⟨9, n, nm, [⟨yk, yn, ym, ys⟩]⟩ = exprX ⟨yk, yn, ym, ys⟩ 4 ++ [46, 108, 101, 110, 103, 116, 104] := by rw [textX_eq, ← kidX_at (l := [⟨yk, yn, ym, ys⟩]) (i := 0) rfl]; rfl
      rw [hT] at hfit fin
      repeat (first | refine W.seq ?_ | refine W.block ?_ | refine W.skip ?_ | refine W.exit ?_ | refine W.region tab_ok b (by decide) (exec_run (by simp only [exa, beq_self_eq_true, ByteArray.size, Nat.reduceAdd, Nat.reduceLeDiff, Nat.reduceEqDiff, Nat.reduceMul, Int.reduceToNat, reduceIte, Int.reduceLE, Int.reduceNeg, h0, h4, h6, hm4, hm6]; rfl)) ?_)
      iterate 8 (refine W.cond rfl (fun h => absurd h (by decide)) (fun _ => ?_); repeat (first | refine W.seq ?_ | refine W.block ?_ | refine W.skip ?_ | refine W.exit ?_ | refine W.region tab_ok b (by decide) (exec_run (by simp only [exa, beq_self_eq_true, ByteArray.size, Nat.reduceAdd, Nat.reduceLeDiff, Nat.reduceEqDiff, Nat.reduceMul, Int.reduceToNat, reduceIte, Int.reduceLE, Int.reduceNeg, h0, h4, h6, hm4, hm6]; rfl)) ?_))
      refine W.cond rfl (fun _ => ?_) (fun h => absurd h (by decide))
      (repeat (first | refine W.seq ?_ | refine W.block ?_ | refine W.skip ?_))
      refine W.regionK tab_ok b (by decide) ?_
      refine runk_split 5 (by simp only [exa, beq_self_eq_true, ByteArray.size, Nat.reduceAdd, Nat.reduceLeDiff, Nat.reduceEqDiff, Nat.reduceMul, Int.reduceToNat, reduceIte, Int.reduceLE, Int.reduceNeg, killS_app, A.kill, jq, b4q, b6q, if_false, h0, h4, h6, hm4, hm6, cExpr, cShape, cExprs]; rfl) ?_
      refine runk_callE (D := [q]) rfl rfl rfl rfl rfl (fun i hi => by simp at hi; subst hi; exact nkq) (by simp) (cvs_cons cv_refl (cvs_cons cv_refl (cvs_cons cv_refl cvs_nil))) (exprM h1 f1 (hE ⟨yk, yn, ym, ys⟩ (by simp)) u' bs' 4 (by have hf := hfit; simp [txtB] at hf ⊢; omega)) ?_
      simp only [killL, putS]
      refine runk_exec (by simp only [exa, beq_self_eq_true, ByteArray.size, Nat.reduceAdd, Nat.reduceLeDiff, Nat.reduceEqDiff, Nat.reduceMul, Int.reduceToNat, reduceIte, Int.reduceLE, Int.reduceNeg]; rfl) ?_
      (repeat (first | refine W.seq ?_ | refine W.block ?_ | refine W.skip ?_))
      refine W.regionK tab_ok b (by decide) ?_
      refine runk_split 2 (by simp only [exa, beq_self_eq_true, ByteArray.size, Nat.reduceAdd, Nat.reduceLeDiff, Nat.reduceEqDiff, Nat.reduceMul, Int.reduceToNat, reduceIte, Int.reduceLE, Int.reduceNeg, killS_app, A.kill, jq, b4q, b6q, if_false, h0, h4, h6, hm4, hm6, cExpr, cShape]; rfl) ?_
      refine runk_callE (D := [q]) rfl rfl rfl rfl rfl (fun i hi => by simp at hi; subst hi; exact nkq) (by simp) (cvs_cons cv_refl (cvs_cons cv_refl cvs_nil)) (layM h1 true (bs' ++ exprX ⟨yk, yn, ym, ys⟩ 4) [⟨#[46, 108, 101, 110, 103, 116, 104]⟩] (by simp) (Nat.le_of_ble_eq_true rfl) (by have hf := hfit; simp [txtB] at hf ⊢; omega)) ?_
      simp only [killL, putS]
      refine runk_exec (by simp only [exa, beq_self_eq_true, ByteArray.size, Nat.reduceAdd, Nat.reduceLeDiff, Nat.reduceEqDiff, Nat.reduceMul, Int.reduceToNat, reduceIte, Int.reduceLE, Int.reduceNeg]; rfl) ?_
      refine fin _ _ (by simp [txtB]) ?_
      repeat (first | exact keeps_refl _ | refine keeps_upd (by decide) ?_ | refine keeps_kill h1.ne ?_)
    · -- Call
      obtain ⟨⟨yk, yn, ym, ys⟩, r, rfl, hlen⟩ : ∃ y r, kids = y :: r ∧ r.length ≤ 100 := len5 hlo hhi
      have hT : textX ⟨10, n, nm, ⟨yk, yn, ym, ys⟩ :: r⟩ = exprX ⟨yk, yn, ym, ys⟩ 4 ++ [46] ++ nm.data.toList ++ [40] ++ listE r ++ [41] := by rw [textX_eq, ← kidX_at (l := ⟨yk, yn, ym, ys⟩ :: r) (i := 0) rfl, ← listX_eq]; rfl
      rw [hT] at hfit fin
      have hsl := eq_true (Or.inr (rows4 (⟨yk, yn, ym, ys⟩ :: r)) : False ∨ ∀ x ∈ [C.int .i64 yk, C.int .i64 yn, C.str ym, C.sl (cExprs ys)] :: cExprs r, x.length = 4)
      repeat (first | refine W.seq ?_ | refine W.block ?_ | refine W.skip ?_ | refine W.exit ?_ | refine W.region tab_ok b (by decide) (exec_run (by simp only [exa, beq_self_eq_true, ByteArray.size, Nat.reduceAdd, Nat.reduceLeDiff, Nat.reduceEqDiff, Nat.reduceMul, Int.reduceToNat, reduceIte, Int.reduceLE, Int.reduceNeg, h0, h4, h6, hm4, hm6]; rfl)) ?_)
      iterate 9 (refine W.cond rfl (fun h => absurd h (by decide)) (fun _ => ?_); repeat (first | refine W.seq ?_ | refine W.block ?_ | refine W.skip ?_ | refine W.exit ?_ | refine W.region tab_ok b (by decide) (exec_run (by simp only [exa, beq_self_eq_true, ByteArray.size, Nat.reduceAdd, Nat.reduceLeDiff, Nat.reduceEqDiff, Nat.reduceMul, Int.reduceToNat, reduceIte, Int.reduceLE, Int.reduceNeg, h0, h4, h6, hm4, hm6]; rfl)) ?_))
      refine W.cond rfl (fun _ => ?_) (fun h => absurd h (by decide))
      (repeat (first | refine W.seq ?_ | refine W.block ?_ | refine W.skip ?_))
      refine W.regionK tab_ok b (by decide) ?_
      refine runk_split 5 (by simp only [exa, beq_self_eq_true, ByteArray.size, Nat.reduceAdd, Nat.reduceLeDiff, Nat.reduceEqDiff, Nat.reduceMul, Int.reduceToNat, reduceIte, Int.reduceLE, Int.reduceNeg, killS_app, A.kill, jq, b4q, b6q, if_false, h0, h4, h6, hm4, hm6, cExpr, cShape, cExprs]; rfl) ?_
      refine runk_callE (D := [q]) rfl rfl rfl rfl rfl (fun i hi => by simp at hi; subst hi; exact nkq) (by simp) (cvs_cons cv_refl (cvs_cons cv_refl (cvs_cons cv_refl cvs_nil))) (exprM h1 f1 (hE ⟨yk, yn, ym, ys⟩ (by simp)) u' bs' 4 (by have hf := hfit; simp [txtB] at hf ⊢; omega)) ?_
      simp only [killL, putS]
      refine runk_exec (by simp only [exa, beq_self_eq_true, ByteArray.size, Nat.reduceAdd, Nat.reduceLeDiff, Nat.reduceEqDiff, Nat.reduceMul, Int.reduceToNat, reduceIte, Int.reduceLE, Int.reduceNeg]; rfl) ?_
      (repeat (first | refine W.seq ?_ | refine W.block ?_ | refine W.skip ?_))
      refine W.regionK tab_ok b (by decide) ?_
      refine runk_split 4 (by simp only [exa, beq_self_eq_true, ByteArray.size, Nat.reduceAdd, Nat.reduceLeDiff, Nat.reduceEqDiff, Nat.reduceMul, Int.reduceToNat, reduceIte, Int.reduceLE, Int.reduceNeg, killS_app, A.kill, jq, b4q, b6q, if_false, h0, h4, h6, hm4, hm6, cExpr, cShape]; rfl) ?_
      refine runk_callE (D := [q]) rfl rfl rfl rfl rfl (fun i hi => by simp at hi; subst hi; exact nkq) (by simp) (cvs_cons cv_refl (cvs_cons cv_refl cvs_nil)) (layM h1 true (bs' ++ exprX ⟨yk, yn, ym, ys⟩ 4) [⟨#[46]⟩, nm, ⟨#[40]⟩] (by simp) (Nat.le_of_ble_eq_true rfl) (by have hf := hfit; simp [txtB] at hf ⊢; omega)) ?_
      simp only [killL, putS]
      refine runk_exec (by simp only [exa, beq_self_eq_true, ByteArray.size, Nat.reduceAdd, Nat.reduceLeDiff, Nat.reduceEqDiff, Nat.reduceMul, Int.reduceToNat, reduceIte, Int.reduceLE, Int.reduceNeg]; rfl) ?_
      (repeat (first | refine W.seq ?_ | refine W.block ?_ | refine W.skip ?_))
      refine W.regionK tab_ok b (by decide) ?_
      refine runk_split 4 (by simp only [exa, beq_self_eq_true, ByteArray.size, Nat.reduceAdd, Nat.reduceLeDiff, Nat.reduceEqDiff, Nat.reduceMul, Int.reduceToNat, reduceIte, Int.reduceLE, Int.reduceNeg, killS_app, A.kill, jq, b4q, b6q, if_false, h0, h4, h6, hm4, hm6, cExpr, cShape, cExprs, hsl, if_true, Nat.le_refl, List.take_length]; rfl) ?_
      refine runk_callE (D := [q]) rfl rfl rfl rfl rfl (fun i hi => by simp at hi; subst hi; exact nkq) (by simp) (cvs_cons cv_refl (cvs_cons cv_refl (cvs_cons cv_refl cvs_nil))) (listM h1 f1 (l := r) (fun y hy => hE y (by simp [hy])) (Nat.le_trans hlen (by decide)) true (bs' ++ exprX ⟨yk, yn, ym, ys⟩ 4 ++ txtB [⟨#[46]⟩, nm, ⟨#[40]⟩]) ⟨#[41]⟩ (by show _ + _ + 1 ≤ _; have hf := hfit; simp [txtB] at hf ⊢; omega)) ?_
      simp only [killL, putS]
      refine runk_exec (by simp only [exa, beq_self_eq_true, ByteArray.size, Nat.reduceAdd, Nat.reduceLeDiff, Nat.reduceEqDiff, Nat.reduceMul, Int.reduceToNat, reduceIte, Int.reduceLE, Int.reduceNeg]; rfl) ?_
      refine fin _ _ (by simp [txtB]) ?_
      repeat (first | exact keeps_refl _ | refine keeps_upd (by decide) ?_ | refine keeps_kill h1.ne ?_)
    · -- Read
      have hT : textX ⟨11, n, nm, kids⟩ = [114, 101, 97, 100, 40] ++ Lib.itoa n ++ [41] := by simp [textX, bodyX]
      rw [hT] at hfit fin
      repeat (first | refine W.seq ?_ | refine W.block ?_ | refine W.skip ?_ | refine W.exit ?_ | refine W.region tab_ok b (by decide) (exec_run (by simp only [exa, beq_self_eq_true, ByteArray.size, Nat.reduceAdd, Nat.reduceLeDiff, Nat.reduceEqDiff, Nat.reduceMul, Int.reduceToNat, reduceIte, Int.reduceLE, Int.reduceNeg, h0, h4, h6, hm4, hm6]; rfl)) ?_)
      iterate 10 (refine W.cond rfl (fun h => absurd h (by decide)) (fun _ => ?_); repeat (first | refine W.seq ?_ | refine W.block ?_ | refine W.skip ?_ | refine W.exit ?_ | refine W.region tab_ok b (by decide) (exec_run (by simp only [exa, beq_self_eq_true, ByteArray.size, Nat.reduceAdd, Nat.reduceLeDiff, Nat.reduceEqDiff, Nat.reduceMul, Int.reduceToNat, reduceIte, Int.reduceLE, Int.reduceNeg, h0, h4, h6, hm4, hm6]; rfl)) ?_))
      refine W.cond rfl (fun _ => ?_) (fun h => absurd h (by decide))
      (repeat (first | refine W.seq ?_ | refine W.block ?_ | refine W.skip ?_))
      refine W.regionK tab_ok b (by decide) ?_
      refine runk_split 3 (by simp only [exa, beq_self_eq_true, ByteArray.size, Nat.reduceAdd, Nat.reduceLeDiff, Nat.reduceEqDiff, Nat.reduceMul, Int.reduceToNat, reduceIte, Int.reduceLE, Int.reduceNeg, killS_app, A.kill, jq, b4q, b6q, if_false, h0, h4, h6, hm4, hm6, cExpr, cShape]; rfl) ?_
      refine runk_call rfl rfl rfl rfl rfl (by simp) (cvs_cons cv_refl cvs_nil) (num_ok n _) ?_
      refine runk_split 1 (by simp only [exa, beq_self_eq_true, ByteArray.size, Nat.reduceAdd, Nat.reduceLeDiff, Nat.reduceEqDiff, Nat.reduceMul, Int.reduceToNat, reduceIte, Int.reduceLE, Int.reduceNeg, killS_app, A.kill, jq, b4q, b6q, if_false, h0, h4, h6, hm4, hm6, cExpr, cShape]; rfl) ?_
      refine runk_callE (D := [q]) rfl rfl rfl rfl rfl (fun i hi => by simp at hi; subst hi; exact nkq) (by simp) (cvs_cons cv_refl (cvs_cons cv_refl cvs_nil)) (layM h1 u' bs' [⟨#[114, 101, 97, 100, 40]⟩, ⟨(Lib.itoa n).toArray⟩, ⟨#[41]⟩] (by simp) (Nat.le_of_ble_eq_true rfl) (by have hf := hfit; simp [txtB] at hf ⊢; omega)) ?_
      simp only [killL, putS]
      refine runk_exec (by simp only [exa, beq_self_eq_true, ByteArray.size, Nat.reduceAdd, Nat.reduceLeDiff, Nat.reduceEqDiff, Nat.reduceMul, Int.reduceToNat, reduceIte, Int.reduceLE, Int.reduceNeg]; rfl) ?_
      refine fin _ _ (by simp [txtB]) ?_
      repeat (first | exact keeps_refl _ | refine keeps_upd (by decide) ?_ | refine keeps_kill h1.ne ?_)
    · -- Declass
      obtain ⟨y, rfl⟩ : ∃ y, kids = [y] := len1 hlo hhi
      have hT : textX ⟨12, n, nm, [y]⟩ = [100, 101, 99, 108, 97, 115, 115, 105, 102, 121, 40] ++ listE [y] ++ [41] := by rw [textX_eq, ← listX_eq]; rfl
      rw [hT] at hfit fin
      have hlen : [y].length ≤ 100 := by simp
      repeat (first | refine W.seq ?_ | refine W.block ?_ | refine W.skip ?_ | refine W.exit ?_ | refine W.region tab_ok b (by decide) (exec_run (by simp only [exa, beq_self_eq_true, ByteArray.size, Nat.reduceAdd, Nat.reduceLeDiff, Nat.reduceEqDiff, Nat.reduceMul, Int.reduceToNat, reduceIte, Int.reduceLE, Int.reduceNeg, h0, h4, h6, hm4, hm6]; rfl)) ?_)
      iterate 11 (refine W.cond rfl (fun h => absurd h (by decide)) (fun _ => ?_); repeat (first | refine W.seq ?_ | refine W.block ?_ | refine W.skip ?_ | refine W.exit ?_ | refine W.region tab_ok b (by decide) (exec_run (by simp only [exa, beq_self_eq_true, ByteArray.size, Nat.reduceAdd, Nat.reduceLeDiff, Nat.reduceEqDiff, Nat.reduceMul, Int.reduceToNat, reduceIte, Int.reduceLE, Int.reduceNeg, h0, h4, h6, hm4, hm6]; rfl)) ?_))
      refine W.cond rfl (fun _ => ?_) (fun h => absurd h (by decide))
      (repeat (first | refine W.seq ?_ | refine W.block ?_ | refine W.skip ?_))
      refine W.regionK tab_ok b (by decide) ?_
      refine runk_split 2 (by simp only [exa, beq_self_eq_true, ByteArray.size, Nat.reduceAdd, Nat.reduceLeDiff, Nat.reduceEqDiff, Nat.reduceMul, Int.reduceToNat, reduceIte, Int.reduceLE, Int.reduceNeg, killS_app, A.kill, jq, b4q, b6q, if_false, h0, h4, h6, hm4, hm6, cExpr, cShape]; rfl) ?_
      refine runk_callE (D := [q]) rfl rfl rfl rfl rfl (fun i hi => by simp at hi; subst hi; exact nkq) (by simp) (cvs_cons cv_refl (cvs_cons cv_refl cvs_nil)) (layM h1 u' bs' [⟨#[100, 101, 99, 108, 97, 115, 115, 105, 102, 121, 40]⟩] (by simp) (Nat.le_of_ble_eq_true rfl) (by have hf := hfit; simp [txtB] at hf ⊢; omega)) ?_
      simp only [killL, putS]
      refine runk_exec (by simp only [exa, beq_self_eq_true, ByteArray.size, Nat.reduceAdd, Nat.reduceLeDiff, Nat.reduceEqDiff, Nat.reduceMul, Int.reduceToNat, reduceIte, Int.reduceLE, Int.reduceNeg]; rfl) ?_
      (repeat (first | refine W.seq ?_ | refine W.block ?_ | refine W.skip ?_))
      refine W.regionK tab_ok b (by decide) ?_
      refine runk_split 3 (by simp only [exa, beq_self_eq_true, ByteArray.size, Nat.reduceAdd, Nat.reduceLeDiff, Nat.reduceEqDiff, Nat.reduceMul, Int.reduceToNat, reduceIte, Int.reduceLE, Int.reduceNeg, killS_app, A.kill, jq, b4q, b6q, if_false, h0, h4, h6, hm4, hm6, cExpr, cShape, cExprs]; rfl) ?_
      refine runk_callE (D := [q]) rfl rfl rfl rfl rfl (fun i hi => by simp at hi; subst hi; exact nkq) (by simp) (cvs_cons cv_refl (cvs_cons cv_refl (cvs_cons cv_refl cvs_nil))) (listM h1 f1 (l := [y]) (fun y hy => hE y (by simp [hy])) (Nat.le_trans hlen (by decide)) true (bs' ++ txtB [⟨#[100, 101, 99, 108, 97, 115, 115, 105, 102, 121, 40]⟩]) ⟨#[41]⟩ (by show _ + _ + 1 ≤ _; have hf := hfit; simp [txtB] at hf ⊢; omega)) ?_
      simp only [killL, putS]
      refine runk_exec (by simp only [exa, beq_self_eq_true, ByteArray.size, Nat.reduceAdd, Nat.reduceLeDiff, Nat.reduceEqDiff, Nat.reduceMul, Int.reduceToNat, reduceIte, Int.reduceLE, Int.reduceNeg]; rfl) ?_
      refine fin _ _ (by simp [txtB]) ?_
      repeat (first | exact keeps_refl _ | refine keeps_upd (by decide) ?_ | refine keeps_kill h1.ne ?_)
    · obtain ⟨⟨yk, yn, ym, ys⟩, ⟨zk, zn, zm, zs⟩, rfl⟩ : ∃ y y2, kids = [y, y2] := len2' hlo hhi
      have hT : textX ⟨13, n, nm, [⟨yk, yn, ym, ys⟩, ⟨zk, zn, zm, zs⟩]⟩ = exprX ⟨yk, yn, ym, ys⟩ 2 ++ [32, 43, 32] ++ exprX ⟨zk, zn, zm, zs⟩ 3 := by
        rw [textX_eq, ← kidX_at (l := [⟨yk, yn, ym, ys⟩, ⟨zk, zn, zm, zs⟩]) (i := 0) rfl, ← kidX_at (l := [⟨yk, yn, ym, ys⟩, ⟨zk, zn, zm, zs⟩]) (i := 1) rfl]; rfl
      rw [hT] at hfit fin
      have hlv : (shapeOf 13).1.level = 2 := rfl
      have hsg : (shapeOf 13).1.sign = ⟨#[32, 43, 32]⟩ := rfl
      rw [hlv, hsg] at hm6
      repeat (first | refine W.seq ?_ | refine W.block ?_ | refine W.skip ?_ | refine W.exit ?_ | refine W.region tab_ok b (by decide) (exec_run (by simp only [exa, beq_self_eq_true, ByteArray.size, Nat.reduceAdd, Nat.reduceLeDiff, Nat.reduceEqDiff, Nat.reduceMul, Int.reduceToNat, reduceIte, Int.reduceLE, Int.reduceNeg, h0, h4, h6, hm4, hm6]; rfl)) ?_)
      iterate 12 (refine W.cond rfl (fun h => absurd h (by decide)) (fun _ => ?_); repeat (first | refine W.seq ?_ | refine W.block ?_ | refine W.skip ?_ | refine W.exit ?_ | refine W.region tab_ok b (by decide) (exec_run (by simp only [exa, beq_self_eq_true, ByteArray.size, Nat.reduceAdd, Nat.reduceLeDiff, Nat.reduceEqDiff, Nat.reduceMul, Int.reduceToNat, reduceIte, Int.reduceLE, Int.reduceNeg, h0, h4, h6, hm4, hm6]; rfl)) ?_))
      refine W.regionDK tab_ok b follows_mixed (by kernel_rfl) (by decide) ?_
      refine runk_split 8 (by simp only [exa, beq_self_eq_true, ByteArray.size, Nat.reduceAdd, Nat.reduceLeDiff, Nat.reduceEqDiff, Nat.reduceMul, Int.reduceToNat, reduceIte, Int.reduceLE, Int.reduceNeg, killS_app, A.kill, jq, b4q, b6q, if_false, h0, h4, h6, hm4, hm6, cExpr, cShape, cExprs]; rfl) ?_
      refine runk_callE (D := [q]) rfl rfl rfl rfl rfl (fun i hi => by simp at hi; subst hi; exact nkq) (by simp) (cvs_cons cv_refl (cvs_cons cv_refl (cvs_cons cv_refl cvs_nil))) (exprM h1 f1 (hE ⟨yk, yn, ym, ys⟩ (by simp)) u' bs' 2 (by have hf := hfit; simp [txtB] at hf ⊢; omega)) ?_
      simp only [killL, putS]
      refine runk_exec (by simp only [exa, beq_self_eq_true, ByteArray.size, Nat.reduceAdd, Nat.reduceLeDiff, Nat.reduceEqDiff, Nat.reduceMul, Int.reduceToNat, reduceIte, Int.reduceLE, Int.reduceNeg]; rfl) ?_
      (repeat (first | refine W.seq ?_ | refine W.block ?_ | refine W.skip ?_))
      refine W.regionK tab_ok b (by decide) ?_
      refine runk_split 4 (by simp only [exa, beq_self_eq_true, ByteArray.size, Nat.reduceAdd, Nat.reduceLeDiff, Nat.reduceEqDiff, Nat.reduceMul, Int.reduceToNat, reduceIte, Int.reduceLE, Int.reduceNeg, killS_app, A.kill, jq, b4q, b6q, if_false, h0, h4, h6, hm4, hm6, cExpr, cShape]; rfl) ?_
      refine runk_callE (D := [q]) rfl rfl rfl rfl rfl (fun i hi => by simp at hi; subst hi; exact nkq) (by simp) (cvs_cons cv_refl (cvs_cons cv_refl cvs_nil)) (layM h1 true (bs' ++ exprX ⟨yk, yn, ym, ys⟩ 2) [⟨#[32, 43, 32]⟩] (by simp) (Nat.le_of_ble_eq_true rfl) (by have hf := hfit; simp [txtB] at hf ⊢; omega)) ?_
      simp only [killL, putS]
      refine runk_exec (by simp only [exa, beq_self_eq_true, ByteArray.size, Nat.reduceAdd, Nat.reduceLeDiff, Nat.reduceEqDiff, Nat.reduceMul, Int.reduceToNat, reduceIte, Int.reduceLE, Int.reduceNeg]; rfl) ?_
      (repeat (first | refine W.seq ?_ | refine W.block ?_ | refine W.skip ?_))
      refine W.regionDK tab_ok b follows_mixed (by kernel_rfl) (by decide) ?_
      refine runk_split 8 (by simp only [exa, beq_self_eq_true, ByteArray.size, Nat.reduceAdd, Nat.reduceLeDiff, Nat.reduceEqDiff, Nat.reduceMul, Int.reduceToNat, reduceIte, Int.reduceLE, Int.reduceNeg, killS_app, A.kill, jq, b4q, b6q, if_false, h0, h4, h6, hm4, hm6, cExpr, cShape, cExprs]; rfl) ?_
      refine runk_callE (D := [q]) rfl rfl rfl rfl rfl (fun i hi => by simp at hi; subst hi; exact nkq) (by simp) (cvs_cons cv_refl (cvs_cons cv_refl (cvs_cons cv_refl cvs_nil))) (exprM h1 f1 (hE ⟨zk, zn, zm, zs⟩ (by simp)) true (bs' ++ exprX ⟨yk, yn, ym, ys⟩ 2 ++ txtB [⟨#[32, 43, 32]⟩]) 3 (by have hf := hfit; simp [txtB] at hf ⊢; omega)) ?_
      simp only [killL, putS]
      refine runk_exec (by simp only [exa, beq_self_eq_true, ByteArray.size, Nat.reduceAdd, Nat.reduceLeDiff, Nat.reduceEqDiff, Nat.reduceMul, Int.reduceToNat, reduceIte, Int.reduceLE, Int.reduceNeg]; rfl) ?_
      refine fin _ _ (by simp [txtB]) ?_
      repeat (first | exact keeps_refl _ | refine keeps_upd (by decide) ?_ | refine keeps_kill h1.ne ?_)
    · obtain ⟨⟨yk, yn, ym, ys⟩, ⟨zk, zn, zm, zs⟩, rfl⟩ : ∃ y y2, kids = [y, y2] := len2' hlo hhi
      have hT : textX ⟨14, n, nm, [⟨yk, yn, ym, ys⟩, ⟨zk, zn, zm, zs⟩]⟩ = exprX ⟨yk, yn, ym, ys⟩ 2 ++ [32, 45, 32] ++ exprX ⟨zk, zn, zm, zs⟩ 3 := by
        rw [textX_eq, ← kidX_at (l := [⟨yk, yn, ym, ys⟩, ⟨zk, zn, zm, zs⟩]) (i := 0) rfl, ← kidX_at (l := [⟨yk, yn, ym, ys⟩, ⟨zk, zn, zm, zs⟩]) (i := 1) rfl]; rfl
      rw [hT] at hfit fin
      have hlv : (shapeOf 14).1.level = 2 := rfl
      have hsg : (shapeOf 14).1.sign = ⟨#[32, 45, 32]⟩ := rfl
      rw [hlv, hsg] at hm6
      repeat (first | refine W.seq ?_ | refine W.block ?_ | refine W.skip ?_ | refine W.exit ?_ | refine W.region tab_ok b (by decide) (exec_run (by simp only [exa, beq_self_eq_true, ByteArray.size, Nat.reduceAdd, Nat.reduceLeDiff, Nat.reduceEqDiff, Nat.reduceMul, Int.reduceToNat, reduceIte, Int.reduceLE, Int.reduceNeg, h0, h4, h6, hm4, hm6]; rfl)) ?_)
      iterate 12 (refine W.cond rfl (fun h => absurd h (by decide)) (fun _ => ?_); repeat (first | refine W.seq ?_ | refine W.block ?_ | refine W.skip ?_ | refine W.exit ?_ | refine W.region tab_ok b (by decide) (exec_run (by simp only [exa, beq_self_eq_true, ByteArray.size, Nat.reduceAdd, Nat.reduceLeDiff, Nat.reduceEqDiff, Nat.reduceMul, Int.reduceToNat, reduceIte, Int.reduceLE, Int.reduceNeg, h0, h4, h6, hm4, hm6]; rfl)) ?_))
      refine W.regionDK tab_ok b follows_mixed (by kernel_rfl) (by decide) ?_
      refine runk_split 8 (by simp only [exa, beq_self_eq_true, ByteArray.size, Nat.reduceAdd, Nat.reduceLeDiff, Nat.reduceEqDiff, Nat.reduceMul, Int.reduceToNat, reduceIte, Int.reduceLE, Int.reduceNeg, killS_app, A.kill, jq, b4q, b6q, if_false, h0, h4, h6, hm4, hm6, cExpr, cShape, cExprs]; rfl) ?_
      refine runk_callE (D := [q]) rfl rfl rfl rfl rfl (fun i hi => by simp at hi; subst hi; exact nkq) (by simp) (cvs_cons cv_refl (cvs_cons cv_refl (cvs_cons cv_refl cvs_nil))) (exprM h1 f1 (hE ⟨yk, yn, ym, ys⟩ (by simp)) u' bs' 2 (by have hf := hfit; simp [txtB] at hf ⊢; omega)) ?_
      simp only [killL, putS]
      refine runk_exec (by simp only [exa, beq_self_eq_true, ByteArray.size, Nat.reduceAdd, Nat.reduceLeDiff, Nat.reduceEqDiff, Nat.reduceMul, Int.reduceToNat, reduceIte, Int.reduceLE, Int.reduceNeg]; rfl) ?_
      (repeat (first | refine W.seq ?_ | refine W.block ?_ | refine W.skip ?_))
      refine W.regionK tab_ok b (by decide) ?_
      refine runk_split 4 (by simp only [exa, beq_self_eq_true, ByteArray.size, Nat.reduceAdd, Nat.reduceLeDiff, Nat.reduceEqDiff, Nat.reduceMul, Int.reduceToNat, reduceIte, Int.reduceLE, Int.reduceNeg, killS_app, A.kill, jq, b4q, b6q, if_false, h0, h4, h6, hm4, hm6, cExpr, cShape]; rfl) ?_
      refine runk_callE (D := [q]) rfl rfl rfl rfl rfl (fun i hi => by simp at hi; subst hi; exact nkq) (by simp) (cvs_cons cv_refl (cvs_cons cv_refl cvs_nil)) (layM h1 true (bs' ++ exprX ⟨yk, yn, ym, ys⟩ 2) [⟨#[32, 45, 32]⟩] (by simp) (Nat.le_of_ble_eq_true rfl) (by have hf := hfit; simp [txtB] at hf ⊢; omega)) ?_
      simp only [killL, putS]
      refine runk_exec (by simp only [exa, beq_self_eq_true, ByteArray.size, Nat.reduceAdd, Nat.reduceLeDiff, Nat.reduceEqDiff, Nat.reduceMul, Int.reduceToNat, reduceIte, Int.reduceLE, Int.reduceNeg]; rfl) ?_
      (repeat (first | refine W.seq ?_ | refine W.block ?_ | refine W.skip ?_))
      refine W.regionDK tab_ok b follows_mixed (by kernel_rfl) (by decide) ?_
      refine runk_split 8 (by simp only [exa, beq_self_eq_true, ByteArray.size, Nat.reduceAdd, Nat.reduceLeDiff, Nat.reduceEqDiff, Nat.reduceMul, Int.reduceToNat, reduceIte, Int.reduceLE, Int.reduceNeg, killS_app, A.kill, jq, b4q, b6q, if_false, h0, h4, h6, hm4, hm6, cExpr, cShape, cExprs]; rfl) ?_
      refine runk_callE (D := [q]) rfl rfl rfl rfl rfl (fun i hi => by simp at hi; subst hi; exact nkq) (by simp) (cvs_cons cv_refl (cvs_cons cv_refl (cvs_cons cv_refl cvs_nil))) (exprM h1 f1 (hE ⟨zk, zn, zm, zs⟩ (by simp)) true (bs' ++ exprX ⟨yk, yn, ym, ys⟩ 2 ++ txtB [⟨#[32, 45, 32]⟩]) 3 (by have hf := hfit; simp [txtB] at hf ⊢; omega)) ?_
      simp only [killL, putS]
      refine runk_exec (by simp only [exa, beq_self_eq_true, ByteArray.size, Nat.reduceAdd, Nat.reduceLeDiff, Nat.reduceEqDiff, Nat.reduceMul, Int.reduceToNat, reduceIte, Int.reduceLE, Int.reduceNeg]; rfl) ?_
      refine fin _ _ (by simp [txtB]) ?_
      repeat (first | exact keeps_refl _ | refine keeps_upd (by decide) ?_ | refine keeps_kill h1.ne ?_)
    · obtain ⟨⟨yk, yn, ym, ys⟩, ⟨zk, zn, zm, zs⟩, rfl⟩ : ∃ y y2, kids = [y, y2] := len2' hlo hhi
      have hT : textX ⟨15, n, nm, [⟨yk, yn, ym, ys⟩, ⟨zk, zn, zm, zs⟩]⟩ = exprX ⟨yk, yn, ym, ys⟩ 3 ++ [32, 42, 32] ++ exprX ⟨zk, zn, zm, zs⟩ 4 := by
        rw [textX_eq, ← kidX_at (l := [⟨yk, yn, ym, ys⟩, ⟨zk, zn, zm, zs⟩]) (i := 0) rfl, ← kidX_at (l := [⟨yk, yn, ym, ys⟩, ⟨zk, zn, zm, zs⟩]) (i := 1) rfl]; rfl
      rw [hT] at hfit fin
      have hlv : (shapeOf 15).1.level = 3 := rfl
      have hsg : (shapeOf 15).1.sign = ⟨#[32, 42, 32]⟩ := rfl
      rw [hlv, hsg] at hm6
      repeat (first | refine W.seq ?_ | refine W.block ?_ | refine W.skip ?_ | refine W.exit ?_ | refine W.region tab_ok b (by decide) (exec_run (by simp only [exa, beq_self_eq_true, ByteArray.size, Nat.reduceAdd, Nat.reduceLeDiff, Nat.reduceEqDiff, Nat.reduceMul, Int.reduceToNat, reduceIte, Int.reduceLE, Int.reduceNeg, h0, h4, h6, hm4, hm6]; rfl)) ?_)
      iterate 12 (refine W.cond rfl (fun h => absurd h (by decide)) (fun _ => ?_); repeat (first | refine W.seq ?_ | refine W.block ?_ | refine W.skip ?_ | refine W.exit ?_ | refine W.region tab_ok b (by decide) (exec_run (by simp only [exa, beq_self_eq_true, ByteArray.size, Nat.reduceAdd, Nat.reduceLeDiff, Nat.reduceEqDiff, Nat.reduceMul, Int.reduceToNat, reduceIte, Int.reduceLE, Int.reduceNeg, h0, h4, h6, hm4, hm6]; rfl)) ?_))
      refine W.regionDK tab_ok b follows_mixed (by kernel_rfl) (by decide) ?_
      refine runk_split 8 (by simp only [exa, beq_self_eq_true, ByteArray.size, Nat.reduceAdd, Nat.reduceLeDiff, Nat.reduceEqDiff, Nat.reduceMul, Int.reduceToNat, reduceIte, Int.reduceLE, Int.reduceNeg, killS_app, A.kill, jq, b4q, b6q, if_false, h0, h4, h6, hm4, hm6, cExpr, cShape, cExprs]; rfl) ?_
      refine runk_callE (D := [q]) rfl rfl rfl rfl rfl (fun i hi => by simp at hi; subst hi; exact nkq) (by simp) (cvs_cons cv_refl (cvs_cons cv_refl (cvs_cons cv_refl cvs_nil))) (exprM h1 f1 (hE ⟨yk, yn, ym, ys⟩ (by simp)) u' bs' 3 (by have hf := hfit; simp [txtB] at hf ⊢; omega)) ?_
      simp only [killL, putS]
      refine runk_exec (by simp only [exa, beq_self_eq_true, ByteArray.size, Nat.reduceAdd, Nat.reduceLeDiff, Nat.reduceEqDiff, Nat.reduceMul, Int.reduceToNat, reduceIte, Int.reduceLE, Int.reduceNeg]; rfl) ?_
      (repeat (first | refine W.seq ?_ | refine W.block ?_ | refine W.skip ?_))
      refine W.regionK tab_ok b (by decide) ?_
      refine runk_split 4 (by simp only [exa, beq_self_eq_true, ByteArray.size, Nat.reduceAdd, Nat.reduceLeDiff, Nat.reduceEqDiff, Nat.reduceMul, Int.reduceToNat, reduceIte, Int.reduceLE, Int.reduceNeg, killS_app, A.kill, jq, b4q, b6q, if_false, h0, h4, h6, hm4, hm6, cExpr, cShape]; rfl) ?_
      refine runk_callE (D := [q]) rfl rfl rfl rfl rfl (fun i hi => by simp at hi; subst hi; exact nkq) (by simp) (cvs_cons cv_refl (cvs_cons cv_refl cvs_nil)) (layM h1 true (bs' ++ exprX ⟨yk, yn, ym, ys⟩ 3) [⟨#[32, 42, 32]⟩] (by simp) (Nat.le_of_ble_eq_true rfl) (by have hf := hfit; simp [txtB] at hf ⊢; omega)) ?_
      simp only [killL, putS]
      refine runk_exec (by simp only [exa, beq_self_eq_true, ByteArray.size, Nat.reduceAdd, Nat.reduceLeDiff, Nat.reduceEqDiff, Nat.reduceMul, Int.reduceToNat, reduceIte, Int.reduceLE, Int.reduceNeg]; rfl) ?_
      (repeat (first | refine W.seq ?_ | refine W.block ?_ | refine W.skip ?_))
      refine W.regionDK tab_ok b follows_mixed (by kernel_rfl) (by decide) ?_
      refine runk_split 8 (by simp only [exa, beq_self_eq_true, ByteArray.size, Nat.reduceAdd, Nat.reduceLeDiff, Nat.reduceEqDiff, Nat.reduceMul, Int.reduceToNat, reduceIte, Int.reduceLE, Int.reduceNeg, killS_app, A.kill, jq, b4q, b6q, if_false, h0, h4, h6, hm4, hm6, cExpr, cShape, cExprs]; rfl) ?_
      refine runk_callE (D := [q]) rfl rfl rfl rfl rfl (fun i hi => by simp at hi; subst hi; exact nkq) (by simp) (cvs_cons cv_refl (cvs_cons cv_refl (cvs_cons cv_refl cvs_nil))) (exprM h1 f1 (hE ⟨zk, zn, zm, zs⟩ (by simp)) true (bs' ++ exprX ⟨yk, yn, ym, ys⟩ 3 ++ txtB [⟨#[32, 42, 32]⟩]) 4 (by have hf := hfit; simp [txtB] at hf ⊢; omega)) ?_
      simp only [killL, putS]
      refine runk_exec (by simp only [exa, beq_self_eq_true, ByteArray.size, Nat.reduceAdd, Nat.reduceLeDiff, Nat.reduceEqDiff, Nat.reduceMul, Int.reduceToNat, reduceIte, Int.reduceLE, Int.reduceNeg]; rfl) ?_
      refine fin _ _ (by simp [txtB]) ?_
      repeat (first | exact keeps_refl _ | refine keeps_upd (by decide) ?_ | refine keeps_kill h1.ne ?_)
    · obtain ⟨⟨yk, yn, ym, ys⟩, ⟨zk, zn, zm, zs⟩, rfl⟩ : ∃ y y2, kids = [y, y2] := len2' hlo hhi
      have hT : textX ⟨16, n, nm, [⟨yk, yn, ym, ys⟩, ⟨zk, zn, zm, zs⟩]⟩ = exprX ⟨yk, yn, ym, ys⟩ 3 ++ [32, 47, 32] ++ exprX ⟨zk, zn, zm, zs⟩ 4 := by
        rw [textX_eq, ← kidX_at (l := [⟨yk, yn, ym, ys⟩, ⟨zk, zn, zm, zs⟩]) (i := 0) rfl, ← kidX_at (l := [⟨yk, yn, ym, ys⟩, ⟨zk, zn, zm, zs⟩]) (i := 1) rfl]; rfl
      rw [hT] at hfit fin
      have hlv : (shapeOf 16).1.level = 3 := rfl
      have hsg : (shapeOf 16).1.sign = ⟨#[32, 47, 32]⟩ := rfl
      rw [hlv, hsg] at hm6
      repeat (first | refine W.seq ?_ | refine W.block ?_ | refine W.skip ?_ | refine W.exit ?_ | refine W.region tab_ok b (by decide) (exec_run (by simp only [exa, beq_self_eq_true, ByteArray.size, Nat.reduceAdd, Nat.reduceLeDiff, Nat.reduceEqDiff, Nat.reduceMul, Int.reduceToNat, reduceIte, Int.reduceLE, Int.reduceNeg, h0, h4, h6, hm4, hm6]; rfl)) ?_)
      iterate 12 (refine W.cond rfl (fun h => absurd h (by decide)) (fun _ => ?_); repeat (first | refine W.seq ?_ | refine W.block ?_ | refine W.skip ?_ | refine W.exit ?_ | refine W.region tab_ok b (by decide) (exec_run (by simp only [exa, beq_self_eq_true, ByteArray.size, Nat.reduceAdd, Nat.reduceLeDiff, Nat.reduceEqDiff, Nat.reduceMul, Int.reduceToNat, reduceIte, Int.reduceLE, Int.reduceNeg, h0, h4, h6, hm4, hm6]; rfl)) ?_))
      refine W.regionDK tab_ok b follows_mixed (by kernel_rfl) (by decide) ?_
      refine runk_split 8 (by simp only [exa, beq_self_eq_true, ByteArray.size, Nat.reduceAdd, Nat.reduceLeDiff, Nat.reduceEqDiff, Nat.reduceMul, Int.reduceToNat, reduceIte, Int.reduceLE, Int.reduceNeg, killS_app, A.kill, jq, b4q, b6q, if_false, h0, h4, h6, hm4, hm6, cExpr, cShape, cExprs]; rfl) ?_
      refine runk_callE (D := [q]) rfl rfl rfl rfl rfl (fun i hi => by simp at hi; subst hi; exact nkq) (by simp) (cvs_cons cv_refl (cvs_cons cv_refl (cvs_cons cv_refl cvs_nil))) (exprM h1 f1 (hE ⟨yk, yn, ym, ys⟩ (by simp)) u' bs' 3 (by have hf := hfit; simp [txtB] at hf ⊢; omega)) ?_
      simp only [killL, putS]
      refine runk_exec (by simp only [exa, beq_self_eq_true, ByteArray.size, Nat.reduceAdd, Nat.reduceLeDiff, Nat.reduceEqDiff, Nat.reduceMul, Int.reduceToNat, reduceIte, Int.reduceLE, Int.reduceNeg]; rfl) ?_
      (repeat (first | refine W.seq ?_ | refine W.block ?_ | refine W.skip ?_))
      refine W.regionK tab_ok b (by decide) ?_
      refine runk_split 4 (by simp only [exa, beq_self_eq_true, ByteArray.size, Nat.reduceAdd, Nat.reduceLeDiff, Nat.reduceEqDiff, Nat.reduceMul, Int.reduceToNat, reduceIte, Int.reduceLE, Int.reduceNeg, killS_app, A.kill, jq, b4q, b6q, if_false, h0, h4, h6, hm4, hm6, cExpr, cShape]; rfl) ?_
      refine runk_callE (D := [q]) rfl rfl rfl rfl rfl (fun i hi => by simp at hi; subst hi; exact nkq) (by simp) (cvs_cons cv_refl (cvs_cons cv_refl cvs_nil)) (layM h1 true (bs' ++ exprX ⟨yk, yn, ym, ys⟩ 3) [⟨#[32, 47, 32]⟩] (by simp) (Nat.le_of_ble_eq_true rfl) (by have hf := hfit; simp [txtB] at hf ⊢; omega)) ?_
      simp only [killL, putS]
      refine runk_exec (by simp only [exa, beq_self_eq_true, ByteArray.size, Nat.reduceAdd, Nat.reduceLeDiff, Nat.reduceEqDiff, Nat.reduceMul, Int.reduceToNat, reduceIte, Int.reduceLE, Int.reduceNeg]; rfl) ?_
      (repeat (first | refine W.seq ?_ | refine W.block ?_ | refine W.skip ?_))
      refine W.regionDK tab_ok b follows_mixed (by kernel_rfl) (by decide) ?_
      refine runk_split 8 (by simp only [exa, beq_self_eq_true, ByteArray.size, Nat.reduceAdd, Nat.reduceLeDiff, Nat.reduceEqDiff, Nat.reduceMul, Int.reduceToNat, reduceIte, Int.reduceLE, Int.reduceNeg, killS_app, A.kill, jq, b4q, b6q, if_false, h0, h4, h6, hm4, hm6, cExpr, cShape, cExprs]; rfl) ?_
      refine runk_callE (D := [q]) rfl rfl rfl rfl rfl (fun i hi => by simp at hi; subst hi; exact nkq) (by simp) (cvs_cons cv_refl (cvs_cons cv_refl (cvs_cons cv_refl cvs_nil))) (exprM h1 f1 (hE ⟨zk, zn, zm, zs⟩ (by simp)) true (bs' ++ exprX ⟨yk, yn, ym, ys⟩ 3 ++ txtB [⟨#[32, 47, 32]⟩]) 4 (by have hf := hfit; simp [txtB] at hf ⊢; omega)) ?_
      simp only [killL, putS]
      refine runk_exec (by simp only [exa, beq_self_eq_true, ByteArray.size, Nat.reduceAdd, Nat.reduceLeDiff, Nat.reduceEqDiff, Nat.reduceMul, Int.reduceToNat, reduceIte, Int.reduceLE, Int.reduceNeg]; rfl) ?_
      refine fin _ _ (by simp [txtB]) ?_
      repeat (first | exact keeps_refl _ | refine keeps_upd (by decide) ?_ | refine keeps_kill h1.ne ?_)
    · obtain ⟨⟨yk, yn, ym, ys⟩, ⟨zk, zn, zm, zs⟩, rfl⟩ : ∃ y y2, kids = [y, y2] := len2' hlo hhi
      have hT : textX ⟨17, n, nm, [⟨yk, yn, ym, ys⟩, ⟨zk, zn, zm, zs⟩]⟩ = exprX ⟨yk, yn, ym, ys⟩ 2 ++ [32, 60, 32] ++ exprX ⟨zk, zn, zm, zs⟩ 2 := by
        rw [textX_eq, ← kidX_at (l := [⟨yk, yn, ym, ys⟩, ⟨zk, zn, zm, zs⟩]) (i := 0) rfl, ← kidX_at (l := [⟨yk, yn, ym, ys⟩, ⟨zk, zn, zm, zs⟩]) (i := 1) rfl]; rfl
      rw [hT] at hfit fin
      have hlv : (shapeOf 17).1.level = 1 := rfl
      have hsg : (shapeOf 17).1.sign = ⟨#[32, 60, 32]⟩ := rfl
      rw [hlv, hsg] at hm6
      repeat (first | refine W.seq ?_ | refine W.block ?_ | refine W.skip ?_ | refine W.exit ?_ | refine W.region tab_ok b (by decide) (exec_run (by simp only [exa, beq_self_eq_true, ByteArray.size, Nat.reduceAdd, Nat.reduceLeDiff, Nat.reduceEqDiff, Nat.reduceMul, Int.reduceToNat, reduceIte, Int.reduceLE, Int.reduceNeg, h0, h4, h6, hm4, hm6]; rfl)) ?_)
      iterate 12 (refine W.cond rfl (fun h => absurd h (by decide)) (fun _ => ?_); repeat (first | refine W.seq ?_ | refine W.block ?_ | refine W.skip ?_ | refine W.exit ?_ | refine W.region tab_ok b (by decide) (exec_run (by simp only [exa, beq_self_eq_true, ByteArray.size, Nat.reduceAdd, Nat.reduceLeDiff, Nat.reduceEqDiff, Nat.reduceMul, Int.reduceToNat, reduceIte, Int.reduceLE, Int.reduceNeg, h0, h4, h6, hm4, hm6]; rfl)) ?_))
      refine W.regionDK tab_ok b follows_mixed (by kernel_rfl) (by decide) ?_
      refine runk_split 8 (by simp only [exa, beq_self_eq_true, ByteArray.size, Nat.reduceAdd, Nat.reduceLeDiff, Nat.reduceEqDiff, Nat.reduceMul, Int.reduceToNat, reduceIte, Int.reduceLE, Int.reduceNeg, killS_app, A.kill, jq, b4q, b6q, if_false, h0, h4, h6, hm4, hm6, cExpr, cShape, cExprs]; rfl) ?_
      refine runk_callE (D := [q]) rfl rfl rfl rfl rfl (fun i hi => by simp at hi; subst hi; exact nkq) (by simp) (cvs_cons cv_refl (cvs_cons cv_refl (cvs_cons cv_refl cvs_nil))) (exprM h1 f1 (hE ⟨yk, yn, ym, ys⟩ (by simp)) u' bs' 2 (by have hf := hfit; simp [txtB] at hf ⊢; omega)) ?_
      simp only [killL, putS]
      refine runk_exec (by simp only [exa, beq_self_eq_true, ByteArray.size, Nat.reduceAdd, Nat.reduceLeDiff, Nat.reduceEqDiff, Nat.reduceMul, Int.reduceToNat, reduceIte, Int.reduceLE, Int.reduceNeg]; rfl) ?_
      (repeat (first | refine W.seq ?_ | refine W.block ?_ | refine W.skip ?_))
      refine W.regionK tab_ok b (by decide) ?_
      refine runk_split 4 (by simp only [exa, beq_self_eq_true, ByteArray.size, Nat.reduceAdd, Nat.reduceLeDiff, Nat.reduceEqDiff, Nat.reduceMul, Int.reduceToNat, reduceIte, Int.reduceLE, Int.reduceNeg, killS_app, A.kill, jq, b4q, b6q, if_false, h0, h4, h6, hm4, hm6, cExpr, cShape]; rfl) ?_
      refine runk_callE (D := [q]) rfl rfl rfl rfl rfl (fun i hi => by simp at hi; subst hi; exact nkq) (by simp) (cvs_cons cv_refl (cvs_cons cv_refl cvs_nil)) (layM h1 true (bs' ++ exprX ⟨yk, yn, ym, ys⟩ 2) [⟨#[32, 60, 32]⟩] (by simp) (Nat.le_of_ble_eq_true rfl) (by have hf := hfit; simp [txtB] at hf ⊢; omega)) ?_
      simp only [killL, putS]
      refine runk_exec (by simp only [exa, beq_self_eq_true, ByteArray.size, Nat.reduceAdd, Nat.reduceLeDiff, Nat.reduceEqDiff, Nat.reduceMul, Int.reduceToNat, reduceIte, Int.reduceLE, Int.reduceNeg]; rfl) ?_
      (repeat (first | refine W.seq ?_ | refine W.block ?_ | refine W.skip ?_))
      refine W.regionDK tab_ok b follows_mixed (by kernel_rfl) (by decide) ?_
      refine runk_split 8 (by simp only [exa, beq_self_eq_true, ByteArray.size, Nat.reduceAdd, Nat.reduceLeDiff, Nat.reduceEqDiff, Nat.reduceMul, Int.reduceToNat, reduceIte, Int.reduceLE, Int.reduceNeg, killS_app, A.kill, jq, b4q, b6q, if_false, h0, h4, h6, hm4, hm6, cExpr, cShape, cExprs]; rfl) ?_
      refine runk_callE (D := [q]) rfl rfl rfl rfl rfl (fun i hi => by simp at hi; subst hi; exact nkq) (by simp) (cvs_cons cv_refl (cvs_cons cv_refl (cvs_cons cv_refl cvs_nil))) (exprM h1 f1 (hE ⟨zk, zn, zm, zs⟩ (by simp)) true (bs' ++ exprX ⟨yk, yn, ym, ys⟩ 2 ++ txtB [⟨#[32, 60, 32]⟩]) 2 (by have hf := hfit; simp [txtB] at hf ⊢; omega)) ?_
      simp only [killL, putS]
      refine runk_exec (by simp only [exa, beq_self_eq_true, ByteArray.size, Nat.reduceAdd, Nat.reduceLeDiff, Nat.reduceEqDiff, Nat.reduceMul, Int.reduceToNat, reduceIte, Int.reduceLE, Int.reduceNeg]; rfl) ?_
      refine fin _ _ (by simp [txtB]) ?_
      repeat (first | exact keeps_refl _ | refine keeps_upd (by decide) ?_ | refine keeps_kill h1.ne ?_)
    · obtain ⟨⟨yk, yn, ym, ys⟩, ⟨zk, zn, zm, zs⟩, rfl⟩ : ∃ y y2, kids = [y, y2] := len2' hlo hhi
      have hT : textX ⟨18, n, nm, [⟨yk, yn, ym, ys⟩, ⟨zk, zn, zm, zs⟩]⟩ = exprX ⟨yk, yn, ym, ys⟩ 2 ++ [32, 61, 61, 32] ++ exprX ⟨zk, zn, zm, zs⟩ 2 := by
        rw [textX_eq, ← kidX_at (l := [⟨yk, yn, ym, ys⟩, ⟨zk, zn, zm, zs⟩]) (i := 0) rfl, ← kidX_at (l := [⟨yk, yn, ym, ys⟩, ⟨zk, zn, zm, zs⟩]) (i := 1) rfl]; rfl
      rw [hT] at hfit fin
      have hlv : (shapeOf 18).1.level = 1 := rfl
      have hsg : (shapeOf 18).1.sign = ⟨#[32, 61, 61, 32]⟩ := rfl
      rw [hlv, hsg] at hm6
      repeat (first | refine W.seq ?_ | refine W.block ?_ | refine W.skip ?_ | refine W.exit ?_ | refine W.region tab_ok b (by decide) (exec_run (by simp only [exa, beq_self_eq_true, ByteArray.size, Nat.reduceAdd, Nat.reduceLeDiff, Nat.reduceEqDiff, Nat.reduceMul, Int.reduceToNat, reduceIte, Int.reduceLE, Int.reduceNeg, h0, h4, h6, hm4, hm6]; rfl)) ?_)
      iterate 12 (refine W.cond rfl (fun h => absurd h (by decide)) (fun _ => ?_); repeat (first | refine W.seq ?_ | refine W.block ?_ | refine W.skip ?_ | refine W.exit ?_ | refine W.region tab_ok b (by decide) (exec_run (by simp only [exa, beq_self_eq_true, ByteArray.size, Nat.reduceAdd, Nat.reduceLeDiff, Nat.reduceEqDiff, Nat.reduceMul, Int.reduceToNat, reduceIte, Int.reduceLE, Int.reduceNeg, h0, h4, h6, hm4, hm6]; rfl)) ?_))
      refine W.regionDK tab_ok b follows_mixed (by kernel_rfl) (by decide) ?_
      refine runk_split 8 (by simp only [exa, beq_self_eq_true, ByteArray.size, Nat.reduceAdd, Nat.reduceLeDiff, Nat.reduceEqDiff, Nat.reduceMul, Int.reduceToNat, reduceIte, Int.reduceLE, Int.reduceNeg, killS_app, A.kill, jq, b4q, b6q, if_false, h0, h4, h6, hm4, hm6, cExpr, cShape, cExprs]; rfl) ?_
      refine runk_callE (D := [q]) rfl rfl rfl rfl rfl (fun i hi => by simp at hi; subst hi; exact nkq) (by simp) (cvs_cons cv_refl (cvs_cons cv_refl (cvs_cons cv_refl cvs_nil))) (exprM h1 f1 (hE ⟨yk, yn, ym, ys⟩ (by simp)) u' bs' 2 (by have hf := hfit; simp [txtB] at hf ⊢; omega)) ?_
      simp only [killL, putS]
      refine runk_exec (by simp only [exa, beq_self_eq_true, ByteArray.size, Nat.reduceAdd, Nat.reduceLeDiff, Nat.reduceEqDiff, Nat.reduceMul, Int.reduceToNat, reduceIte, Int.reduceLE, Int.reduceNeg]; rfl) ?_
      (repeat (first | refine W.seq ?_ | refine W.block ?_ | refine W.skip ?_))
      refine W.regionK tab_ok b (by decide) ?_
      refine runk_split 4 (by simp only [exa, beq_self_eq_true, ByteArray.size, Nat.reduceAdd, Nat.reduceLeDiff, Nat.reduceEqDiff, Nat.reduceMul, Int.reduceToNat, reduceIte, Int.reduceLE, Int.reduceNeg, killS_app, A.kill, jq, b4q, b6q, if_false, h0, h4, h6, hm4, hm6, cExpr, cShape]; rfl) ?_
      refine runk_callE (D := [q]) rfl rfl rfl rfl rfl (fun i hi => by simp at hi; subst hi; exact nkq) (by simp) (cvs_cons cv_refl (cvs_cons cv_refl cvs_nil)) (layM h1 true (bs' ++ exprX ⟨yk, yn, ym, ys⟩ 2) [⟨#[32, 61, 61, 32]⟩] (by simp) (Nat.le_of_ble_eq_true rfl) (by have hf := hfit; simp [txtB] at hf ⊢; omega)) ?_
      simp only [killL, putS]
      refine runk_exec (by simp only [exa, beq_self_eq_true, ByteArray.size, Nat.reduceAdd, Nat.reduceLeDiff, Nat.reduceEqDiff, Nat.reduceMul, Int.reduceToNat, reduceIte, Int.reduceLE, Int.reduceNeg]; rfl) ?_
      (repeat (first | refine W.seq ?_ | refine W.block ?_ | refine W.skip ?_))
      refine W.regionDK tab_ok b follows_mixed (by kernel_rfl) (by decide) ?_
      refine runk_split 8 (by simp only [exa, beq_self_eq_true, ByteArray.size, Nat.reduceAdd, Nat.reduceLeDiff, Nat.reduceEqDiff, Nat.reduceMul, Int.reduceToNat, reduceIte, Int.reduceLE, Int.reduceNeg, killS_app, A.kill, jq, b4q, b6q, if_false, h0, h4, h6, hm4, hm6, cExpr, cShape, cExprs]; rfl) ?_
      refine runk_callE (D := [q]) rfl rfl rfl rfl rfl (fun i hi => by simp at hi; subst hi; exact nkq) (by simp) (cvs_cons cv_refl (cvs_cons cv_refl (cvs_cons cv_refl cvs_nil))) (exprM h1 f1 (hE ⟨zk, zn, zm, zs⟩ (by simp)) true (bs' ++ exprX ⟨yk, yn, ym, ys⟩ 2 ++ txtB [⟨#[32, 61, 61, 32]⟩]) 2 (by have hf := hfit; simp [txtB] at hf ⊢; omega)) ?_
      simp only [killL, putS]
      refine runk_exec (by simp only [exa, beq_self_eq_true, ByteArray.size, Nat.reduceAdd, Nat.reduceLeDiff, Nat.reduceEqDiff, Nat.reduceMul, Int.reduceToNat, reduceIte, Int.reduceLE, Int.reduceNeg]; rfl) ?_
      refine fin _ _ (by simp [txtB]) ?_
      repeat (first | exact keeps_refl _ | refine keeps_upd (by decide) ?_ | refine keeps_kill h1.ne ?_)
end V
end Go.Proofs.YtbmbmcdaabhgnaaDoor
end
section
set_option linter.unusedVariables false
set_option linter.unusedSimpArgs false
namespace Go.Proofs.YtbmbmcdaabhgnaaDoor
open Go.RowKit
set_option maxHeartbeats 2000000 in
set_option maxRecDepth 100000 in
theorem string_run (b g cap : Nat) (p t : Value) (cur : Array Value) (l : List UInt8) (w : World) (h0 : l ≠ []) (hbk : w.heap[b]? = some (.cells #[p, .slice (some ⟨g, 0, none⟩) l.length cap, t] 47 (0, 0))) (hg : w.heap[g]? = some (.cells cur 5 (0, 0)))
    (hnc : l.length ≤ cap) (hcm : cap ≤ maxLen) (hcs : cur.size = cap) (hcell : ∀ j x, l[j]? = some x → w.cell? ((⟨g, 0, none⟩ : Addr).add j) = some (.int .u8 x.toNat)) :
    Calls Tryd.prog 42 #[.pointer (some ⟨b, 0, none⟩)] w fun e w' => e = .returned (.string ⟨l.toArray⟩) ∧ w' = w.drew.freeze ⟨g, 0, none⟩ l.length := by
  have hl0 : l.length ≠ 0 := by simpa using h0
  have c1 : w.drew.cell? ⟨b, 1, none⟩ = some (.slice (some ⟨g, 0, none⟩) l.length cap) := by
    have : w.drew.heap[b]? = some (.cells #[p, .slice (some ⟨g, 0, none⟩) l.length cap, t] 47 (0, 0)) := hbk
    rw [Lib.cell_of_heap this]; rfl
  have hSD : (Builtin.unsafeSliceData_ #[43] 102 #[.slice (some ⟨g, 0, none⟩) l.length cap]).run Tryd.prog w.drew = .ok (.pointer (some ⟨g, 0, none⟩)) w.drew :=
    Lib.run_unsafeSliceData_row _ _ _ _ _ _ (by omega)
  have hUS : (Builtin.unsafeString_ #[102, 3] 9 #[.pointer (some ⟨g, 0, none⟩), .int .i64 l.length]).run Tryd.prog w.drew = .ok (.string ⟨l.toArray⟩) (w.drew.freeze ⟨g, 0, none⟩ l.length) := by
    refine Lib.run_unsafeString_row w.drew 102 3 9 5 Tryd.underlying102 (by kernel_rfl) g cur.size (by have hg' : w.drew.heap[g]? = some (.cells cur 5 (0, 0)) := hg; simp [World.shape?, hg']) l h0 (by omega) (by unfold maxLen at hcm; omega) ?_
    intro j x hx
    exact hcell j x hx
  clear hcell
  have mixed := V.follows_mixed
  go_enter Tryd.func42, Tryd.ntmps42
  go_wp2
  go_region_o
  all_goals (go_wp2; go_ret; exact ⟨rfl, rfl⟩)
namespace V
theorem freeze_cell (w : World) (a : Addr) (n : Nat) (p : Addr) : (w.freeze a n).cell? p = w.cell? p := by
  unfold World.freeze
  split
  · rfl
  · unfold World.cell?
    simp only [Array.getElem?_modify]
    by_cases e : a.block = p.block
    · rw [if_pos e]
      cases hh : w.heap[p.block]? with
      | none => rfl
      | some o => cases o <;> rfl
    · rw [if_neg e]
theorem freeze_other (w : World) (a : Addr) (n k : Nat) (h : k ≠ a.block) : (w.freeze a n).heap[k]? = w.heap[k]? := by
  unfold World.freeze
  split
  · rfl
  · simp only [Array.getElem?_modify]
    rw [if_neg (Ne.symm h)]
theorem flat_bytes : ∀ l : List UInt8, flat (cBytes l) = l.map fun b => C.int .u8 b.toNat
  | [] => rfl
  | y :: l => by
    have ih := flat_bytes l
    unfold flat cBytes at ih ⊢
    simp only [List.map_cons, List.flatten_cons, List.singleton_append]
    rw [ih]
theorem gone_wf {M : Mem} {q : Nat} (hw : WFm M) (hq : (M q).isSome = true) : WFm (upd (killM q M) q (some .gone)) := by
  have liv : ∀ i, (M i).isSome = true → (upd (killM q M) q (some O.gone) i).isSome = true := fun i hi => by
    unfold upd; split
    · rfl
    · simpa [killM_app] using hi
  intro i o ho k hk
  unfold upd at ho
  split at ho
  · cases ho; simp [O.ids] at hk
  · have ho : (M i).map (O.kill q) = some o := ho
    cases hm : M i with
    | none => rw [hm] at ho; cases ho
    | some o0 => rw [hm] at ho; cases ho; exact liv k (hw i o0 hm k (O.kill_ids k hk))
theorem string_ok {M : Mem} {j q : Nat} {u : Bool} {t : Int} {bs : List UInt8} (h : PgAt M j q u t bs) (h0 : bs ≠ []) (hlen : bs.length ≤ 140737488351232) : CallE Tryd.prog 42 [.ptr j 0] M [] (.c (.str ⟨bs.toArray⟩)) (upd (killM q M) q (some .gone)) := by
  have hqs : (M q).isSome = true := by rw [h.row]; rfl
  have liv : ∀ i, (M i).isSome = true → (upd (killM q M) q (some O.gone) i).isSome = true := fun i hi => by
    unfold upd; split
    · rfl
    · simpa [killM_app] using hi
  refine ⟨enters_of Tryd.func42 (by kernel_rfl) rfl, fun i hi => by simp [A.ids] at hi, liv, fun hw => gone_wf hw hqs, ?_⟩
  intro w0 I0 B I w vals hm hv
  match vals, hv with
  | [v], ⟨h1, _⟩ =>
    obtain ⟨b, vs, hB, hh, hvs, hno⟩ := hm.objs j _ h.box
    obtain ⟨b', hB', rfl⟩ := h1
    obtain rfl : b = b' := by rw [hB] at hB'; cases hB'; rfl
    obtain ⟨vsq, hown, hrc, hlx, hiff⟩ := hm.objs q _ h.row
    have hbl : (cBytes bs).length = bs.length := by unfold cBytes; rw [List.length_map]
    rw [hbl] at hown hiff
    match vs, hvs with
    | [x0, x1, x2], ⟨_, ⟨hx1, _⟩, _, _⟩ =>
      have hx1 : x1 = B q := hx1.1
      have hl0 : bs.length ≠ 0 := by simpa using h0
      rcases hown.2 with ⟨-, hz⟩ | ⟨g, cap, cur, hBq, hbg, hg, hnc, hcm, hcs, htake⟩
      · exact absurd hz hl0
      · rw [hBq] at hx1
        subst hx1
        have hcell : ∀ i x, bs[i]? = some x → w.cell? ((⟨g, 0, none⟩ : Addr).add i) = some (.int .u8 x.toNat) := by
          intro i x hx
          have hfl := flat_bytes bs
          rw [hfl] at hrc
          obtain ⟨v, hv1, hv2⟩ := hrc.at i (C.int .u8 x.toNat) (by simp [hx])
          rw [hBq] at hown
          have := hown.cells (g := g) rfl i v hv1
          rw [this, hv2.toInt.1]
        refine (string_run b g cap x0 x2 cur bs w h0 hh hg hnc hcm (by simpa using hcs) hcell).mono ?_
        rintro e w' ⟨rfl, rfl⟩
        have hE : Ext w (w.drew.freeze ⟨g, 0, none⟩ bs.length) I I := ⟨fun _ _ k => k, fun b o _ => by rw [freeze_cell]; rfl⟩
        have hfoot : ∀ k, foot B q (textB bs) k ↔ k = g := fun k => by
          show (B q).ownBlock = some k ↔ _
          rw [hBq]; simp [Value.ownBlock, eq_comm]
        have hr := hm.reval (id := q) (v' := B q) (o' := .gone) (w' := w.drew.freeze ⟨g, 0, none⟩ bs.length) (I' := I) h.row (by unfold World.freeze; split <;> rfl) (by unfold World.freeze; split <;> rfl) (by unfold World.freeze; split <;> rfl) (by unfold World.freeze; split; exact Nat.le_refl _; show w.heap.size ≤ (Array.modify w.drew.heap _ _).size; rw [Array.size_modify]; exact Nat.le_refl _) (fun b hb hnf => by
          rw [freeze_other _ _ _ _ (fun e => hnf ((hfoot b).2 e))]; rfl) (fun k hk => hk.elim) hE (fun _ _ k => .inl k) trivial (fun i hi => by simp [O.ids] at hi)
        have hBB : upd B q (B q) = B := upd_id B rfl
        rw [hBB] at hr
        exact ⟨_, B, I, rfl, hr, hE, fun _ _ _ => rfl, .str (by show bs.toArray.size ≤ maxStr; unfold maxStr; simpa using hlen)⟩
end V
end Go.Proofs.YtbmbmcdaabhgnaaDoor
end
section
set_option linter.unusedVariables false
set_option linter.unusedSimpArgs false
namespace Go.Proofs.YtbmbmcdaabhgnaaDoor
namespace V
open Go.RowKit
theorem len_ok {M : Mem} {j q : Nat} {u : Bool} {t : Int} {bs : List UInt8} (h : PgAt M j q u t bs) : CallE Tryd.prog 41 [.ptr j 0] M [] (.c (.int .i64 bs.length)) M := by
  have hjs : (M j).isSome = true := by rw [h.box]; rfl
  have hbx := h.box
  have hrw := h.row
  have hcb : (cBytes bs).length = bs.length := by unfold cBytes; rw [List.length_map]
  unfold pageB at hbx
  unfold textB at hrw
  refine (ok_eff tab_ok [] Tryd.func41 (by kernel_rfl) rfl rfl (by rfl) (by rfl) ?ids ?res ?sub ?wfm (fun hWF Rr hkeep => ?_))
  case ids => intro a ha i hi; simp at ha; subst ha; simp [A.ids] at hi; subst hi; exact hjs
  case res => intro i hi; simp [A.ids] at hi
  case sub => exact fun i hi => hi
  case wfm => exact fun hw => hw
  repeat (first | refine W.seq ?_ | refine W.block ?_ | refine W.skip ?_ | refine W.exit ?_ | refine W.region tab_ok 0 (by decide) (exec_run (by simp only [exa, beq_self_eq_true, ByteArray.size, Nat.reduceAdd, Nat.reduceLeDiff, Nat.reduceEqDiff, Nat.reduceMul, Int.reduceToNat, reduceIte, Int.reduceLE, Int.reduceNeg, hbx, hrw, hcb]; rfl)) ?_)
  refine W.ret ⟨.inr rfl, by rfl, ?_, ?mle⟩
  simp only [Tryd.f41, resE, resOne, fin, toT, exa, beq_self_eq_true, ByteArray.size, Nat.reduceAdd, Nat.reduceLeDiff, Nat.reduceEqDiff, Nat.reduceMul, Int.reduceToNat, reduceIte, Int.reduceLE, Int.reduceNeg]
  case mle => exact mle_refl _
def pgDoneM (M : Mem) (q : Nat) (bs : List UInt8) : Mem := if 8192 < bs.length then M else upd (killM q M) q (some .gone)
def pgDoneR (bs : List UInt8) : A := if 8192 < bs.length then .tupA [.c (.str ⟨#[]⟩), .c (.int .i64 2)] else .tupA [.c (.str ⟨bs.toArray⟩), .c (.int .i64 0)]
theorem done_ok {M : Mem} {j q : Nat} {u : Bool} {t : Int} {bs : List UInt8} (h : PgAt M j q u t bs) (h0 : bs ≠ []) (hlen : bs.length ≤ 140737488351232) : CallE Tryd.prog 17 [.ptr j 0] M [] (pgDoneR bs) (pgDoneM M q bs) := by
  have hjs : (M j).isSome = true := by rw [h.box]; rfl
  have hqs : (M q).isSome = true := by rw [h.row]; rfl
  refine (ok_eff tab_ok [] Tryd.func17 (by kernel_rfl) rfl rfl (by rfl) (by rfl) ?ids ?res ?sub ?wfm (fun hWF Rr hkeep => ?_))
  case ids => intro a ha i hi; simp at ha; subst ha; simp [A.ids] at hi; subst hi; exact hjs
  case res => intro i hi; unfold pgDoneR at hi; split at hi <;> simp [A.ids, A1.ids] at hi
  case sub =>
    intro i hi
    unfold pgDoneM
    split
    · exact hi
    · unfold upd; split
      · rfl
      · simpa [killM_app] using hi
  case wfm => intro hw; unfold pgDoneM; split; exact hw; exact gone_wf hw hqs
  repeat (first | refine W.seq ?_ | refine W.block ?_ | refine W.skip ?_ | refine W.exit ?_ | refine W.region tab_ok 0 (by decide) (exec_run (by simp only [exa, beq_self_eq_true, ByteArray.size, Nat.reduceAdd, Nat.reduceLeDiff, Nat.reduceEqDiff, Nat.reduceMul, Int.reduceToNat, reduceIte, Int.reduceLE, Int.reduceNeg]; rfl)) ?_)
  (repeat (first | refine W.seq ?_ | refine W.block ?_ | refine W.skip ?_))
  refine W.regionK tab_ok 0 (by decide) ?_
  refine runk_split 3 (by simp only [exa, beq_self_eq_true, ByteArray.size, Nat.reduceAdd, Nat.reduceLeDiff, Nat.reduceEqDiff, Nat.reduceMul, Int.reduceToNat, reduceIte, Int.reduceLE, Int.reduceNeg]; rfl) ?_
  refine runk_callE (D := []) rfl rfl rfl rfl rfl (fun j hj => by simp at hj) (by simp) (cvs_cons cv_refl cvs_nil) (len_ok h) ?_
  simp only [killL, putS, upd_upd]
  refine runk_exec (by simp only [exa, beq_self_eq_true, ByteArray.size, Nat.reduceAdd, Nat.reduceLeDiff, Nat.reduceEqDiff, Nat.reduceMul, Int.reduceToNat, reduceIte, Int.reduceLE, Int.reduceNeg]; rfl) ?_
  (repeat (first | refine W.seq ?_ | refine W.block ?_ | refine W.skip ?_))
  refine W.cond rfl ?_ ?_
  · intro hc
    have hc : 8192 < bs.length := by have := of_decide_eq_true hc; omega
    repeat (first | refine W.seq ?_ | refine W.block ?_ | refine W.skip ?_ | refine W.exit ?_ | refine W.region tab_ok 0 (by decide) (exec_run (by simp only [exa, beq_self_eq_true, ByteArray.size, Nat.reduceAdd, Nat.reduceLeDiff, Nat.reduceEqDiff, Nat.reduceMul, Int.reduceToNat, reduceIte, Int.reduceLE, Int.reduceNeg]; rfl)) ?_)
    refine W.ret ⟨.inr rfl, by rfl, ?_, ?mle⟩
    simp only [Tryd.f17, resE, resOne, fin, toT, exa, beq_self_eq_true, ByteArray.size, Nat.reduceAdd, Nat.reduceLeDiff, Nat.reduceEqDiff, Nat.reduceMul, Int.reduceToNat, reduceIte, Int.reduceLE, Int.reduceNeg]
    · simp only [pgDoneR, if_pos hc]
    case mle => unfold pgDoneM; rw [if_pos hc]; exact mle_refl _
  · intro hc
    have hc : ¬ 8192 < bs.length := by have := of_decide_eq_false hc; omega
    (repeat (first | refine W.seq ?_ | refine W.block ?_ | refine W.skip ?_))
    refine W.regionK tab_ok 0 (by decide) ?_
    refine runk_split 3 (by simp only [exa, beq_self_eq_true, ByteArray.size, Nat.reduceAdd, Nat.reduceLeDiff, Nat.reduceEqDiff, Nat.reduceMul, Int.reduceToNat, reduceIte, Int.reduceLE, Int.reduceNeg]; rfl) ?_
    refine runk_callE (D := []) rfl rfl rfl rfl rfl (fun j hj => by simp at hj) (by simp) (cvs_cons cv_refl cvs_nil) (string_ok h h0 hlen) ?_
    simp only [killL, putS, upd_upd]
    refine runk_exec (by simp only [exa, beq_self_eq_true, ByteArray.size, Nat.reduceAdd, Nat.reduceLeDiff, Nat.reduceEqDiff, Nat.reduceMul, Int.reduceToNat, reduceIte, Int.reduceLE, Int.reduceNeg]; rfl) ?_
    (repeat (first | refine W.seq ?_ | refine W.block ?_ | refine W.skip ?_))
    refine W.ret ⟨.inr rfl, by rfl, ?_, ?mle⟩
    simp only [Tryd.f17, resE, resOne, fin, toT, exa, beq_self_eq_true, ByteArray.size, Nat.reduceAdd, Nat.reduceLeDiff, Nat.reduceEqDiff, Nat.reduceMul, Int.reduceToNat, reduceIte, Int.reduceLE, Int.reduceNeg]
    · simp only [pgDoneR, if_neg hc]
    case mle => unfold pgDoneM; rw [if_neg hc]; exact mle_refl _
end V
end Go.Proofs.YtbmbmcdaabhgnaaDoor
end
section
set_option linter.unusedVariables false
set_option linter.unusedSimpArgs false
namespace Go.Proofs.YtbmbmcdaabhgnaaDoor
namespace V
open Go.RowKit
def nw : List UInt8 → Bool
  | [] => true
  | c :: _ => !withinB c
def blankB (c : UInt8) : Bool := c == 32 || c == 9 || c == 10
def consW (c : UInt8) : List (List UInt8) → List (List UInt8)
  | [] => [[c]]
  | w :: l => (c :: w) :: l
def tk : List UInt8 → List (List UInt8)
  | [] => []
  | c :: r => if withinB c then (if nw r then [c] :: tk r else consW c (tk r)) else if blankB c then tk r else [c] :: tk r
theorem tk_word : ∀ (w r : List UInt8), w ≠ [] → w.all withinB = true → nw r = true → tk (w ++ r) = w :: tk r
  | [], r, h, _, _ => absurd rfl h
  | [c], r, _, hw, hr => by
    have hc : withinB c = true := by simpa using hw
    show tk (c :: r) = _
    rw [tk, if_pos hc, if_pos hr]
  | c :: d :: w, r, _, hw, hr => by
    have hw2 := hw
    simp only [List.all_cons, Bool.and_eq_true] at hw
    obtain ⟨hc, hd, hr2⟩ := hw
    have ih := tk_word (d :: w) r (by simp) (by simp [hd, hr2]) hr
    show tk (c :: (d :: w ++ r)) = _
    rw [tk, if_pos hc, if_neg (by simp [nw, hd]), ih]
    rfl
theorem tk_sign {c : UInt8} (r : List UInt8) (h1 : withinB c = false) (h2 : blankB c = false) : tk (c :: r) = [c] :: tk r := by rw [tk, h1, h2]; rfl
theorem tk_blank {c : UInt8} (r : List UInt8) (h1 : withinB c = false) (h2 : blankB c = true) : tk (c :: r) = tk r := by rw [tk, h1, h2]; rfl
theorem name_tk {nm : ByteArray} (h : isNameB nm = true) : nm.data.toList ≠ [] ∧ nm.data.toList.all withinB = true ∧ isWordB nm.data.toList = false ∧ ∃ c r, nm.data.toList = c :: r ∧ letterB c = true := by
  unfold isNameB at h
  split at h
  · cases h
  · rename_i c r e
    simp only [Bool.and_eq_true, decide_eq_true_eq, Bool.not_eq_true'] at h
    obtain ⟨⟨⟨-, h2⟩, h3⟩, h4⟩ := h
    exact ⟨by rw [e]; simp, by rw [e]; simp [withinB, h2, h3], by rw [e]; exact h4, c, r, e, h2⟩
theorem dig_digits (u : Nat) : (Lib.decDigits u).all digitB = true ∧ Lib.decDigits u ≠ [] := by
  induction u using Nat.strongRecOn with
  | ind u ih =>
    unfold Lib.decDigits
    split
    · rename_i h
      refine ⟨?_, by simp⟩
      have : ∀ n, n < 10 → [UInt8.ofNat (48 + n)].all digitB = true := by decide
      simpa using this u h
    · rename_i h
      have h1 := (ih (u / 10) (by omega)).1
      have : ∀ n, n < 10 → [UInt8.ofNat (48 + n)].all digitB = true := by decide
      have h2 := this (u % 10) (Nat.mod_lt _ (by decide))
      refine ⟨?_, by simp⟩
      rw [List.all_append, h1]
      simpa using h2
def valD (l : List UInt8) : Nat := l.foldl (fun a c => 10 * a + (c.toNat - 48)) 0
theorem valD_dec (u : Nat) : valD (Lib.decDigits u) = u := by
  induction u using Nat.strongRecOn with
  | ind u ih =>
    unfold Lib.decDigits
    split
    · rename_i h
      have : ∀ n, n < 10 → valD [UInt8.ofNat (48 + n)] = n := by decide
      exact this u h
    · rename_i h
      have h1 := ih (u / 10) (by omega)
      have : ∀ n, n < 10 → (UInt8.ofNat (48 + n)).toNat - 48 = n := by decide
      have h2 := this (u % 10) (Nat.mod_lt _ (by decide))
      unfold valD at h1 ⊢
      rw [List.foldl_append, h1]
      simp only [List.foldl_cons, List.foldl_nil, h2]
      omega
theorem itoa_inj {n k : Int} (hn : 0 ≤ n) (hk : 0 ≤ k) (h : Lib.itoa n = Lib.itoa k) : n = k := by
  unfold Lib.itoa at h
  rw [if_neg (by omega), if_neg (by omega)] at h
  have := congrArg valD h
  rw [valD_dec, valD_dec] at this
  omega
theorem itoa_tk {n : Int} (hn : 0 ≤ n) : Lib.itoa n ≠ [] ∧ (Lib.itoa n).all digitB = true := by
  unfold Lib.itoa
  rw [if_neg (by omega)]
  exact ⟨(dig_digits _).2, (dig_digits _).1⟩
theorem digit_within {l : List UInt8} (h : l.all digitB = true) : l.all withinB = true := by
  rw [List.all_eq_true] at h ⊢
  intro c hc
  simp [withinB, h c hc]
def atT (want : Int) (p : Int × List (List UInt8)) : List (List UInt8) := if p.1 < want then [40] :: (p.2 ++ [[41]]) else p.2
def commaT : List (List (List UInt8)) → List (List UInt8)
  | [] => []
  | [s] => s
  | s :: l => s ++ [44] :: commaT l
def kidT (l : List (Int × List (List UInt8))) (i : Nat) (want : Int) : List (List UInt8) := match l[i]? with | some p => atT want p | none => []
def signT (k : Int) : List (List UInt8) := if k = 17 then [[60]] else if k = 18 then [[61], [61]] else if k = 13 then [[43]] else if k = 14 then [[45]] else if k = 15 then [[42]] else [[47]]
def bodyT (k n : Int) (nm : List UInt8) (l : List (Int × List (List UInt8))) : List (List UInt8) :=
  if k = 1 then [Lib.itoa n]
  else if k = 2 then [[110, 117, 108, 108]]
  else if k = 3 then [[116, 104, 105, 115]]
  else if k = 4 then [nm]
  else if k = 5 then [[110, 101, 119], nm, [40], [41]]
  else if k = 6 then [[110, 101, 119], [105, 110, 116], [91]] ++ commaT (l.map (atT 1)) ++ [[93]]
  else if k = 7 then kidT l 0 4 ++ [[46], nm]
  else if k = 8 then kidT l 0 4 ++ [91] :: (commaT ((l.drop 1).map (atT 1)) ++ [[93]])
  else if k = 9 then kidT l 0 4 ++ [[46], [108, 101, 110, 103, 116, 104]]
  else if k = 10 then kidT l 0 4 ++ [46] :: nm :: [40] :: (commaT ((l.drop 1).map (atT 1)) ++ [[41]])
  else if k = 11 then [[114, 101, 97, 100], [40], Lib.itoa n, [41]]
  else if k = 12 then [[100, 101, 99, 108, 97, 115, 115, 105, 102, 121], [40]] ++ commaT (l.map (atT 1)) ++ [[41]]
  else kidT l 0 (max (levX k) 2) ++ signT k ++ kidT l 1 (levX k + 1)
mutual
def tokX : Expr → List (List UInt8)
  | ⟨k, n, nm, kids⟩ => bodyT k n nm.data.toList (toksX kids)
def toksX : List Expr → List (Int × List (List UInt8))
  | [] => []
  | x :: l => (levX x.kind, tokX x) :: toksX l
end
theorem toksX_map (l : List Expr) : toksX l = l.map fun x => (levX x.kind, tokX x) := by induction l with | nil => simp [toksX] | cons x l ih => simp [toksX, ih]
def tokE (x : Expr) (want : Int) : List (List UInt8) := atT want (levX x.kind, tokX x)
def tokL (l : List Expr) : List (List UInt8) := commaT (l.map (tokE · 1))
theorem kidT_at {l : List Expr} {i : Nat} {x : Expr} (h : l[i]? = some x) (want : Int) : kidT (toksX l) i want = tokE x want := by
  unfold kidT
  rw [toksX_map, List.getElem?_map, h]
  rfl
theorem commaT_eq (l : List Expr) : commaT ((toksX l).map (atT 1)) = tokL l := by
  unfold tokL
  rw [toksX_map, List.map_map]
  rfl
theorem tokX_eq (x : Expr) : tokX x = bodyT x.kind x.num x.name.data.toList (toksX x.kids) := by cases x; simp [tokX]
theorem tk_exprX {x : Expr} (h : ∀ r, nw r = true → tk (textX x ++ r) = tokX x ++ tk r) (want : Int) (r : List UInt8) (hr : nw r = true) : tk (exprX x want ++ r) = tokE x want ++ tk r := by
  show tk ((if levX x.kind < want then 40 :: (textX x ++ [41]) else textX x) ++ r) = (if levX x.kind < want then [40] :: (tokX x ++ [[41]]) else tokX x) ++ tk r
  split
  · simp only [List.cons_append, List.append_assoc, List.nil_append]
    rw [tk_sign _ (by decide) (by decide), h _ (by rfl), tk_sign _ (by decide) (by decide)]
  · exact h r hr
theorem tk_listE : ∀ (l : List Expr), (∀ x ∈ l, ∀ r, nw r = true → tk (textX x ++ r) = tokX x ++ tk r) → ∀ r, nw r = true → tk (listE l ++ r) = tokL l ++ tk r
  | [], _, r, hr => by simp [listE, commaX, tokL, commaT]
  | [x], h, r, hr => by
    have := tk_exprX (h x (by simp)) 1 r hr
    simpa [listE, commaX, tokL, commaT] using this
  | x :: y :: l, h, r, hr => by
    have ih := tk_listE (y :: l) (fun z hz => h z (by simp [hz])) r hr
    have e1 : listE (x :: y :: l) = exprX x 1 ++ 44 :: 32 :: listE (y :: l) := rfl
    have e2 : tokL (x :: y :: l) = tokE x 1 ++ [44] :: tokL (y :: l) := rfl
    rw [e1, e2, List.append_assoc, tk_exprX (h x (by simp)) 1 _ (by rfl)]
    simp only [List.cons_append]
    rw [tk_sign _ (by decide) (by decide), tk_blank _ (by decide) (by decide), ih]
    simp
set_option maxHeartbeats 1000000 in
theorem tk_textX : ∀ (z : Nat) (x : Expr), SizeOf.sizeOf x ≤ z → exprB x = true → ∀ r, nw r = true → tk (textX x ++ r) = tokX x ++ tk r := by
  intro z
  induction z using Nat.strongRecOn with
  | ind z ih =>
  intro x hz hx r hr
  obtain ⟨k, n, nm, kids⟩ := x
  rw [exprB_eq] at hx
  obtain ⟨htop, hkids⟩ := Bool.and_eq_true_iff.1 hx
  have hA : ∀ y ∈ kids, ∀ r, nw r = true → tk (textX y ++ r) = tokX y ++ tk r := fun y hy => ih (SizeOf.sizeOf y) (by
    have h1 := List.sizeOf_lt_of_mem hy
    have h2 := Expr.mk.sizeOf_spec k n nm kids
    omega) y (Nat.le_refl _) (List.all_eq_true.1 hkids y hy)
  rw [exprTop_eq] at htop
  simp only [Bool.and_eq_true, decide_eq_true_eq] at htop
  obtain ⟨⟨⟨⟨⟨hkk, hlo⟩, hhi⟩, hn0⟩, hn1⟩, hnm⟩ := htop
  have hk : 1 ≤ k ∧ k ≤ 18 := by
    by_cases hk : 1 ≤ k ∧ k ≤ 18
    · exact hk
    · unfold shapeOf at hkk; rw [if_neg hk] at hkk; cases hkk
  have hE : ∀ y ∈ kids, ∀ want r, nw r = true → tk (exprX y want ++ r) = tokE y want ++ tk r := fun y hy want r hr => tk_exprX (hA y hy) want r hr
  have hL : ∀ l : List Expr, (∀ y ∈ l, y ∈ kids) → ∀ r, nw r = true → tk (listE l ++ r) = tokL l ++ tk r := fun l hl r hr => tk_listE l (fun y hy => hA y (hl y hy)) r hr
  have hD : 0 ≤ n → ∀ r, nw r = true → tk (Lib.itoa n ++ r) = Lib.itoa n :: tk r := fun h r hr => tk_word _ _ (itoa_tk h).1 (digit_within (itoa_tk h).2) hr
  clear ih hz hx hkids hA
  have hcase : k = 1 ∨ k = 2 ∨ k = 3 ∨ k = 4 ∨ k = 5 ∨ k = 6 ∨ k = 7 ∨ k = 8 ∨ k = 9 ∨ k = 10 ∨ k = 11 ∨ k = 12 ∨ k = 13 ∨ k = 14 ∨ k = 15 ∨ k = 16 ∨ k = 17 ∨ k = 18 := by omega
  rcases hcase with rfl | rfl | rfl | rfl | rfl | rfl | rfl | rfl | rfl | rfl | rfl | rfl | rfl | rfl | rfl | rfl | rfl | rfl
  · rw [textX_eq, tokX_eq]
    exact hD hn0 r hr
  · rw [textX_eq, tokX_eq]
    exact tk_word [110, 117, 108, 108] r (by decide) (by decide) hr
  · rw [textX_eq, tokX_eq]
    exact tk_word [116, 104, 105, 115] r (by decide) (by decide) hr
  · have hnm : isNameB nm = true := hnm
    obtain ⟨q1, q2, -⟩ := name_tk hnm
    rw [textX_eq, tokX_eq]
    exact tk_word nm.data.toList r q1 q2 hr
  · have hnm : isNameB nm = true := hnm
    obtain ⟨q1, q2, -⟩ := name_tk hnm
    rw [textX_eq, tokX_eq]
    show tk ([110, 101, 119] ++ (32 :: nm.data.toList ++ [40, 41]) ++ r) = [[110, 101, 119], nm.data.toList, [40], [41]] ++ tk r
    simp only [List.append_assoc, List.cons_append, List.nil_append]
    rw [show (110 :: 101 :: 119 :: 32 :: (nm.data.toList ++ 40 :: 41 :: r) : List UInt8) = [110, 101, 119] ++ 32 :: (nm.data.toList ++ 40 :: 41 :: r) from rfl]
    rw [tk_word [110, 101, 119] _ (by decide) (by decide) (by rfl), tk_blank _ (by decide) (by decide), tk_word _ _ q1 q2 (by rfl)]
    repeat (first | rw [tk_word _ _ (by decide) (by decide) (by rfl)] | rw [tk_sign _ (by decide) (by decide)] | rw [tk_blank _ (by decide) (by decide)])
  · obtain ⟨y, rfl⟩ : ∃ y, kids = [y] := len1 hlo hhi
    have hT : textX ⟨6, n, nm, [y]⟩ = [110, 101, 119] ++ 32 :: ([105, 110, 116] ++ 91 :: (listE [y] ++ [93])) := by rw [textX_eq, ← listX_eq]; rfl
    have hX : tokX ⟨6, n, nm, [y]⟩ = [[110, 101, 119], [105, 110, 116], [91]] ++ (tokL [y] ++ [[93]]) := by rw [tokX_eq, ← commaT_eq]; rfl
    rw [hT, hX, List.append_assoc, tk_word _ _ (by decide) (by decide) (by rfl), List.cons_append, tk_blank _ (by decide) (by decide), List.append_assoc, tk_word _ _ (by decide) (by decide) (by rfl), List.cons_append, tk_sign _ (by decide) (by decide), List.append_assoc, hL _ (by simp) _ (by rfl), List.cons_append, tk_sign _ (by decide) (by decide)]
    simp
  · obtain ⟨y, rfl⟩ : ∃ y, kids = [y] := len1 hlo hhi
    have hnm : isNameB nm = true := hnm
    obtain ⟨q1, q2, -⟩ := name_tk hnm
    have hT : textX ⟨7, n, nm, [y]⟩ = exprX y 4 ++ 46 :: nm.data.toList := by rw [textX_eq, ← kidX_at (l := [y]) (i := 0) rfl]; simp [bodyX]
    have hX : tokX ⟨7, n, nm, [y]⟩ = tokE y 4 ++ [[46], nm.data.toList] := by rw [tokX_eq, ← kidT_at (l := [y]) (i := 0) rfl]; rfl
    rw [hT, hX, List.append_assoc, hE y (by simp) _ _ (by rfl), List.cons_append, tk_sign _ (by decide) (by decide), tk_word _ _ q1 q2 hr]
    simp
  · obtain ⟨y, y2, rfl⟩ : ∃ y y2, kids = [y, y2] := len2' hlo hhi
    have hT : textX ⟨8, n, nm, [y, y2]⟩ = exprX y 4 ++ 91 :: (listE [y2] ++ [93]) := by rw [textX_eq, ← kidX_at (l := [y, y2]) (i := 0) rfl, ← listX_eq]; simp [bodyX, textsX]
    have hX : tokX ⟨8, n, nm, [y, y2]⟩ = tokE y 4 ++ [91] :: (tokL [y2] ++ [[93]]) := by rw [tokX_eq, ← kidT_at (l := [y, y2]) (i := 0) rfl, ← commaT_eq]; rfl
    rw [hT, hX, List.append_assoc, hE y (by simp) _ _ (by rfl), List.cons_append, tk_sign _ (by decide) (by decide), List.append_assoc, hL _ (by simp) _ (by rfl), List.cons_append, tk_sign _ (by decide) (by decide)]
    simp
  · obtain ⟨y, rfl⟩ : ∃ y, kids = [y] := len1 hlo hhi
    have hT : textX ⟨9, n, nm, [y]⟩ = exprX y 4 ++ 46 :: [108, 101, 110, 103, 116, 104] := by rw [textX_eq, ← kidX_at (l := [y]) (i := 0) rfl]; rfl
    have hX : tokX ⟨9, n, nm, [y]⟩ = tokE y 4 ++ [[46], [108, 101, 110, 103, 116, 104]] := by rw [tokX_eq, ← kidT_at (l := [y]) (i := 0) rfl]; rfl
    rw [hT, hX, List.append_assoc, hE y (by simp) _ _ (by rfl), List.cons_append, tk_sign _ (by decide) (by decide), tk_word _ _ (by decide) (by decide) hr]
    simp
  · obtain ⟨y, l, rfl, hlen⟩ : ∃ y l, kids = y :: l ∧ l.length ≤ 100 := len5 hlo hhi
    have hnm : isNameB nm = true := hnm
    obtain ⟨q1, q2, -⟩ := name_tk hnm
    have hT : textX ⟨10, n, nm, y :: l⟩ = exprX y 4 ++ 46 :: (nm.data.toList ++ 40 :: (listE l ++ [41])) := by rw [textX_eq, ← kidX_at (l := y :: l) (i := 0) rfl, ← listX_eq]; simp [bodyX, textsX]
    have hX : tokX ⟨10, n, nm, y :: l⟩ = tokE y 4 ++ [46] :: nm.data.toList :: [40] :: (tokL l ++ [[41]]) := by rw [tokX_eq, ← kidT_at (l := y :: l) (i := 0) rfl, ← commaT_eq]; rfl
    rw [hT, hX, List.append_assoc, hE y (by simp) _ _ (by rfl), List.cons_append, tk_sign _ (by decide) (by decide), List.append_assoc, tk_word _ _ q1 q2 (by rfl), List.cons_append, tk_sign _ (by decide) (by decide), List.append_assoc, hL _ (fun z hz => by simp [hz]) _ (by rfl), List.cons_append, tk_sign _ (by decide) (by decide)]
    simp
  · have hT : textX ⟨11, n, nm, kids⟩ = [114, 101, 97, 100] ++ 40 :: (Lib.itoa n ++ [41]) := by rw [textX_eq]; simp [bodyX]
    have hX : tokX ⟨11, n, nm, kids⟩ = [[114, 101, 97, 100], [40], Lib.itoa n, [41]] := by rw [tokX_eq]; rfl
    rw [hT, hX, List.append_assoc, tk_word _ _ (by decide) (by decide) (by rfl), List.cons_append, tk_sign _ (by decide) (by decide), List.append_assoc, hD hn0 _ (by rfl), List.cons_append, tk_sign _ (by decide) (by decide)]
    simp
  · obtain ⟨y, rfl⟩ : ∃ y, kids = [y] := len1 hlo hhi
    have hT : textX ⟨12, n, nm, [y]⟩ = [100, 101, 99, 108, 97, 115, 115, 105, 102, 121] ++ 40 :: (listE [y] ++ [41]) := by rw [textX_eq, ← listX_eq]; rfl
    have hX : tokX ⟨12, n, nm, [y]⟩ = [[100, 101, 99, 108, 97, 115, 115, 105, 102, 121], [40]] ++ (tokL [y] ++ [[41]]) := by rw [tokX_eq, ← commaT_eq]; rfl
    rw [hT, hX, List.append_assoc, tk_word _ _ (by decide) (by decide) (by rfl), List.cons_append, tk_sign _ (by decide) (by decide), List.append_assoc, hL _ (by simp) _ (by rfl), List.cons_append, tk_sign _ (by decide) (by decide)]
    simp
  · obtain ⟨y, y2, rfl⟩ : ∃ y y2, kids = [y, y2] := len2' hlo hhi
    have hT : textX ⟨13, n, nm, [y, y2]⟩ = exprX y 2 ++ [32, 43, 32] ++ exprX y2 3 := by
      rw [textX_eq, ← kidX_at (l := [y, y2]) (i := 0) rfl, ← kidX_at (l := [y, y2]) (i := 1) rfl]; rfl
    have hX : tokX ⟨13, n, nm, [y, y2]⟩ = tokE y 2 ++ [[43]] ++ tokE y2 3 := by
      rw [tokX_eq, ← kidT_at (l := [y, y2]) (i := 0) rfl, ← kidT_at (l := [y, y2]) (i := 1) rfl]; rfl
    rw [hT, hX]
    simp only [List.append_assoc, List.cons_append, List.nil_append]
    rw [hE y (by simp) _ _ (by rfl)]
    repeat (first | rw [tk_word _ _ (by decide) (by decide) (by rfl)] | rw [tk_sign _ (by decide) (by decide)] | rw [tk_blank _ (by decide) (by decide)])
    rw [hE y2 (by simp) _ _ hr]
  · obtain ⟨y, y2, rfl⟩ : ∃ y y2, kids = [y, y2] := len2' hlo hhi
    have hT : textX ⟨14, n, nm, [y, y2]⟩ = exprX y 2 ++ [32, 45, 32] ++ exprX y2 3 := by
      rw [textX_eq, ← kidX_at (l := [y, y2]) (i := 0) rfl, ← kidX_at (l := [y, y2]) (i := 1) rfl]; rfl
    have hX : tokX ⟨14, n, nm, [y, y2]⟩ = tokE y 2 ++ [[45]] ++ tokE y2 3 := by
      rw [tokX_eq, ← kidT_at (l := [y, y2]) (i := 0) rfl, ← kidT_at (l := [y, y2]) (i := 1) rfl]; rfl
    rw [hT, hX]
    simp only [List.append_assoc, List.cons_append, List.nil_append]
    rw [hE y (by simp) _ _ (by rfl)]
    repeat (first | rw [tk_word _ _ (by decide) (by decide) (by rfl)] | rw [tk_sign _ (by decide) (by decide)] | rw [tk_blank _ (by decide) (by decide)])
    rw [hE y2 (by simp) _ _ hr]
  · obtain ⟨y, y2, rfl⟩ : ∃ y y2, kids = [y, y2] := len2' hlo hhi
    have hT : textX ⟨15, n, nm, [y, y2]⟩ = exprX y 3 ++ [32, 42, 32] ++ exprX y2 4 := by
      rw [textX_eq, ← kidX_at (l := [y, y2]) (i := 0) rfl, ← kidX_at (l := [y, y2]) (i := 1) rfl]; rfl
    have hX : tokX ⟨15, n, nm, [y, y2]⟩ = tokE y 3 ++ [[42]] ++ tokE y2 4 := by
      rw [tokX_eq, ← kidT_at (l := [y, y2]) (i := 0) rfl, ← kidT_at (l := [y, y2]) (i := 1) rfl]; rfl
    rw [hT, hX]
    simp only [List.append_assoc, List.cons_append, List.nil_append]
    rw [hE y (by simp) _ _ (by rfl)]
    repeat (first | rw [tk_word _ _ (by decide) (by decide) (by rfl)] | rw [tk_sign _ (by decide) (by decide)] | rw [tk_blank _ (by decide) (by decide)])
    rw [hE y2 (by simp) _ _ hr]
  · obtain ⟨y, y2, rfl⟩ : ∃ y y2, kids = [y, y2] := len2' hlo hhi
    have hT : textX ⟨16, n, nm, [y, y2]⟩ = exprX y 3 ++ [32, 47, 32] ++ exprX y2 4 := by
      rw [textX_eq, ← kidX_at (l := [y, y2]) (i := 0) rfl, ← kidX_at (l := [y, y2]) (i := 1) rfl]; rfl
    have hX : tokX ⟨16, n, nm, [y, y2]⟩ = tokE y 3 ++ [[47]] ++ tokE y2 4 := by
      rw [tokX_eq, ← kidT_at (l := [y, y2]) (i := 0) rfl, ← kidT_at (l := [y, y2]) (i := 1) rfl]; rfl
    rw [hT, hX]
    simp only [List.append_assoc, List.cons_append, List.nil_append]
    rw [hE y (by simp) _ _ (by rfl)]
    repeat (first | rw [tk_word _ _ (by decide) (by decide) (by rfl)] | rw [tk_sign _ (by decide) (by decide)] | rw [tk_blank _ (by decide) (by decide)])
    rw [hE y2 (by simp) _ _ hr]
  · obtain ⟨y, y2, rfl⟩ : ∃ y y2, kids = [y, y2] := len2' hlo hhi
    have hT : textX ⟨17, n, nm, [y, y2]⟩ = exprX y 2 ++ [32, 60, 32] ++ exprX y2 2 := by
      rw [textX_eq, ← kidX_at (l := [y, y2]) (i := 0) rfl, ← kidX_at (l := [y, y2]) (i := 1) rfl]; rfl
    have hX : tokX ⟨17, n, nm, [y, y2]⟩ = tokE y 2 ++ [[60]] ++ tokE y2 2 := by
      rw [tokX_eq, ← kidT_at (l := [y, y2]) (i := 0) rfl, ← kidT_at (l := [y, y2]) (i := 1) rfl]; rfl
    rw [hT, hX]
    simp only [List.append_assoc, List.cons_append, List.nil_append]
    rw [hE y (by simp) _ _ (by rfl)]
    repeat (first | rw [tk_word _ _ (by decide) (by decide) (by rfl)] | rw [tk_sign _ (by decide) (by decide)] | rw [tk_blank _ (by decide) (by decide)])
    rw [hE y2 (by simp) _ _ hr]
  · obtain ⟨y, y2, rfl⟩ : ∃ y y2, kids = [y, y2] := len2' hlo hhi
    have hT : textX ⟨18, n, nm, [y, y2]⟩ = exprX y 2 ++ [32, 61, 61, 32] ++ exprX y2 2 := by
      rw [textX_eq, ← kidX_at (l := [y, y2]) (i := 0) rfl, ← kidX_at (l := [y, y2]) (i := 1) rfl]; rfl
    have hX : tokX ⟨18, n, nm, [y, y2]⟩ = tokE y 2 ++ [[61], [61]] ++ tokE y2 2 := by
      rw [tokX_eq, ← kidT_at (l := [y, y2]) (i := 0) rfl, ← kidT_at (l := [y, y2]) (i := 1) rfl]; rfl
    rw [hT, hX]
    simp only [List.append_assoc, List.cons_append, List.nil_append]
    rw [hE y (by simp) _ _ (by rfl)]
    repeat (first | rw [tk_word _ _ (by decide) (by decide) (by rfl)] | rw [tk_sign _ (by decide) (by decide)] | rw [tk_blank _ (by decide) (by decide)])
    rw [hE y2 (by simp) _ _ hr]
end V
end Go.Proofs.YtbmbmcdaabhgnaaDoor
end
section
set_option linter.unusedVariables false
set_option linter.unusedSimpArgs false
namespace Go.Proofs.YtbmbmcdaabhgnaaDoor
namespace V
open Go.RowKit
abbrev e0 : ByteArray := ⟨#[]⟩
inductive Sh : Expr → Prop
  | lit (n : Int) (h : 0 ≤ n) : Sh ⟨1, n, e0, []⟩
  | nil : Sh ⟨2, 0, e0, []⟩
  | this : Sh ⟨3, 0, e0, []⟩
  | var (nm : ByteArray) (h : isNameB nm = true) : Sh ⟨4, 0, nm, []⟩
  | new (nm : ByteArray) (h : isNameB nm = true) : Sh ⟨5, 0, nm, []⟩
  | arr (y : Expr) (hy : exprB y = true) : Sh ⟨6, 0, e0, [y]⟩
  | fld (nm : ByteArray) (y : Expr) (h : isNameB nm = true) (hy : exprB y = true) : Sh ⟨7, 0, nm, [y]⟩
  | elem (y z : Expr) (hy : exprB y = true) (hz : exprB z = true) : Sh ⟨8, 0, e0, [y, z]⟩
  | len (y : Expr) (hy : exprB y = true) : Sh ⟨9, 0, e0, [y]⟩
  | call (nm : ByteArray) (y : Expr) (l : List Expr) (h : isNameB nm = true) (hy : exprB y = true) (hl : ∀ z ∈ l, exprB z = true) : Sh ⟨10, 0, nm, y :: l⟩
  | read (n : Int) (h : 0 ≤ n) : Sh ⟨11, n, e0, []⟩
  | decl (y : Expr) (hy : exprB y = true) : Sh ⟨12, 0, e0, [y]⟩
  | bin (k : Int) (y z : Expr) (hk : 13 ≤ k ∧ k ≤ 18) (hy : exprB y = true) (hz : exprB z = true) : Sh ⟨k, 0, e0, [y, z]⟩
theorem empty_of {nm : ByteArray} (h : nm.data.toList.isEmpty = true) : nm = e0 := by
  have h := List.isEmpty_iff.1 h
  apply ByteArray.ext
  apply Array.ext'
  exact h
theorem len0E {kids : List Expr} (h2 : (kids.length : Int) ≤ 0) : kids = [] := List.length_eq_zero_iff.1 (by omega)
theorem sh_of {x : Expr} (hx : exprB x = true) : Sh x := by
  obtain ⟨k, n, nm, kids⟩ := x
  rw [exprB_eq] at hx
  obtain ⟨htop, hkids⟩ := Bool.and_eq_true_iff.1 hx
  have hA : ∀ y ∈ kids, exprB y = true := fun y hy => List.all_eq_true.1 hkids y hy
  rw [exprTop_eq] at htop
  simp only [Bool.and_eq_true, decide_eq_true_eq] at htop
  obtain ⟨⟨⟨⟨⟨hkk, hlo⟩, hhi⟩, hn0⟩, hn1⟩, hnm⟩ := htop
  have hk : 1 ≤ k ∧ k ≤ 18 := by
    by_cases hk : 1 ≤ k ∧ k ≤ 18
    · exact hk
    · unfold shapeOf at hkk; rw [if_neg hk] at hkk; cases hkk
  have hn0 : 0 ≤ n := hn0
  have hz : (shapeOf k).1.num = 0 → n = 0 := fun e => by
    have h1 : n ≤ (shapeOf k).1.num := hn1
    omega
  have hcase : k = 1 ∨ k = 2 ∨ k = 3 ∨ k = 4 ∨ k = 5 ∨ k = 6 ∨ k = 7 ∨ k = 8 ∨ k = 9 ∨ k = 10 ∨ k = 11 ∨ k = 12 ∨ k = 13 ∨ k = 14 ∨ k = 15 ∨ k = 16 ∨ k = 17 ∨ k = 18 := by omega
  rcases hcase with rfl | rfl | rfl | rfl | rfl | rfl | rfl | rfl | rfl | rfl | rfl | rfl | rfl | rfl | rfl | rfl | rfl | rfl
  · obtain rfl := len0E hhi; obtain rfl := empty_of (nm := nm) hnm; exact .lit n hn0
  · obtain rfl := len0E hhi; obtain rfl := empty_of (nm := nm) hnm; obtain rfl := hz rfl; exact .nil
  · obtain rfl := len0E hhi; obtain rfl := empty_of (nm := nm) hnm; obtain rfl := hz rfl; exact .this
  · obtain rfl := len0E hhi; obtain rfl := hz rfl; exact .var nm hnm
  · obtain rfl := len0E hhi; obtain rfl := hz rfl; exact .new nm hnm
  · obtain ⟨y, rfl⟩ := len1 hlo hhi; obtain rfl := empty_of (nm := nm) hnm; obtain rfl := hz rfl; exact .arr y (hA y (by simp))
  · obtain ⟨y, rfl⟩ := len1 hlo hhi; obtain rfl := hz rfl; exact .fld nm y hnm (hA y (by simp))
  · obtain ⟨y, z, rfl⟩ := len2' hlo hhi; obtain rfl := empty_of (nm := nm) hnm; obtain rfl := hz rfl; exact .elem y z (hA y (by simp)) (hA z (by simp))
  · obtain ⟨y, rfl⟩ := len1 hlo hhi; obtain rfl := empty_of (nm := nm) hnm; obtain rfl := hz rfl; exact .len y (hA y (by simp))
  · obtain ⟨y, l, rfl, -⟩ := len5 hlo hhi; obtain rfl := hz rfl; exact .call nm y l hnm (hA y (by simp)) (fun z hz => hA z (by simp [hz]))
  · obtain rfl := len0E hhi; obtain rfl := empty_of (nm := nm) hnm; exact .read n hn0
  · obtain ⟨y, rfl⟩ := len1 hlo hhi; obtain rfl := empty_of (nm := nm) hnm; obtain rfl := hz rfl; exact .decl y (hA y (by simp))
  all_goals
    obtain ⟨y, z, rfl⟩ := len2' hlo hhi
    obtain rfl := empty_of (nm := nm) hnm
    obtain rfl := hz rfl
    exact .bin _ y z (by decide) (hA y (by simp)) (hA z (by simp))
def fol (L : Nat) : List (List UInt8) → Bool
  | [] => true
  | t :: l => t != [46] && t != [91] && t != [40] && (L == 4 || (t != [42] && t != [47] && (L == 3 || (t != [43] && t != [45] && (L == 2 || (t != [60] && !(t == [61] && l.head? == some [61])))))))
def opL (L : Nat) (o : Int) : Prop := (L = 1 ∧ (o = 17 ∨ o = 18)) ∨ (L = 2 ∧ (o = 13 ∨ o = 14)) ∨ (L = 3 ∧ (o = 15 ∨ o = 16))
theorem fol_up {L : Nat} (h1 : 1 ≤ L) (h3 : L ≤ 3) {r : List (List UInt8)} (h : fol L r = true) : fol (L + 1) r = true := by
  cases r with
  | nil => rfl
  | cons t l =>
    have : L = 1 ∨ L = 2 ∨ L = 3 := by omega
    rcases this with rfl | rfl | rfl <;> simp [fol] at h ⊢ <;> simp [h]
def flatO (L : Nat) (l : List (Int × Expr)) : List (List UInt8) := l.flatMap fun p => signT p.1 ++ tokE p.2 ((L : Int) + 1)
theorem op_range {L : Nat} {o : Int} (h : opL L o) : 13 ≤ o ∧ o ≤ 18 := by unfold opL at h; omega
theorem fol_op {L : Nat} {o : Int} (h : opL L o) (r : List (List UInt8)) : fol (L + 1) (signT o ++ r) = true ∧ fol L (signT o ++ r) = false := by
  rcases h with ⟨rfl, rfl | rfl⟩ | ⟨rfl, rfl | rfl⟩ | ⟨rfl, rfl | rfl⟩ <;> exact ⟨rfl, rfl⟩
theorem op_inj {L : Nat} {o o' : Int} (h : opL L o) (h' : opL L o') {r s : List (List UInt8)} (e : signT o ++ r = signT o' ++ s) : o = o' ∧ r = s := by
  rcases h with ⟨rfl, rfl | rfl⟩ | ⟨rfl, rfl | rfl⟩ | ⟨rfl, rfl | rfl⟩ <;> rcases h' with ⟨h1, rfl | rfl⟩ | ⟨h1, rfl | rfl⟩ | ⟨h1, rfl | rfl⟩ <;> first | (exact absurd h1 (by decide)) | (simp [signT] at e; exact ⟨rfl, e⟩) | (simp [signT] at e)
def Jn (L : Nat) (x y : Expr) : Prop := ∀ r s, fol L r = true → fol L s = true → tokE x L ++ r = tokE y L ++ s → x = y ∧ r = s
theorem flatO_fol {L : Nat} (h1 : 1 ≤ L) (h3 : L ≤ 3) {l : List (Int × Expr)} (hl : ∀ p ∈ l, opL L p.1) {r : List (List UInt8)} (hr : fol L r = true) : fol (L + 1) (flatO L l ++ r) = true := by
  cases l with
  | nil => exact fol_up h1 h3 hr
  | cons p l =>
    have := (fol_op (hl p (by simp)) (tokE p.2 ((L : Int) + 1) ++ (flatO L l ++ r))).1
    simpa [flatO, List.append_assoc] using this
theorem flatO_inj {L : Nat} (h1 : 1 ≤ L) (h3 : L ≤ 3) : ∀ {l l' : List (Int × Expr)}, (∀ p ∈ l, opL L p.1) → (∀ p ∈ l', opL L p.1) → (∀ p ∈ l, ∀ p' ∈ l', Jn (L + 1) p.2 p'.2) → ∀ {r s : List (List UInt8)}, fol L r = true → fol L s = true → flatO L l ++ r = flatO L l' ++ s → l = l' ∧ r = s
  | [], [], _, _, _, r, s, _, _, e => ⟨rfl, by simpa [flatO] using e⟩
  | [], p :: l, _, h, _, r, s, hr, _, e => by
    have e : r = signT p.1 ++ (tokE p.2 ((L : Int) + 1) ++ (flatO L l ++ s)) := by simpa [flatO, List.append_assoc] using e
    rw [e, (fol_op (h p (by simp)) _).2] at hr
    cases hr
  | p :: l, [], h, _, _, r, s, _, hs, e => by
    have e : signT p.1 ++ (tokE p.2 ((L : Int) + 1) ++ (flatO L l ++ r)) = s := by simpa [flatO, List.append_assoc] using e
    rw [← e, (fol_op (h p (by simp)) _).2] at hs
    cases hs
  | (o, x) :: l, (o', x') :: l', h, h', hJ, r, s, hr, hs, e => by
    have e : signT o ++ (tokE x ((L : Int) + 1) ++ (flatO L l ++ r)) = signT o' ++ (tokE x' ((L : Int) + 1) ++ (flatO L l' ++ s)) := by simpa [flatO, List.append_assoc] using e
    have ho : opL L o := h (o, x) List.mem_cons_self
    have ho' : opL L o' := h' (o', x') List.mem_cons_self
    have hl : ∀ p ∈ l, opL L p.1 := fun p hp => h p (List.mem_cons_of_mem _ hp)
    have hl' : ∀ p ∈ l', opL L p.1 := fun p hp => h' p (List.mem_cons_of_mem _ hp)
    obtain ⟨rfl, e2⟩ := op_inj ho ho' e
    have hJ0 : Jn (L + 1) x x' := hJ (o, x) List.mem_cons_self (o, x') List.mem_cons_self
    obtain ⟨rfl, e3⟩ := hJ0 _ _ (flatO_fol h1 h3 hl hr) (flatO_fol h1 h3 hl' hs) (by simpa using e2)
    obtain ⟨rfl, e4⟩ := flatO_inj h1 h3 hl hl' (fun p hp p' hp' => hJ p (List.mem_cons_of_mem _ hp) p' (List.mem_cons_of_mem _ hp')) hr hs e3
    exact ⟨rfl, e4⟩
def foldO (h : Expr) (l : List (Int × Expr)) : Expr := l.foldl (fun a p => ⟨p.1, 0, e0, [a, p.2]⟩) h
theorem tok_bin (k : Int) (y z : Expr) (hk : 13 ≤ k ∧ k ≤ 18) : tokX ⟨k, 0, e0, [y, z]⟩ = tokE y (max (levX k) 2) ++ signT k ++ tokE z (levX k + 1) := by
  rw [tokX_eq, ← kidT_at (l := [y, z]) (i := 0) rfl, ← kidT_at (l := [y, z]) (i := 1) rfl]
  have : k = 13 ∨ k = 14 ∨ k = 15 ∨ k = 16 ∨ k = 17 ∨ k = 18 := by omega
  rcases this with rfl | rfl | rfl | rfl | rfl | rfl <;> rfl
theorem op_lev {k : Int} (hk : 13 ≤ k ∧ k ≤ 18) : opL (levX k).toNat k := by
  have : k = 13 ∨ k = 14 ∨ k = 15 ∨ k = 16 ∨ k = 17 ∨ k = 18 := by omega
  unfold opL
  rcases this with rfl | rfl | rfl | rfl | rfl | rfl <;> decide
theorem tokE_next {x : Expr} {L : Nat} (h : levX x.kind ≠ L) : tokE x L = tokE x ((L : Int) + 1) := by
  show (if levX x.kind < (L : Int) then _ else _) = (if levX x.kind < (L : Int) + 1 then _ else _)
  by_cases h1 : levX x.kind < (L : Int)
  · rw [if_pos h1, if_pos (by omega)]
  · rw [if_neg h1, if_neg (by omega)]
theorem bin_lev {L : Nat} {x : Expr} (hx : exprB x = true) (hl : levX x.kind = L) (h3 : L ≤ 3) : ∃ k y z, opL L k ∧ x = ⟨k, 0, e0, [y, z]⟩ ∧ exprB y = true ∧ exprB z = true := by
  cases sh_of hx with
  | bin k y z hk hy hz =>
    have h := op_lev hk
    have hl : levX k = (L : Int) := hl
    rw [hl, Int.toNat_natCast] at h
    exact ⟨k, y, z, h, rfl, hy, hz⟩
  | _ =>
    have hl : (4 : Int) = (L : Int) := hl
    omega
theorem chain_of {L : Nat} (h1 : 1 ≤ L) (h3 : L ≤ 3) : ∀ (z : Nat) (x : Expr), cntE x ≤ z → exprB x = true → ∃ h l, exprB h = true ∧ (∀ p ∈ l, opL L p.1 ∧ exprB p.2 = true ∧ cntE p.2 < cntE x) ∧ tokE x L = tokE h ((L : Int) + 1) ++ flatO L l ∧ x = foldO h l ∧
    ((l = [] ∧ h = x ∧ levX x.kind ≠ L) ∨ cntE h < cntE x) := by
  intro z
  induction z using Nat.strongRecOn with
  | ind z ih =>
  intro x hz hx
  by_cases hl : levX x.kind = L
  · obtain ⟨k, y, w, ho, rfl, hy, hw⟩ := bin_lev hx hl h3
    have hl : levX k = (L : Int) := hl
    have hcy : cntE ⟨k, 0, e0, [y, w]⟩ = 1 + cntE y + cntE w := by simp [cntE, cntEs]; omega
    have ht : tokE ⟨k, 0, e0, [y, w]⟩ L = tokE y (max (L : Int) 2) ++ (signT k ++ tokE w ((L : Int) + 1)) := by
      show (if levX k < (L : Int) then _ else tokX _) = _
      rw [if_neg (by omega), tok_bin k y w (op_range ho), hl, List.append_assoc]
    by_cases hL : L = 1
    · subst hL
      refine ⟨y, [(k, w)], hy, fun p hp => ?_, ?_, rfl, .inr (by omega)⟩
      · obtain rfl : p = (k, w) := by simpa using hp
        exact ⟨ho, hw, by show cntE w < _; omega⟩
      · rw [ht]
        simp [flatO]
        rfl
    · obtain ⟨h, l, q1, q2, q3, q4, q5⟩ := ih (cntE y) (by omega) y (Nat.le_refl _) hy
      refine ⟨h, l ++ [(k, w)], q1, fun p hp => ?_, ?_, ?_, .inr ?_⟩
      · rcases List.mem_append.1 hp with hp | hp
        · obtain ⟨a, b, c⟩ := q2 p hp
          exact ⟨a, b, by omega⟩
        · obtain rfl : p = (k, w) := by simpa using hp
          exact ⟨ho, hw, by show cntE w < _; omega⟩
      · rw [ht, show max (L : Int) 2 = L by omega, q3]
        simp [flatO, List.append_assoc]
      · unfold foldO at q4 ⊢
        rw [List.foldl_append, ← q4]
        rfl
      · rcases q5 with ⟨-, rfl, -⟩ | q5 <;> omega
  · exact ⟨x, [], hx, by simp, by rw [tokE_next hl]; simp [flatO], rfl, .inl ⟨rfl, rfl, hl⟩⟩
theorem level_of {L : Nat} (h1 : 1 ≤ L) (h3 : L ≤ 3) {n : Nat} (H : ∀ x y, exprB x = true → exprB y = true → cntE x + cntE y < n → ∀ L, 1 ≤ L → L ≤ 4 → Jn L x y) {x y : Expr} (hx : exprB x = true) (hy : exprB y = true) (hn : cntE x + cntE y ≤ n)
    (hJ : levX x.kind ≠ L → levX y.kind ≠ L → Jn (L + 1) x y) : Jn L x y := by
  intro r s hr hs e
  obtain ⟨h, l, q1, q2, q3, q4, q5⟩ := chain_of h1 h3 _ x (Nat.le_refl _) hx
  obtain ⟨h', l', p1, p2, p3, p4, p5⟩ := chain_of h1 h3 _ y (Nat.le_refl _) hy
  rw [q3, p3, List.append_assoc, List.append_assoc] at e
  have hh : Jn (L + 1) h h' := by
    rcases q5 with ⟨-, e1, e2⟩ | q5
    · rcases p5 with ⟨-, e3, e4⟩ | p5
      · rw [e1, e3]; exact hJ e2 e4
      · exact H h h' q1 p1 (by rw [e1]; omega) _ (by omega) (by omega)
    · have : cntE h' ≤ cntE y := by
        rcases p5 with ⟨-, e3, e4⟩ | p5
        · rw [e3]; exact Nat.le_refl _
        · omega
      exact H h h' q1 p1 (by omega) _ (by omega) (by omega)
  obtain ⟨rfl, e2⟩ := hh _ _ (flatO_fol h1 h3 (fun p hp => (q2 p hp).1) hr) (flatO_fol h1 h3 (fun p hp => (p2 p hp).1) hs) (by simpa using e)
  obtain ⟨rfl, rfl⟩ := flatO_inj h1 h3 (fun p hp => (q2 p hp).1) (fun p hp => (p2 p hp).1) (fun p hp p' hp' => H _ _ (q2 p hp).2.1 (p2 p' hp').2.1 (by
    have := (q2 p hp).2.2
    have := (p2 p' hp').2.2
    omega) _ (by omega) (by omega)) hr hs e2
  exact ⟨q4.trans p4.symm, rfl⟩
end V
end Go.Proofs.YtbmbmcdaabhgnaaDoor
end
section
set_option linter.unusedVariables false
set_option linter.unusedSimpArgs false
namespace Go.Proofs.YtbmbmcdaabhgnaaDoor
namespace V
open Go.RowKit
def hk (t : List UInt8) : Nat :=
  if t = [40] then 0 else if t = [110, 117, 108, 108] then 2 else if t = [116, 104, 105, 115] then 3 else if t = [110, 101, 119] then 5 else if t = [114, 101, 97, 100] then 11
  else if t = [100, 101, 99, 108, 97, 115, 115, 105, 102, 121] then 12 else if t.all digitB then 1 else 4
theorem hk_dig {t : List UInt8} (h : t.all digitB = true) : hk t = 1 := by
  unfold hk
  rw [if_neg (by rintro rfl; exact absurd h (by decide)), if_neg (by rintro rfl; exact absurd h (by decide)), if_neg (by rintro rfl; exact absurd h (by decide)), if_neg (by rintro rfl; exact absurd h (by decide)), if_neg (by rintro rfl; exact absurd h (by decide)), if_neg (by rintro rfl; exact absurd h (by decide)), if_pos h]
theorem letter_digit : ∀ c : UInt8, letterB c = true → digitB c = false := by
  intro c h
  cases hd : digitB c with
  | false => rfl
  | true =>
    rw [letterB_iff] at h
    rw [digitB_iff] at hd
    have h := of_decide_eq_true h
    have hd := of_decide_eq_true hd
    omega
theorem hk_name {nm : ByteArray} (h : isNameB nm = true) : hk nm.data.toList = 4 := by
  obtain ⟨-, q2, q3, c, r, q4, q5⟩ := name_tk h
  have hd : nm.data.toList.all digitB = false := by
    rw [q4, List.all_cons, letter_digit c q5]; rfl
  generalize nm.data.toList = t at q2 q3 q4 hd
  unfold hk
  rw [if_neg (by rintro rfl; exact absurd q2 (by decide)), if_neg (by rintro rfl; exact absurd q3 (by decide)), if_neg (by rintro rfl; exact absurd q3 (by decide)), if_neg (by rintro rfl; exact absurd q3 (by decide)), if_neg (by rintro rfl; exact absurd q3 (by decide)), if_neg (by rintro rfl; exact absurd q3 (by decide)), if_neg (by rw [hd]; decide)]
theorem name_not {nm : ByteArray} (h : isNameB nm = true) {t : List UInt8} (ht : isWordB t = true) : nm.data.toList ≠ t := by
  rintro rfl
  rw [(name_tk h).2.2.1] at ht
  cases ht
theorem nameX {a b : ByteArray} (h : a.data.toList = b.data.toList) : a = b := by
  apply ByteArray.ext
  apply Array.ext'
  exact h
def prim (p : Expr) : Prop := ¬ (7 ≤ p.kind ∧ p.kind ≤ 10)
theorem tok_par {k : Int} {y z : Expr} (hk : 13 ≤ k ∧ k ≤ 18) : tokE ⟨k, 0, e0, [y, z]⟩ 4 = [40] :: (tokE ⟨k, 0, e0, [y, z]⟩ 1 ++ [[41]]) := by
  have : k = 13 ∨ k = 14 ∨ k = 15 ∨ k = 16 ∨ k = 17 ∨ k = 18 := by omega
  rcases this with rfl | rfl | rfl | rfl | rfl | rfl <;> rfl
theorem tok_arr (y : Expr) : tokE ⟨6, 0, e0, [y]⟩ 4 = [110, 101, 119] :: [105, 110, 116] :: [91] :: (tokE y 1 ++ [[93]]) := by
  show tokX _ = _
  rw [tokX_eq]
  show [[110, 101, 119], [105, 110, 116], [91]] ++ commaT ((toksX [y]).map (atT 1)) ++ [[93]] = _
  rw [commaT_eq]
  rfl
theorem tok_decl (y : Expr) : tokE ⟨12, 0, e0, [y]⟩ 4 = [100, 101, 99, 108, 97, 115, 115, 105, 102, 121] :: [40] :: (tokE y 1 ++ [[41]]) := by
  show tokX _ = _
  rw [tokX_eq]
  show [[100, 101, 99, 108, 97, 115, 115, 105, 102, 121], [40]] ++ commaT ((toksX [y]).map (atT 1)) ++ [[41]] = _
  rw [commaT_eq]
  rfl
def codeX (p : Expr) : Nat := if 13 ≤ p.kind then 0 else if p.kind = 6 then 5 else p.kind.toNat
theorem prim_head {p : Expr} (hp : exprB p = true) (hq : prim p) : ∃ t l, tokE p 4 = t :: l ∧ hk t = codeX p := by
  cases sh_of hp with
  | lit n h => exact ⟨_, _, rfl, hk_dig (itoa_tk h).2⟩
  | nil => exact ⟨_, _, rfl, by decide⟩
  | this => exact ⟨_, _, rfl, by decide⟩
  | var nm h => exact ⟨_, _, rfl, hk_name h⟩
  | new nm h => exact ⟨_, _, rfl, rfl⟩
  | arr y hy => exact ⟨_, _, tok_arr y, rfl⟩
  | fld => exact absurd (by simp) hq
  | elem => exact absurd (by simp) hq
  | len => exact absurd (by simp) hq
  | call => exact absurd (by simp) hq
  | read n h => exact ⟨_, _, rfl, rfl⟩
  | decl y hy => exact ⟨_, _, tok_decl y, rfl⟩
  | bin k y z hk hy hz =>
    refine ⟨_, _, tok_par hk, ?_⟩
    have : k = 13 ∨ k = 14 ∨ k = 15 ∨ k = 16 ∨ k = 17 ∨ k = 18 := by omega
    rcases this with rfl | rfl | rfl | rfl | rfl | rfl <;> rfl
theorem prim_inj {n : Nat} (H : ∀ x y, exprB x = true → exprB y = true → cntE x + cntE y < n → ∀ L, 1 ≤ L → L ≤ 4 → Jn L x y) {p q : Expr} (hp : exprB p = true) (hq : exprB q = true) (pp : prim p) (pq : prim q) (hn : cntE p + cntE q ≤ n)
    (hJ : 13 ≤ p.kind → 13 ≤ q.kind → Jn 1 p q) {r s : List (List UInt8)} (e : tokE p 4 ++ r = tokE q 4 ++ s) : p = q ∧ r = s := by
  obtain ⟨t, l, e1, c1⟩ := prim_head hp pp
  obtain ⟨t', l', e2, c2⟩ := prim_head hq pq
  have ht : t = t' := by
    rw [e1, e2] at e
    simp only [List.cons_append, List.cons.injEq] at e
    exact e.1
  have hc : codeX p = codeX q := by rw [← c1, ← c2, ht]
  clear e1 e2 c1 c2 ht
  have one : ∀ y : Expr, ∀ k n nm, cntE ⟨k, n, nm, [y]⟩ = 1 + cntE y := fun y k n nm => by simp [cntE, cntEs]
  cases sh_of hp with
  | lit a ha =>
    cases sh_of hq with
    | lit b hb =>
      have e : Lib.itoa a :: r = Lib.itoa b :: s := e
      simp only [List.cons.injEq] at e
      obtain rfl := itoa_inj ha hb e.1
      exact ⟨rfl, e.2⟩
    | bin k y z hk hy hz => simp [codeX, hk.1] at hc
    | _ => simp [codeX] at hc
  | nil =>
    cases sh_of hq with
    | nil => exact ⟨rfl, by simpa using e⟩
    | bin k y z hk hy hz => simp [codeX, hk.1] at hc
    | _ => simp [codeX] at hc
  | this =>
    cases sh_of hq with
    | this => exact ⟨rfl, by simpa using e⟩
    | bin k y z hk hy hz => simp [codeX, hk.1] at hc
    | _ => simp [codeX] at hc
  | var a ha =>
    cases sh_of hq with
    | var b hb =>
      have e : a.data.toList :: r = b.data.toList :: s := e
      simp only [List.cons.injEq] at e
      obtain rfl := nameX e.1
      exact ⟨rfl, e.2⟩
    | bin k y z hk hy hz => simp [codeX, hk.1] at hc
    | _ => simp [codeX] at hc
  | new a ha =>
    cases sh_of hq with
    | new b hb =>
      have e : [110, 101, 119] :: a.data.toList :: [40] :: [41] :: r = [110, 101, 119] :: b.data.toList :: [40] :: [41] :: s := e
      simp only [List.cons.injEq, true_and] at e
      obtain rfl := nameX e.1
      exact ⟨rfl, e.2⟩
    | arr y hy =>
      rw [tok_arr] at e
      have e : [110, 101, 119] :: a.data.toList :: [40] :: [41] :: r = [110, 101, 119] :: [105, 110, 116] :: [91] :: (tokE y 1 ++ [[93]]) ++ s := e
      simp only [List.cons_append, List.cons.injEq, true_and] at e
      exact absurd e.1 (name_not ha (by decide))
    | bin k y z hk hy hz => simp [codeX, hk.1] at hc
    | _ => simp [codeX] at hc
  | arr y hy =>
    cases sh_of hq with
    | new b hb =>
      rw [tok_arr] at e
      have e : [110, 101, 119] :: [105, 110, 116] :: [91] :: (tokE y 1 ++ [[93]]) ++ r = [110, 101, 119] :: b.data.toList :: [40] :: [41] :: s := e
      simp only [List.cons_append, List.cons.injEq, true_and] at e
      exact absurd e.1.symm (name_not hb (by decide))
    | arr z hz =>
      rw [tok_arr, tok_arr] at e
      simp only [List.cons_append, List.append_assoc, List.cons.injEq, true_and, List.nil_append] at e
      rw [one, one] at hn
      obtain ⟨rfl, e⟩ := H y z hy hz (by omega) 1 (by decide) (by decide) _ _ rfl rfl e
      exact ⟨rfl, by simpa using e⟩
    | bin k y z hk hy hz => simp [codeX, hk.1] at hc
    | _ => simp [codeX] at hc
  | fld => exact absurd (by simp) pp
  | elem => exact absurd (by simp) pp
  | len => exact absurd (by simp) pp
  | call => exact absurd (by simp) pp
  | read a ha =>
    cases sh_of hq with
    | read b hb =>
      have e : [114, 101, 97, 100] :: [40] :: Lib.itoa a :: [41] :: r = [114, 101, 97, 100] :: [40] :: Lib.itoa b :: [41] :: s := e
      simp only [List.cons.injEq, true_and] at e
      obtain rfl := itoa_inj ha hb e.1
      exact ⟨rfl, e.2⟩
    | bin k y z hk hy hz => simp [codeX, hk.1] at hc
    | _ => simp [codeX] at hc
  | decl y hy =>
    cases sh_of hq with
    | decl z hz =>
      rw [tok_decl, tok_decl] at e
      simp only [List.cons_append, List.append_assoc, List.cons.injEq, true_and, List.nil_append] at e
      rw [one, one] at hn
      obtain ⟨rfl, e⟩ := H y z hy hz (by omega) 1 (by decide) (by decide) _ _ rfl rfl e
      exact ⟨rfl, by simpa using e⟩
    | bin k y z hk hy hz => simp [codeX, hk.1] at hc
    | _ => simp [codeX] at hc
  | bin k y z hk hy hz =>
    cases sh_of hq with
    | bin k' y' z' hk' hy' hz' =>
      rw [tok_par hk, tok_par hk'] at e
      simp only [List.cons_append, List.append_assoc, List.cons.injEq, true_and, List.nil_append] at e
      obtain ⟨h1, e⟩ := hJ hk.1 hk'.1 _ _ rfl rfl e
      exact ⟨h1, by simpa using e⟩
    | _ => simp [codeX, hk.1] at hc
inductive Post
  | fld (nm : ByteArray)
  | elem (e : Expr)
  | len
  | call (nm : ByteArray) (l : List Expr)
def Post.app (x : Expr) : Post → Expr
  | .fld nm => ⟨7, 0, nm, [x]⟩
  | .elem e => ⟨8, 0, e0, [x, e]⟩
  | .len => ⟨9, 0, e0, [x]⟩
  | .call nm l => ⟨10, 0, nm, x :: l⟩
def Post.tok : Post → List (List UInt8)
  | .fld nm => [[46], nm.data.toList]
  | .elem e => [91] :: (tokE e 1 ++ [[93]])
  | .len => [[46], [108, 101, 110, 103, 116, 104]]
  | .call nm l => [46] :: nm.data.toList :: [40] :: (tokL l ++ [[41]])
def Post.ok (c : Nat) : Post → Prop
  | .fld nm => isNameB nm = true
  | .elem e => exprB e = true ∧ cntE e < c
  | .len => True
  | .call nm l => isNameB nm = true ∧ ∀ e ∈ l, exprB e = true ∧ cntE e < c
theorem Post.ok_mono {c d : Nat} (h : c ≤ d) : ∀ {p : Post}, p.ok c → p.ok d
  | .fld nm, hp => hp
  | .elem e, hp => ⟨hp.1, Nat.lt_of_lt_of_le hp.2 h⟩
  | .len, hp => hp
  | .call nm l, hp => ⟨hp.1, fun e he => ⟨(hp.2 e he).1, Nat.lt_of_lt_of_le (hp.2 e he).2 h⟩⟩
theorem tok_fld (nm : ByteArray) (y : Expr) : tokE ⟨7, 0, nm, [y]⟩ 4 = tokE y 4 ++ (Post.fld nm).tok := by
  show tokX _ = _
  rw [tokX_eq, ← kidT_at (l := [y]) (i := 0) rfl]; rfl
theorem tok_elem (y z : Expr) : tokE ⟨8, 0, e0, [y, z]⟩ 4 = tokE y 4 ++ (Post.elem z).tok := by
  show tokX _ = _
  rw [tokX_eq, ← kidT_at (l := [y, z]) (i := 0) rfl]
  show _ ++ [91] :: (commaT ((toksX [z]).map (atT 1)) ++ [[93]]) = _
  rw [commaT_eq]; rfl
theorem tok_len (y : Expr) : tokE ⟨9, 0, e0, [y]⟩ 4 = tokE y 4 ++ Post.len.tok := by
  show tokX _ = _
  rw [tokX_eq, ← kidT_at (l := [y]) (i := 0) rfl]; rfl
theorem tok_call (nm : ByteArray) (y : Expr) (l : List Expr) : tokE ⟨10, 0, nm, y :: l⟩ 4 = tokE y 4 ++ (Post.call nm l).tok := by
  show tokX _ = _
  rw [tokX_eq, ← kidT_at (l := y :: l) (i := 0) rfl]
  show _ ++ [46] :: nm.data.toList :: [40] :: (commaT ((toksX l).map (atT 1)) ++ [[41]]) = _
  rw [commaT_eq]; rfl
theorem cnt_mem {l : List Expr} {y : Expr} (h : y ∈ l) : cntE y ≤ cntEs l := by
  induction l with
  | nil => cases h
  | cons x l ih =>
    simp only [cntEs]
    rcases List.mem_cons.1 h with rfl | h
    · omega
    · have := ih h; omega
theorem spine_of : ∀ (z : Nat) (x : Expr), cntE x ≤ z → exprB x = true → ∃ (p : Expr) (ps : List Post), exprB p = true ∧ prim p ∧ (∀ q ∈ ps, Post.ok (cntE x) q) ∧ tokE x 4 = tokE p 4 ++ ps.flatMap Post.tok ∧ x = ps.foldl Post.app p ∧ cntE p ≤ cntE x := by
  intro z
  induction z using Nat.strongRecOn with
  | ind z ih =>
  intro x hz hx
  have step : ∀ (y : Expr) (po : Post), exprB y = true → cntE y < cntE x → po.ok (cntE x) → tokE x 4 = tokE y 4 ++ po.tok → x = po.app y → ∃ (p : Expr) (ps : List Post), exprB p = true ∧ prim p ∧ (∀ q ∈ ps, Post.ok (cntE x) q) ∧ tokE x 4 = tokE p 4 ++ ps.flatMap Post.tok ∧ x = ps.foldl Post.app p ∧ cntE p ≤ cntE x := fun y po hy hc hpo ht hxe => by
    obtain ⟨p, ps, q1, q2, q3, q4, q5, q6⟩ := ih (cntE y) (by omega) y (Nat.le_refl _) hy
    refine ⟨p, ps ++ [po], q1, q2, fun q hq => ?_, ?_, ?_, by omega⟩
    · rcases List.mem_append.1 hq with hq | hq
      · exact Post.ok_mono (by omega) (q3 q hq)
      · obtain rfl : q = po := by simpa using hq
        exact hpo
    · rw [ht, q4]; simp [List.append_assoc]
    · rw [List.foldl_append, ← q5]; exact hxe
  have base : prim x → ∃ (p : Expr) (ps : List Post), exprB p = true ∧ prim p ∧ (∀ q ∈ ps, Post.ok (cntE x) q) ∧ tokE x 4 = tokE p 4 ++ ps.flatMap Post.tok ∧ x = ps.foldl Post.app p ∧ cntE p ≤ cntE x := fun h => ⟨x, [], hx, h, by simp, by simp, rfl, Nat.le_refl _⟩
  cases sh_of hx with
  | fld nm y h hy => exact step y (.fld nm) hy (by simp [cntE, cntEs]) h (tok_fld nm y) rfl
  | elem y w hy hw => exact step y (.elem w) hy (by simp [cntE, cntEs]; omega) ⟨hw, by simp [cntE, cntEs]; omega⟩ (tok_elem y w) rfl
  | len y hy => exact step y .len hy (by simp [cntE, cntEs]) trivial (tok_len y) rfl
  | call nm y l h hy hl => exact step y (.call nm l) hy (by simp [cntE, cntEs]; omega) ⟨h, fun e he => ⟨hl e he, by have := cnt_mem he; simp [cntE, cntEs]; omega⟩⟩ (tok_call nm y l) rfl
  | bin k y z hk hy hz => exact base (by unfold prim; simp; omega)
  | _ => exact base (by unfold prim; simp)
def Fst (t : List UInt8) : Prop := t = [40] ∨ t ∈ ([[110, 117, 108, 108], [116, 104, 105, 115], [110, 101, 119], [114, 101, 97, 100], [100, 101, 99, 108, 97, 115, 115, 105, 102, 121]] : List (List UInt8)) ∨ t.all digitB = true ∨ ∃ nm : ByteArray, isNameB nm = true ∧ t = nm.data.toList
theorem prim_fst {p : Expr} (hp : exprB p = true) (hq : prim p) : ∃ t l, tokE p 4 = t :: l ∧ Fst t := by
  cases sh_of hp with
  | lit n h => exact ⟨_, _, rfl, .inr (.inr (.inl (itoa_tk h).2))⟩
  | nil => exact ⟨_, _, rfl, .inr (.inl (by decide))⟩
  | this => exact ⟨_, _, rfl, .inr (.inl (by decide))⟩
  | var nm h => exact ⟨_, _, rfl, .inr (.inr (.inr ⟨nm, h, rfl⟩))⟩
  | new nm h => exact ⟨_, _, rfl, .inr (.inl (by decide))⟩
  | arr y hy => exact ⟨_, _, tok_arr y, .inr (.inl (by decide))⟩
  | fld => exact absurd (by simp) hq
  | elem => exact absurd (by simp) hq
  | len => exact absurd (by simp) hq
  | call => exact absurd (by simp) hq
  | read n h => exact ⟨_, _, rfl, .inr (.inl (by decide))⟩
  | decl y hy => exact ⟨_, _, tok_decl y, .inr (.inl (by decide))⟩
  | bin k y z hk hy hz => exact ⟨_, _, tok_par hk, .inl rfl⟩
theorem fst_four {x : Expr} (hx : exprB x = true) : ∃ t l, tokE x 4 = t :: l ∧ Fst t := by
  obtain ⟨p, ps, q1, q2, -, q4, -, -⟩ := spine_of _ x (Nat.le_refl _) hx
  obtain ⟨t, l, e, h⟩ := prim_fst q1 q2
  exact ⟨t, l ++ ps.flatMap Post.tok, by rw [q4, e]; rfl, h⟩
theorem fst_down {L : Nat} (h1 : 1 ≤ L) (h3 : L ≤ 3) (h : ∀ x, exprB x = true → ∃ t l, tokE x ((L : Int) + 1) = t :: l ∧ Fst t) : ∀ x, exprB x = true → ∃ t l, tokE x L = t :: l ∧ Fst t := by
  intro x hx
  obtain ⟨y, l, q1, -, q3, -, -⟩ := chain_of h1 h3 _ x (Nat.le_refl _) hx
  obtain ⟨t, l2, e, h⟩ := h y q1
  exact ⟨t, l2 ++ flatO L l, by rw [q3, e]; rfl, h⟩
theorem fst_one {x : Expr} (hx : exprB x = true) : ∃ t l, tokE x 1 = t :: l ∧ Fst t :=
  fst_down (L := 1) (by decide) (by decide) (fst_down (L := 2) (by decide) (by decide) (fst_down (L := 3) (by decide) (by decide) (fun x hx => fst_four hx))) x hx
theorem Fst.ne {t u : List UInt8} (h : Fst t) (h0 : u ≠ [40]) (h1 : u ∉ ([[110, 117, 108, 108], [116, 104, 105, 115], [110, 101, 119], [114, 101, 97, 100], [100, 101, 99, 108, 97, 115, 115, 105, 102, 121]] : List (List UInt8))) (h2 : u.all digitB = false) (h3 : isWordB u = true ∨ u.all withinB = false) : t ≠ u := by
  rintro rfl
  rcases h with h | h | h | ⟨nm, hn, rfl⟩
  · exact h0 h
  · exact h1 h
  · rw [h2] at h; cases h
  · rcases h3 with h3 | h3
    · exact name_not hn h3 rfl
    · rw [(name_tk hn).2.1] at h3; cases h3
theorem comma_inj {c : Nat} (HJ : ∀ x y, exprB x = true → exprB y = true → cntE x + cntE y < c → Jn 1 x y) : ∀ {l l' : List Expr}, (∀ x ∈ l, exprB x = true) → (∀ x ∈ l', exprB x = true) → (∀ x ∈ l, ∀ y ∈ l', cntE x + cntE y < c) → ∀ {r s : List (List UInt8)}, tokL l ++ [41] :: r = tokL l' ++ [41] :: s → l = l' ∧ r = s
  | [], [], _, _, _, r, s, e => by
    have e : [41] :: r = [41] :: s := e
    simp only [List.cons.injEq, true_and] at e
    exact ⟨rfl, e⟩
  | [], y :: l', _, h', _, r, s, e => by
    obtain ⟨t, l, e1, h1⟩ := fst_one (h' y (by simp))
    exfalso
    have hne := h1.ne (u := [41]) (by decide) (by decide) (by decide) (.inr (by decide))
    cases l' with
    | nil =>
      have e : [41] :: r = tokE y 1 ++ [41] :: s := e
      rw [e1] at e
      simp only [List.cons_append, List.cons.injEq] at e
      exact hne e.1.symm
    | cons z l' =>
      have e : [41] :: r = (tokE y 1 ++ [44] :: tokL (z :: l')) ++ [41] :: s := e
      rw [e1] at e
      simp only [List.cons_append, List.cons.injEq] at e
      exact hne e.1.symm
  | x :: l, [], h, _, _, r, s, e => by
    obtain ⟨t, l2, e1, h1⟩ := fst_one (h x (by simp))
    exfalso
    have hne := h1.ne (u := [41]) (by decide) (by decide) (by decide) (.inr (by decide))
    cases l with
    | nil =>
      have e : tokE x 1 ++ [41] :: r = [41] :: s := e
      rw [e1] at e
      simp only [List.cons_append, List.cons.injEq] at e
      exact hne e.1
    | cons z l =>
      have e : (tokE x 1 ++ [44] :: tokL (z :: l)) ++ [41] :: r = [41] :: s := e
      rw [e1] at e
      simp only [List.cons_append, List.cons.injEq] at e
      exact hne e.1
  | x :: l, y :: l', h, h', hc, r, s, e => by
    have hJ := HJ x y (h x (by simp)) (h' y (by simp)) (hc x (by simp) y (by simp))
    cases l with
    | nil =>
      cases l' with
      | nil =>
        have e : tokE x 1 ++ [41] :: r = tokE y 1 ++ [41] :: s := e
        obtain ⟨rfl, e2⟩ := hJ _ _ rfl rfl e
        exact ⟨rfl, by simpa using e2⟩
      | cons z l' =>
        have e : tokE x 1 ++ [41] :: r = (tokE y 1 ++ [44] :: tokL (z :: l')) ++ [41] :: s := e
        rw [List.append_assoc, List.cons_append] at e
        have := (hJ _ _ rfl rfl e).2
        simp at this
    | cons z l =>
      cases l' with
      | nil =>
        have e : (tokE x 1 ++ [44] :: tokL (z :: l)) ++ [41] :: r = tokE y 1 ++ [41] :: s := e
        rw [List.append_assoc, List.cons_append] at e
        have := (hJ _ _ rfl rfl e).2
        simp at this
      | cons z' l' =>
        have e : (tokE x 1 ++ [44] :: tokL (z :: l)) ++ [41] :: r = (tokE y 1 ++ [44] :: tokL (z' :: l')) ++ [41] :: s := e
        rw [List.append_assoc, List.cons_append, List.append_assoc, List.cons_append] at e
        obtain ⟨rfl, e2⟩ := hJ _ _ rfl rfl e
        simp only [List.cons.injEq, true_and] at e2
        obtain ⟨e3, e4⟩ := comma_inj HJ (l := z :: l) (l' := z' :: l') (fun a ha => h a (List.mem_cons_of_mem _ ha)) (fun a ha => h' a (List.mem_cons_of_mem _ ha)) (fun a ha b hb => hc a (List.mem_cons_of_mem _ ha) b (List.mem_cons_of_mem _ hb)) e2
        exact ⟨by rw [e3], e4⟩
theorem post_head (p : Post) (r : List (List UInt8)) : fol 4 (p.tok ++ r) = false ∧ (p.tok ++ r).head? ≠ some [40] := by
  cases p <;> exact ⟨rfl, by simp [Post.tok]⟩
theorem posts_head {ps : List Post} {r : List (List UInt8)} (hr : fol 4 r = true) : (ps.flatMap Post.tok ++ r).head? ≠ some [40] := by
  cases ps with
  | nil =>
    cases r with
    | nil => simp
    | cons t l => simp [fol] at hr; simp [hr.2]
  | cons p ps =>
    rw [List.flatMap_cons, List.append_assoc]
    exact (post_head p _).2
theorem posts_inj {c c' : Nat} (HJ : ∀ x y, exprB x = true → exprB y = true → cntE x + cntE y < c + c' → Jn 1 x y) : ∀ {ps qs : List Post}, (∀ p ∈ ps, Post.ok c p) → (∀ q ∈ qs, Post.ok c' q) → ∀ {r s : List (List UInt8)}, fol 4 r = true → fol 4 s = true → ps.flatMap Post.tok ++ r = qs.flatMap Post.tok ++ s → ps = qs ∧ r = s
  | [], [], _, _, r, s, _, _, e => ⟨rfl, by simpa using e⟩
  | [], q :: qs, _, _, r, s, hr, _, e => by
    have e : r = q.tok ++ (qs.flatMap Post.tok ++ s) := by simpa [List.append_assoc] using e
    rw [e, (post_head q _).1] at hr
    cases hr
  | p :: ps, [], _, _, r, s, _, hs, e => by
    have e : p.tok ++ (ps.flatMap Post.tok ++ r) = s := by simpa [List.append_assoc] using e
    rw [← e, (post_head p _).1] at hs
    cases hs
  | p :: ps, q :: qs, h, h', r, s, hr, hs, e => by
    have e : p.tok ++ (ps.flatMap Post.tok ++ r) = q.tok ++ (qs.flatMap Post.tok ++ s) := by simpa [List.append_assoc] using e
    have hp := h p List.mem_cons_self
    have hq := h' q List.mem_cons_self
    have h1 := posts_head (ps := ps) hr
    have h2 := posts_head (ps := qs) hs
    have fin : p = q → ps.flatMap Post.tok ++ r = qs.flatMap Post.tok ++ s → p :: ps = q :: qs ∧ r = s := fun e1 e2 => by
      obtain ⟨e3, e4⟩ := posts_inj HJ (fun p hp => h p (List.mem_cons_of_mem _ hp)) (fun q hq => h' q (List.mem_cons_of_mem _ hq)) hr hs e2
      exact ⟨by rw [e1, e3], e4⟩
    generalize ps.flatMap Post.tok ++ r = R at e h1 fin
    generalize qs.flatMap Post.tok ++ s = S at e h2 fin
    cases p with
    | fld a =>
      cases q with
      | fld b =>
        simp only [Post.tok, List.cons_append, List.nil_append, List.cons.injEq, true_and] at e
        obtain rfl := nameX e.1
        exact fin rfl e.2
      | elem y => simp [Post.tok] at e
      | len =>
        simp only [Post.tok, List.cons_append, List.nil_append, List.cons.injEq, true_and] at e
        exact absurd e.1 (name_not hp (by decide))
      | call b l =>
        simp only [Post.tok, List.cons_append, List.nil_append, List.cons.injEq, true_and] at e
        rw [e.2] at h1
        simp at h1
    | elem x =>
      cases q with
      | elem y =>
        simp only [Post.tok, List.cons_append, List.append_assoc, List.nil_append, List.cons.injEq, true_and] at e
        obtain ⟨rfl, e2⟩ := HJ x y hp.1 hq.1 (by have := hp.2; have := hq.2; omega) _ _ rfl rfl e
        exact fin rfl (by simpa using e2)
      | _ => simp [Post.tok] at e
    | len =>
      cases q with
      | fld b =>
        simp only [Post.tok, List.cons_append, List.nil_append, List.cons.injEq, true_and] at e
        exact absurd e.1.symm (name_not hq (by decide))
      | elem y => simp [Post.tok] at e
      | len =>
        simp only [Post.tok, List.cons_append, List.nil_append, List.cons.injEq, true_and] at e
        exact fin rfl e
      | call b l =>
        simp only [Post.tok, List.cons_append, List.nil_append, List.cons.injEq, true_and] at e
        exact absurd e.1.symm (name_not hq.1 (by decide))
    | call a l =>
      cases q with
      | fld b =>
        simp only [Post.tok, List.cons_append, List.nil_append, List.cons.injEq, true_and] at e
        rw [← e.2] at h2
        simp at h2
      | elem y => simp [Post.tok] at e
      | len =>
        simp only [Post.tok, List.cons_append, List.nil_append, List.cons.injEq, true_and] at e
        exact absurd e.1 (name_not hp.1 (by decide))
      | call b l' =>
        simp only [Post.tok, List.cons_append, List.append_assoc, List.nil_append, List.cons.injEq, true_and] at e
        obtain ⟨e1, e2⟩ := e
        obtain rfl := nameX e1
        obtain ⟨rfl, e3⟩ := comma_inj HJ (fun x hx => (hp.2 x hx).1) (fun x hx => (hq.2 x hx).1) (fun x hx y hy => by have := (hp.2 x hx).2; have := (hq.2 y hy).2; omega) e2
        exact fin rfl e3
theorem Jn_all : ∀ (n : Nat) (x y : Expr), exprB x = true → exprB y = true → cntE x + cntE y ≤ n → ∀ L, 1 ≤ L → L ≤ 4 → Jn L x y := by
  intro n
  induction n using Nat.strongRecOn with
  | ind n ih =>
  intro x y hx hy hn
  have H : ∀ x y, exprB x = true → exprB y = true → cntE x + cntE y < n → ∀ L, 1 ≤ L → L ≤ 4 → Jn L x y := fun x y hx hy h => ih _ h x y hx hy (Nat.le_refl _)
  have low : ∀ p q, exprB p = true → exprB q = true → cntE p + cntE q ≤ n → 13 ≤ p.kind → 13 ≤ q.kind → Jn 1 p q := fun p q hp hq hc k1 k2 =>
    level_of (L := 1) (by decide) (by decide) H hp hq hc (fun a1 b1 => level_of (L := 2) (by decide) (by decide) H hp hq hc (fun a2 b2 => level_of (L := 3) (by decide) (by decide) H hp hq hc (fun a3 b3 => by
      exfalso
      cases sh_of hp with
      | bin k y z hk hy hz =>
        have : k = 13 ∨ k = 14 ∨ k = 15 ∨ k = 16 ∨ k = 17 ∨ k = 18 := by omega
        rcases this with rfl | rfl | rfl | rfl | rfl | rfl
        · exact a2 rfl
        · exact a2 rfl
        · exact a3 rfl
        · exact a3 rfl
        · exact a1 rfl
        · exact a1 rfl
      | _ => simp at k1)))
  have j4 : Jn 4 x y := by
    intro r s hr hs e
    obtain ⟨p, ps, q1, q2, q3, q4, q5, q6⟩ := spine_of _ x (Nat.le_refl _) hx
    obtain ⟨q, qs, p1, p2, p3, p4, p5, p6⟩ := spine_of _ y (Nat.le_refl _) hy
    have e : tokE p 4 ++ (ps.flatMap Post.tok ++ r) = tokE q 4 ++ (qs.flatMap Post.tok ++ s) := by
      rw [← List.append_assoc, ← List.append_assoc, ← q4, ← p4]; exact e
    obtain ⟨rfl, e2⟩ := prim_inj H q1 p1 q2 p2 (by omega) (low p q q1 p1 (by omega)) e
    obtain ⟨rfl, e3⟩ := posts_inj (c := cntE x) (c' := cntE y) (fun a b ha hb hc => H a b ha hb (by omega) 1 (by decide) (by decide)) q3 p3 hr hs e2
    exact ⟨q5.trans p5.symm, e3⟩
  have j3 : Jn 3 x y := level_of (L := 3) (by decide) (by decide) H hx hy hn (fun _ _ => j4)
  have j2 : Jn 2 x y := level_of (L := 2) (by decide) (by decide) H hx hy hn (fun _ _ => j3)
  have j1 : Jn 1 x y := level_of (L := 1) (by decide) (by decide) H hx hy hn (fun _ _ => j2)
  intro L h1 h4
  have : L = 1 ∨ L = 2 ∨ L = 3 ∨ L = 4 := by omega
  rcases this with rfl | rfl | rfl | rfl
  · exact j1
  · exact j2
  · exact j3
  · exact j4
theorem tokE_inj {x y : Expr} (hx : exprB x = true) (hy : exprB y = true) {r s : List (List UInt8)} (hr : fol 1 r = true) (hs : fol 1 s = true) (e : tokE x 1 ++ r = tokE y 1 ++ s) : x = y ∧ r = s :=
  Jn_all _ x y hx hy (Nat.le_refl _) 1 (by decide) (by decide) r s hr hs e
end V
end Go.Proofs.YtbmbmcdaabhgnaaDoor
end
section
set_option linter.unusedVariables false
set_option linter.unusedSimpArgs false
namespace Go.Proofs.YtbmbmcdaabhgnaaDoor
namespace V
open Go.RowKit
theorem repeat_ok (t : Nat) (ht : t ≤ 140737488351232) (m : Mem) : COk Tryd.prog 49 [.c (.str ⟨#[9]⟩), .c (.int .i64 t)] m (.c (.str ⟨(tabX t).toArray⟩)) := by
  refine ⟨enters_of Tryd.func49 (by kernel_rfl) rfl, rfl, fun m' _ => ?_⟩
  intro w0 I0 B I w vals hm hv
  match vals, hv with
  | [v, v2], ⟨h1, h2, _⟩ =>
    cases h1
    cases h2
    refine (Tryd.strings_Repeat ⟨#[9]⟩ t w (by omega) (by show 1 * t ≤ 140737488355328; omega)).mono ?_
    rintro e w' ⟨rfl, hb⟩
    have e1 : Lib.repeatL (⟨#[9]⟩ : ByteArray).data.toList t = tabX t := by
      have := Lib.repeatL_replicate 9 1 t
      rw [Nat.mul_one] at this
      exact this
    rw [e1]
    exact ⟨_, I, rfl, hb, fun _ _ k => k, fun _ _ k => .inl k, .str (by show (tabX t).toArray.size ≤ _; rw [List.size_toArray, tabX_len]; exact Nat.le_trans ht (by decide))⟩
theorem join_comma : ∀ l : List (List UInt8), Lib.join l [44, 32] = commaX l
  | [] => rfl
  | [a] => by simp [Lib.join, List.intercalate, commaX]
  | a :: b :: l => by
    have := join_comma (b :: l)
    simp only [Lib.join, List.intercalate] at this ⊢
    simp only [List.intersperse, List.flatten_cons, commaX, this]
    simp
theorem join_ok (l : List ByteArray) (hl : l.length ≤ 1000000) (hs : (commaX (l.map (·.data.toList))).length ≤ 140737488351232) (m : Mem) : COk Tryd.prog 25 [.c (.sl (l.map cStr)), .c (.str ⟨#[44, 32]⟩)] m (.c (.str ⟨(commaX (l.map (·.data.toList))).toArray⟩)) := by
  refine ⟨enters_of Tryd.func25 (by kernel_rfl) rfl, rfl, fun m' _ => ?_⟩
  intro w0 I0 B I w vals hm hv
  match vals, hv with
  | [v, v2], ⟨h1, h2, _⟩ =>
    cases h2
    cases h1 with
    | sl f hn hc hm2 hel ha hr =>
      rename_i a n cap e
      match l, hl, hs, hn, hel, ha, hr with
      | [], _, _, hn, _, _, _ =>
        have hn : n = 0 := by simpa using hn.symm
        subst hn
        refine (Tryd.strings_Join_none a cap ⟨#[44, 32]⟩ w).mono ?_
        rintro e w' ⟨rfl, rfl⟩
        exact ⟨_, I, rfl, Below.refl _ _, fun _ _ k => k, fun _ _ k => .inl k, .str (by decide)⟩
      | x :: l, hl, hs, hn, hel, ha, hr =>
        obtain ⟨b, off, rfl, -⟩ := ha 0 (cStr x) rfl
        obtain rfl : e = 1 := (hel (cStr x) (by simp)).symm
        obtain rfl : n = (x :: l).length := by rw [← hn, List.length_map]
        have hcells : ∀ (j : Nat) y, (x :: l)[j]? = some y → I b (off + j) ∧ w.cell? ⟨b, off + j, none⟩ = some (.string y) := fun j y hy => by
          have hj : ((x :: l).map cStr)[j]? = some (cStr y) := by rw [List.getElem?_map, hy]; rfl
          obtain ⟨b', off', e', hc⟩ := ha j _ hj
          simp only [Option.some.injEq, Addr.mk.injEq, and_true] at e'
          obtain ⟨rfl, rfl⟩ := e'
          obtain ⟨c1, c2⟩ := hc 0 (by decide)
          have hf := hr j 0 _ _ hj (show (cStr y)[0]? = some (.str y) from rfl)
          rw [show off + j * 1 + 0 = off + j by omega] at c1 c2
          cases hfe : f j 0 with
          | string s => rw [hfe] at hf c2; cases hf; exact ⟨c1, c2⟩
          | _ => rw [hfe] at hf; cases hf
        have hb := hm.there b off (by simpa using (hcells 0 x rfl).1)
        have hjn := join_comma ((x :: l).map (·.data.toList))
        refine (Tryd.strings_Join b off cap (x :: l) ⟨#[44, 32]⟩ w (fun j y hy => (hcells j y hy).2) hb (by omega) hc (by rw [show (⟨#[44, 32]⟩ : ByteArray).data.toList = [44, 32] from rfl, hjn]; exact Nat.le_trans hs (by decide))).mono ?_
        rintro e w' ⟨rfl, hb⟩
        rw [show (⟨#[44, 32]⟩ : ByteArray).data.toList = [44, 32] from rfl, hjn]
        exact ⟨_, I, rfl, hb, fun _ _ k => k, fun _ _ k => .inl k, .str (by show (commaX _).toArray.size ≤ _; rw [List.size_toArray]; exact Nat.le_trans hs (by decide))⟩
theorem tab_up {M : Mem} {j q : Nat} {t t' : Int} {bs : List UInt8} (h : j ≠ q) : upd (pgM M j q true t bs) j (some (.box 47 [.ptr j 0, .own q, .c (.int .i64 t')])) = pgM M j q true t' bs := by
  funext i
  unfold pgM upd
  by_cases e2 : i = q
  · subst e2; simp [Ne.symm h]
  · by_cases e1 : i = j
    · subst e1; simp [e2, pageB, adrB]
    · simp [e1, e2]
theorem line_ok {M : Mem} {j q : Nat} {u : Bool} {t : Nat} {bs : List UInt8} (h : PgAt M j q u t bs) (l : List ByteArray) (hl : l.length ≤ 1000000000) (hs : bs.length + t + (txtB l).length ≤ 140737488351232) :
    CallE Tryd.prog 24 [.ptr j 0, .c (.sl (l.map cStr))] M [q] (.tup []) (pgM M j q true t (bs ++ tabX t ++ txtB l)) := by
  have hjs : (M j).isSome = true := by rw [h.box]; rfl
  have hbx := h.box
  unfold pageB at hbx
  have htl := tabX_len t
  have h1 := lay_ok h [⟨(tabX t).toArray⟩] (by simp) (by simp [txtB, htl]; omega)
  rw [show txtB [(⟨(tabX t).toArray⟩ : ByteArray)] = tabX t by simp [txtB], show layU u [(⟨(tabX t).toArray⟩ : ByteArray)] = true by simp [layU]] at h1
  have h2 := lay_ok (h.pgM (u' := true) (t' := t) (bs' := bs ++ tabX t)) l hl (by rw [List.length_append, htl]; omega)
  rw [pgM_pgM h.ne, show layU true l = true by simp [layU]] at h2
  refine (ok_eff tab_ok [q] Tryd.func24 (by kernel_rfl) rfl rfl (by rfl) (by rfl) ?ids ?res ?sub ?wfm (fun hWF Rr hkeep => ?_))
  case ids => intro a ha i hi; simp at ha; rcases ha with rfl | rfl <;> simp [A.ids] at hi; subst hi; exact hjs
  case res => intro i hi; simp [A.ids] at hi
  case sub => exact pgM_live
  case wfm => exact pgM_wf h
  have nkq : ¬ Rr.keep q := by rw [hkeep]; intro hh; exact hh.2 (by simp)
  have jq : (j = q) = False := eq_false h.ne
  (repeat (first | refine W.seq ?_ | refine W.block ?_ | refine W.skip ?_))
  refine W.regionK tab_ok 0 (by decide) ?_
  refine runk_split 5 (by simp only [exa, beq_self_eq_true, ByteArray.size, Nat.reduceAdd, Nat.reduceLeDiff, Nat.reduceEqDiff, Nat.reduceMul, Int.reduceToNat, reduceIte, Int.reduceLE, Int.reduceNeg, hbx]; rfl) ?_
  refine runk_call rfl rfl rfl rfl rfl (by simp) (cvs_cons cv_refl (cvs_cons cv_refl cvs_nil)) (repeat_ok t (by omega) _) ?_
  refine runk_split 1 (by simp only [exa, beq_self_eq_true, ByteArray.size, Nat.reduceAdd, Nat.reduceLeDiff, Nat.reduceEqDiff, Nat.reduceMul, Int.reduceToNat, reduceIte, Int.reduceLE, Int.reduceNeg]; rfl) ?_
  refine runk_callE (D := [q]) rfl rfl rfl rfl rfl (fun i hi => by simp at hi; subst hi; exact nkq) (by simp) (cvs_cons cv_refl (cvs_cons cv_refl cvs_nil)) h1 ?_
  simp only [killL, putS]
  refine runk_exec (by simp only [exa, beq_self_eq_true, ByteArray.size, Nat.reduceAdd, Nat.reduceLeDiff, Nat.reduceEqDiff, Nat.reduceMul, Int.reduceToNat, reduceIte, Int.reduceLE, Int.reduceNeg]; rfl) ?_
  (repeat (first | refine W.seq ?_ | refine W.block ?_ | refine W.skip ?_))
  refine W.regionK tab_ok 0 (by decide) ?_
  refine runk_split 2 (by simp only [exa, beq_self_eq_true, ByteArray.size, Nat.reduceAdd, Nat.reduceLeDiff, Nat.reduceEqDiff, Nat.reduceMul, Int.reduceToNat, reduceIte, Int.reduceLE, Int.reduceNeg, killS_app, A.kill, jq, if_false]; rfl) ?_
  refine runk_callE (D := [q]) rfl rfl rfl rfl rfl (fun i hi => by simp at hi; subst hi; exact nkq) (by simp) (cvs_cons cv_refl (cvs_cons cv_refl cvs_nil)) h2 ?_
  simp only [killL, putS]
  refine runk_exec (by simp only [exa, beq_self_eq_true, ByteArray.size, Nat.reduceAdd, Nat.reduceLeDiff, Nat.reduceEqDiff, Nat.reduceMul, Int.reduceToNat, reduceIte, Int.reduceLE, Int.reduceNeg]; rfl) ?_
  exact ⟨by simp, by rfl, by rfl, mle_refl _⟩
def StmtAt (s : Stmt) : Prop := ∀ (M : Mem) (j q : Nat) (u : Bool) (t : Nat) (bs : List UInt8) (b : Nat), PgAt M j q u t bs → (∀ d, M (b + d) = none) → bs.length + (stmtX s t).length ≤ 140737488351232 →
  CallE Tryd.prog 51 [.ptr j 0, .agg (cStmt s)] M [q] (.tup []) (pgM M j q true t (bs ++ stmtX s t))
set_option maxHeartbeats 2000000 in
theorem block_ok {M : Mem} {j q b : Nat} {u : Bool} {t : Nat} {bs : List UInt8} (h : PgAt M j q u t bs) (hM : ∀ d, M (b + d) = none) (l : List Stmt) (hx : ∀ x ∈ l, StmtAt x) (hl : l.length ≤ 1000000000) (hs : bs.length + (brcX t (stmtsX l (t + 1))).length ≤ 140737488351232) :
    CallE Tryd.prog 26 [.ptr j 0, .c (.sl (cStmts l))] M [q] (.tup []) (pgM M j q true t (bs ++ brcX t (stmtsX l (t + 1)))) := by
  have hjs : (M j).isSome = true := by rw [h.box]; rfl
  have hqs : (M q).isSome = true := by rw [h.row]; rfl
  have bj : ∀ d, j ≠ b + d := fun d k => by have := hM d; rw [← k] at this; rw [this] at hjs; cases hjs
  have bq : ∀ d, q ≠ b + d := fun d k => by have := hM d; rw [← k] at this; rw [this] at hqs; cases hqs
  have hbl : (brcX t (stmtsX l (t + 1))).length = 2 + (stmtsX l (t + 1)).length + t + 1 := by simp only [brcX, List.length_append, List.length_cons, List.length_nil, tabX_len]
  rw [hbl] at hs
  rw [cStmts_map]
  have h1 := lay_ok h [⟨#[123, 10]⟩] (by decide) (by simp [txtB]; omega)
  rw [show txtB [(⟨#[123, 10]⟩ : ByteArray)] = [123, 10] from rfl, show layU u [(⟨#[123, 10]⟩ : ByteArray)] = true by simp [layU]] at h1
  have hpj : ∀ (t' : Int) (bs' : List UInt8), pgM M j q true t' bs' j = some (.box 47 [.ptr j 0, .own q, .c (.int .i64 t')]) := fun t' bs' => by
    unfold pgM; rw [upd_ne _ _ h.ne, upd_same]; rfl
  have hw1 : IntKind.i64.wrap ((t : Int) + 1) = ((t + 1 : Nat) : Int) := wrap_succ (by omega)
  have hw2 : IntKind.i64.wrap (((t + 1 : Nat) : Int) - 1) = (t : Int) := by
    rw [show ((t + 1 : Nat) : Int) - 1 = (t : Int) by omega]; exact wrap_nat (by omega)
  refine (ok_eff tab_ok [q] Tryd.func26 (by kernel_rfl) rfl rfl (by rfl) (by rfl) ?ids ?res ?sub ?wfm (fun hWF Rr hkeep => ?_))
  case ids => intro a ha i hi; simp at ha; rcases ha with rfl | rfl <;> simp [A.ids] at hi; subst hi; exact hjs
  case res => intro i hi; simp [A.ids] at hi
  case sub => exact pgM_live
  case wfm => exact pgM_wf h
  have nkq : ¬ Rr.keep q := by rw [hkeep]; intro hh; exact hh.2 (by simp)
  have kept : ∀ i, Rr.keep i → (M i).isSome = true := fun i hi => by rw [hkeep] at hi; exact hi.1
  have jq : (j = q) = False := eq_false h.ne
  (repeat (first | refine W.seq ?_ | refine W.block ?_ | refine W.skip ?_))
  refine W.regionK tab_ok b (by decide) ?_
  refine runk_split 2 (by simp only [exa, beq_self_eq_true, ByteArray.size, Nat.reduceAdd, Nat.reduceLeDiff, Nat.reduceEqDiff, Nat.reduceMul, Int.reduceToNat, reduceIte, Int.reduceLE, Int.reduceNeg]; rfl) ?_
  refine runk_callE (D := [q]) rfl rfl rfl rfl rfl (fun i hi => by simp at hi; subst hi; exact nkq) (by simp) (cvs_cons cv_refl (cvs_cons cv_refl cvs_nil)) h1 ?_
  simp only [killL, putS]
  refine runk_exec (by simp only [exa, beq_self_eq_true, ByteArray.size, Nat.reduceAdd, Nat.reduceLeDiff, Nat.reduceEqDiff, Nat.reduceMul, Int.reduceToNat, reduceIte, Int.reduceLE, Int.reduceNeg]; rfl) ?_
  repeat (first | refine W.seq ?_ | refine W.block ?_ | refine W.skip ?_ | refine W.exit ?_ | refine W.region tab_ok b (by decide) (exec_run (by simp only [exa, beq_self_eq_true, ByteArray.size, Nat.reduceAdd, Nat.reduceLeDiff, Nat.reduceEqDiff, Nat.reduceMul, Int.reduceToNat, reduceIte, Int.reduceLE, Int.reduceNeg, killS_app, A.kill, jq, if_false, hpj, hw1, List.length_map]; rfl)) ?_)
  rw [tab_up h.ne]
  refine W.loop (ι := Nat) (fun k => ⟨upd (upd (upd (upd (fun _ => .top) 0 (.ptr j 0)) 16 (.c (.sl (l.map cStmt)))) 17 (.c (.int .i64 l.length))) 18 (.c (.int .i64 k)), pgM M j q true ((t + 1 : Nat) : Int) (bs ++ [123, 10] ++ stmtsX (l.take k) (t + 1))⟩) (fun k => k ≤ l.length) (fun k => l.length - k) 0 ?start (Nat.zero_le _) ?round
  case start =>
    refine le_mk ?sle ?mle ?swf ?mwf (fun i hi => pgM_live i (kept i hi)) (by rfl)
    case swf => repeat (first | exact swf_top _ | refine swf_upd ?_ (by intro i hi; simp [A.ids] at hi; first | (subst hi; exact pgM_live _ hjs) | done))
    case mwf => exact pgM_wf h hWF
    case mle =>
      have e : pgM M j q true ((t + 1 : Nat) : Int) (bs ++ [123, 10] ++ stmtsX (l.take 0) (t + 1)) = pgM M j q true ((t + 1 : Nat) : Int) (bs ++ [123, 10]) := by simp [stmtsX]
      exact mle_refl' e.symm
    case sle => repeat (first | exact sle_top _ | exact sle_refl _ | refine sle_upd ?_ (by first | rfl | (simp only [upd_app, killS_app, A.kill, jq, if_false, entry_zero, entry_succ, Nat.reduceEqDiff, reduceIte, List.length_map]; done)))
  case round =>
    intro k hk
    repeat (first | refine W.seq ?_ | refine W.block ?_ | refine W.skip ?_ | refine W.exit ?_ | refine W.region tab_ok b (by decide) (exec_run (by simp only [exa, beq_self_eq_true, ByteArray.size, Nat.reduceAdd, Nat.reduceLeDiff, Nat.reduceEqDiff, Nat.reduceMul, Int.reduceToNat, reduceIte, Int.reduceLE, Int.reduceNeg]; rfl)) ?_)
    refine W.cond rfl ?_ ?_
    · intro hlt
      simp only [decide_eq_true_eq, Int.ofNat_lt] at hlt
      obtain ⟨x, hxk⟩ : ∃ x, l[k]? = some x := ⟨_, List.getElem?_eq_getElem hlt⟩
      have htk := stmtsX_take hxk (t + 1)
      have hle := stmtsX_le l (k + 1) (t + 1)
      have hlen := congrArg List.length htk
      simp only [List.length_append] at hlen
      have b5 := hM 5
      obtain ⟨b1, hb1⟩ : ∃ b1, b1 = bs ++ [123, 10] ++ stmtsX (l.take k) (t + 1) := ⟨_, rfl⟩
      have hlb : b1.length = bs.length + 2 + (stmtsX (l.take k) (t + 1)).length := by rw [hb1, List.length_append, List.length_append]; rfl
      rw [← hb1]
      have hat := at_map (f := cStmt) hxk
      have hcx := hx x (List.mem_of_getElem? hxk)
      obtain ⟨xk, xn, xty, xm, xe, xt, xl⟩ := x
      have hf5 : pgM M j q true ((t + 1 : Nat) : Int) b1 (b + 5) = none := pgM_none h b5
      have b5j : (b + 5 = j) = False := eq_false (Ne.symm (bj 5))
      have b5q : (b + 5 = q) = False := eq_false (Ne.symm (bq 5))
      have jb5 : (j = b + 5) = False := eq_false (bj 5)
      simp only [cStmt] at hat hcx
      repeat (first | refine W.seq ?_ | refine W.block ?_ | refine W.skip ?_ | refine W.exit ?_ | refine W.region tab_ok b (by decide) (exec_run (by simp only [exa, beq_self_eq_true, ByteArray.size, Nat.reduceAdd, Nat.reduceLeDiff, Nat.reduceEqDiff, Nat.reduceMul, Int.reduceToNat, reduceIte, Int.reduceLE, Int.reduceNeg, hat, hf5]; rfl)) ?_)
      simp only [upd_upd]
      have hw := hcx (upd (pgM M j q true ((t + 1 : Nat) : Int) b1) (b + 5) (some (.box 39 [.c (.int .i64 xk), .c (.int .i64 xn), .c (.str xty), .c (.str xm), .c (.sl (cExprs xe)), .c (.sl (cStmts xt)), .c (.sl (cStmts xl))]))) j q true (t + 1) b1 (b + 6) (h.pgM.new (pgM_none h b5) rfl) (fun d => by rw [upd_ne _ _ (by omega), Nat.add_assoc]; exact pgM_none h (hM _)) (by omega)
      rw [pgM_upd (bj 5) (bq 5), pgM_pgM h.ne] at hw
      (repeat (first | refine W.seq ?_ | refine W.block ?_ | refine W.skip ?_))
      refine W.regionK tab_ok b (by decide) ?_
      refine runk_split 2 (by simp only [exa, beq_self_eq_true, ByteArray.size, Nat.reduceAdd, Nat.reduceLeDiff, Nat.reduceEqDiff, Nat.reduceMul, Int.reduceToNat, reduceIte, Int.reduceLE, Int.reduceNeg, upd_same]; rfl) ?_
      refine runk_callE (D := [q]) rfl rfl rfl rfl rfl (fun i hi => by simp at hi; subst hi; exact nkq) (by simp) (cvs_cons cv_refl (cvs_cons cv_refl cvs_nil)) hw ?_
      simp only [killL, putS]
      refine runk_exec (by simp only [exa, beq_self_eq_true, ByteArray.size, Nat.reduceAdd, Nat.reduceLeDiff, Nat.reduceEqDiff, Nat.reduceMul, Int.reduceToNat, reduceIte, Int.reduceLE, Int.reduceNeg]; rfl) ?_
      repeat (first | refine W.seq ?_ | refine W.block ?_ | refine W.skip ?_ | refine W.exit ?_ | refine W.region tab_ok b (by decide) (exec_run (by simp only [exa, beq_self_eq_true, ByteArray.size, Nat.reduceAdd, Nat.reduceLeDiff, Nat.reduceEqDiff, Nat.reduceMul, Int.reduceToNat, reduceIte, Int.reduceLE, Int.reduceNeg, killS_app, A.kill, jq, b5q, if_false]; rfl)) ?_)
      refine ⟨k + 1, hlt, by omega, ?_⟩
      refine le_mk ?sle ?mle ?swf ?mwf (fun i hi => pgM_live i (kept i hi)) (by rfl)
      case swf => repeat (first | exact swf_top _ | refine swf_upd ?_ (by intro i hi; simp [A.ids] at hi; first | (subst hi; exact pgM_live _ hjs) | done))
      case mwf => exact pgM_wf h hWF
      case mle => exact mle_eq (congrArg (pgM M j q true ((t + 1 : Nat) : Int)) (by rw [htk, hb1]; simp [List.append_assoc])) (mle_off (pgM_none h b5))
      case sle => repeat (first | exact sle_top _ | exact sle_refl _ | refine sle_upd ?_ (by first | rfl | (simp only [upd_app, killS_app, A.kill, entry_zero, entry_succ, Nat.reduceEqDiff, reduceIte, jq, if_false, wrap_succ (show k + 1 < 9223372036854775808 by omega)]; done)))
    · intro hge
      simp only [decide_eq_false_iff_not, Int.ofNat_lt] at hge
      obtain rfl : k = l.length := by omega
      rw [List.take_length]
      repeat (first | refine W.seq ?_ | refine W.block ?_ | refine W.skip ?_ | refine W.exit ?_ | refine W.region tab_ok b (by decide) (exec_run (by simp only [exa, beq_self_eq_true, ByteArray.size, Nat.reduceAdd, Nat.reduceLeDiff, Nat.reduceEqDiff, Nat.reduceMul, Int.reduceToNat, reduceIte, Int.reduceLE, Int.reduceNeg, hpj, hw2]; rfl)) ?_)
      rw [tab_up h.ne]
      have h2 := line_ok (h.pgM (u' := true) (t' := (t : Int)) (bs' := bs ++ [123, 10] ++ stmtsX l (t + 1))) [⟨#[125]⟩] (by decide) (by simp [txtB]; omega)
      rw [pgM_pgM h.ne] at h2
      (repeat (first | refine W.seq ?_ | refine W.block ?_ | refine W.skip ?_))
      refine W.regionK tab_ok b (by decide) ?_
      refine runk_split 2 (by simp only [exa, beq_self_eq_true, ByteArray.size, Nat.reduceAdd, Nat.reduceLeDiff, Nat.reduceEqDiff, Nat.reduceMul, Int.reduceToNat, reduceIte, Int.reduceLE, Int.reduceNeg]; rfl) ?_
      refine runk_callE (D := [q]) rfl rfl rfl rfl rfl (fun i hi => by simp at hi; subst hi; exact nkq) (by simp) (cvs_cons cv_refl (cvs_cons cv_refl cvs_nil)) h2 ?_
      simp only [killL, putS]
      refine runk_exec (by simp only [exa, beq_self_eq_true, ByteArray.size, Nat.reduceAdd, Nat.reduceLeDiff, Nat.reduceEqDiff, Nat.reduceMul, Int.reduceToNat, reduceIte, Int.reduceLE, Int.reduceNeg]; rfl) ?_
      refine ⟨by simp, by rfl, by rfl, mle_refl' ?_⟩
      simp [txtB, brcX, List.append_assoc]
end V
end Go.Proofs.YtbmbmcdaabhgnaaDoor
end
